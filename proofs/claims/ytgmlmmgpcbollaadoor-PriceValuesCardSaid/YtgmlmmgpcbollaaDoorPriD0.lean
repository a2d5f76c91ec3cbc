import Derived.Test.YtgmlmmgpcbollaaDoorProg
import Derived.Test.YtgmlmmgpcbollaaDoorDc
set_option linter.unusedVariables false
set_option maxRecDepth 100000
namespace Go.Proofs.Tryd.Dn
open Go.Dn

-- bibelot/bibelotlaw09.PriceShares
def c3 : DC :=
 (.seq (.reg [⟨(some 4), .mv, [.c (.b false)], none⟩] [0, 1])
 (.seq (.reg [⟨(some 13), .mv, [.t 0], none⟩,
   ⟨(some 14), .mv, [.t 1], none⟩,
   ⟨(some 15), (.call (.pu [])), [.c (.fn 17 [] []), .t 13, .t 14, .c (.i .i64 5)], none⟩,
   ⟨(some 5), .mv, [.t 15], none⟩] [5])
 (.seq (.reg [⟨(some 16), .mv, [.t 5], none⟩,
   ⟨(some 17), (.call (.pu [])), [.c (.fn 18 [] []), .t 16], none⟩,
   ⟨(some 6), .mv, [.t 17], none⟩] [5, 6])
 (.seq (.reg [⟨(some 19), .mv, [.t 6], none⟩,
   ⟨(some 20), (.call (.pu [])), [.c (.fn 19 [] []), .t 19], none⟩,
   ⟨(some 18), .mv, [.t 20], none⟩,
   ⟨(some 21), (.ext 0), [.t 18], none⟩,
   ⟨(some 22), (.ext 1), [.t 18], none⟩,
   ⟨(some 23), (.ext 2), [.t 18], none⟩,
   ⟨(some 7), .mv, [.t 21], none⟩,
   ⟨(some 8), .mv, [.t 22], none⟩,
   ⟨(some 9), .mv, [.t 23], none⟩] [5, 6, 7, 8, 9])
 (.seq (.reg [⟨(some 25), .mv, [.t 6], none⟩,
   ⟨(some 26), (.call (.pu [])), [.c (.fn 20 [] []), .t 25], none⟩,
   ⟨(some 24), .mv, [.t 26], none⟩,
   ⟨(some 27), (.ext 0), [.t 24], none⟩,
   ⟨(some 28), (.ext 1), [.t 24], none⟩,
   ⟨(some 10), .mv, [.t 27], none⟩,
   ⟨(some 11), .mv, [.t 28], none⟩] [5, 7, 8, 9, 10, 11])
 (.seq (.reg [⟨(some 29), .mv, [.t 5], none⟩,
   ⟨(some 30), (.call (.pu [])), [.c (.fn 21 [] []), .t 29], none⟩,
   ⟨(some 12), (.alloc [(.i .i64 0), (.i .i64 0)] true), [], none⟩,
   ⟨none, (.st 2), [.t 12, .t 30], none⟩] [5, 7, 8, 9, 10, 11, 12])
 (.seq (.reg [⟨(some 31), .mv, [.t 9], none⟩,
   ⟨(some 32), (.binI .eql), [.t 31, .c (.i .i64 0)], none⟩,
   ⟨(some 33), .mv, [.t 32], none⟩,
   ⟨(some 34), .mv, [.t 7], (some (33, true))⟩,
   ⟨(some 35), (.fadr 0 1 false), [.t 12], (some (33, true))⟩,
   ⟨(some 36), (.ld 1 false), [.t 35], (some (33, true))⟩,
   ⟨(some 37), (.binI .eql), [.t 34, .t 36], (some (33, true))⟩,
   ⟨(some 38), .pick, [.t 33, .t 37, .c (.b false)], none⟩,
   ⟨(some 39), .mv, [.t 38], none⟩,
   ⟨(some 40), .mv, [.t 8], (some (39, true))⟩,
   ⟨(some 41), (.fadr 1 1 false), [.t 12], (some (39, true))⟩,
   ⟨(some 42), (.ld 1 false), [.t 41], (some (39, true))⟩,
   ⟨(some 43), (.binI .eql), [.t 40, .t 42], (some (39, true))⟩,
   ⟨(some 44), .pick, [.t 39, .t 43, .c (.b false)], none⟩,
   ⟨(some 45), .mv, [.t 44], none⟩,
   ⟨(some 46), .mv, [.t 11], (some (45, true))⟩,
   ⟨(some 47), (.binI .eql), [.t 46, .c (.i .i64 0)], (some (45, true))⟩,
   ⟨(some 48), .pick, [.t 45, .t 47, .c (.b false)], none⟩,
   ⟨(some 49), .mv, [.t 48], none⟩,
   ⟨(some 50), .mv, [.t 10], (some (49, true))⟩,
   ⟨(some 51), .mv, [.t 5], (some (49, true))⟩,
   ⟨(some 52), (.call (.pu [])), [.c (.fn 23 [] []), .t 51], (some (49, true))⟩,
   ⟨(some 53), (.call (.pu [])), [.c (.fn 22 [] []), .t 50, .t 52], (some (49, true))⟩,
   ⟨(some 54), .pick, [.t 49, .t 53, .c (.b false)], none⟩,
   ⟨(some 55), .mv, [.t 54], none⟩,
   ⟨(some 56), (.call (.pu [])), [.c (.fn 24 [] [])], (some (55, true))⟩,
   ⟨(some 57), .pick, [.t 55, .t 56, .c (.b false)], none⟩,
   ⟨(some 4), .mv, [.t 57], none⟩] [4])
 .ret)))))))

def d3 : DFun := ⟨2, 58, c3, [.t 4]⟩

theorem ok3 : Fok Tryd.prog 3 d3 := ⟨Tryd.f3, Tryd.func3, by kernel_rfl, by kernel_rfl⟩

-- bibelot/bibelotlaw09.PriceRings
def b4_0 : DC :=
 (.seq (.seq (.reg [⟨(some 61), .mv, [.t 14], none⟩,
   ⟨(some 62), (.binI .lss), [.t 61, .c (.i .i64 2)], none⟩] [7, 8, 9, 12, 13, 14, 62])
 (.cond (.t 62)
  .skip
  (.exit 0)))
 (.seq (.block 1
  (.seq (.reg [⟨(some 66), .mv, [.t 8], none⟩,
    ⟨(some 67), .mv, [.t 13], none⟩,
    ⟨(some 68), (.call (.pu [])), [.c (.fn 30 [] []), .t 66, .t 67], none⟩,
    ⟨(some 65), .mv, [.t 68], none⟩,
    ⟨(some 69), (.ext 0), [.t 65], none⟩,
    ⟨(some 70), (.ext 1), [.t 65], none⟩,
    ⟨(some 15), .mv, [.t 69], none⟩,
    ⟨(some 16), .mv, [.t 70], none⟩] [7, 8, 9, 12, 13, 14, 15, 16])
  (.seq (.reg [⟨(some 72), .mv, [.t 8], none⟩,
    ⟨(some 73), .mv, [.t 13], none⟩,
    ⟨(some 74), (.call (.pu [])), [.c (.fn 31 [] []), .t 72, .t 73], none⟩,
    ⟨(some 71), .mv, [.t 74], none⟩,
    ⟨(some 75), (.ext 0), [.t 71], none⟩,
    ⟨(some 76), (.ext 1), [.t 71], none⟩,
    ⟨(some 17), .mv, [.t 75], none⟩,
    ⟨(some 18), .mv, [.t 76], none⟩] [7, 8, 9, 12, 13, 14, 15, 16, 17, 18])
  (.seq (.reg [⟨(some 77), .mv, [.t 12], none⟩,
    ⟨(some 78), .mv, [.t 13], none⟩,
    ⟨(some 79), (.call (.pu [])), [.c (.fn 28 [] []), .t 77, .t 78], none⟩,
    ⟨(some 19), .mv, [.t 79], none⟩] [7, 8, 9, 12, 13, 14, 15, 16, 17, 18, 19])
  (.seq (.seq (.reg [⟨(some 80), .mv, [.t 16], none⟩,
    ⟨(some 81), (.binI .neq), [.t 80, .c (.i .i64 0)], none⟩,
    ⟨(some 82), .mv, [.t 81], none⟩,
    ⟨(some 83), .mv, [.t 15], (some (82, false))⟩,
    ⟨(some 84), .mv, [.t 19], (some (82, false))⟩,
    ⟨(some 85), (.eqB true), [.t 83, .t 84], (some (82, false))⟩,
    ⟨(some 86), .pick, [.t 82, .c (.b true), .t 85], none⟩,
    ⟨(some 87), .mv, [.t 86], none⟩,
    ⟨(some 88), .mv, [.t 19], (some (87, false))⟩,
    ⟨(some 89), .notB, [.t 88], (some (87, false))⟩,
    ⟨(some 90), .mv, [.t 89], (some (87, false))⟩,
    ⟨(some 91), .mv, [.t 18], (some (90, true))⟩,
    ⟨(some 92), (.binI .neq), [.t 91, .c (.i .i64 1)], (some (90, true))⟩,
    ⟨(some 93), .mv, [.t 92], (some (90, true))⟩,
    ⟨(some 94), .mv, [.t 17], (some (93, false))⟩,
    ⟨(some 95), (.binI .neq), [.t 94, .c (.i .i64 0)], (some (93, false))⟩,
    ⟨(some 96), .pick, [.t 93, .c (.b true), .t 95], (some (90, true))⟩,
    ⟨(some 97), .pick, [.t 90, .t 96, .c (.b false)], (some (87, false))⟩,
    ⟨(some 98), .pick, [.t 87, .c (.b true), .t 97], none⟩,
    ⟨(some 99), .mv, [.t 98], none⟩,
    ⟨(some 100), .mv, [.t 19], (some (99, false))⟩,
    ⟨(some 101), .mv, [.t 100], (some (99, false))⟩,
    ⟨(some 102), .mv, [.t 18], (some (101, true))⟩,
    ⟨(some 103), (.binI .neq), [.t 102, .c (.i .i64 0)], (some (101, true))⟩,
    ⟨(some 104), .mv, [.t 103], (some (101, true))⟩,
    ⟨(some 105), .mv, [.t 17], (some (104, false))⟩,
    ⟨(some 106), .mv, [.t 7], (some (104, false))⟩,
    ⟨(some 107), .mv, [.t 13], (some (104, false))⟩,
    ⟨(some 108), (.call (.pu [])), [.c (.fn 32 [] []), .t 106, .t 107], (some (104, false))⟩,
    ⟨(some 109), (.binI .neq), [.t 105, .t 108], (some (104, false))⟩,
    ⟨(some 110), .pick, [.t 104, .c (.b true), .t 109], (some (101, true))⟩,
    ⟨(some 111), .pick, [.t 101, .t 110, .c (.b false)], (some (99, false))⟩,
    ⟨(some 112), .pick, [.t 99, .c (.b true), .t 111], none⟩] [7, 8, 9, 12, 14, 112])
  (.cond (.t 112)
   (.seq (.reg [⟨(some 6), .mv, [.c (.b false)], none⟩] [6])
   .ret)
   .skip))
  (.reg [⟨(some 113), .mv, [.t 9], none⟩,
    ⟨(some 13), .mv, [.t 113], none⟩] [7, 8, 9, 12, 13, 14]))))))
 (.reg [⟨(some 63), .mv, [.t 14], none⟩,
   ⟨(some 64), (.binI .add), [.t 63, .c (.i .i64 1)], none⟩,
   ⟨(some 14), .mv, [.t 64], none⟩] [7, 8, 9, 12, 13, 14])))

def l4_1 : DC :=
 (.loop [7, 8, 9, 12, 13, 14] b4_0)

def c4 : DC :=
 (.seq (.reg [⟨(some 6), .mv, [.c (.b false)], none⟩] [0, 1, 2])
 (.seq (.reg [⟨(some 20), .mv, [.t 0], none⟩,
   ⟨(some 21), .mv, [.t 1], none⟩,
   ⟨(some 22), (.call (.pu [])), [.c (.fn 17 [] []), .t 20, .t 21, .c (.i .i64 5)], none⟩,
   ⟨(some 7), .mv, [.t 22], none⟩] [2, 7])
 (.seq (.reg [⟨(some 23), .mv, [.t 7], none⟩,
   ⟨(some 24), (.call (.pu [])), [.c (.fn 18 [] []), .t 23], none⟩,
   ⟨(some 8), .mv, [.t 24], none⟩] [2, 7, 8])
 (.seq (.reg [⟨(some 26), .mv, [.t 8], none⟩,
   ⟨(some 27), (.call (.pu [])), [.c (.fn 25 [] []), .t 26], none⟩,
   ⟨(some 25), .mv, [.t 27], none⟩,
   ⟨(some 28), (.ext 0), [.t 25], none⟩,
   ⟨(some 29), (.ext 1), [.t 25], none⟩,
   ⟨(some 30), (.ext 2), [.t 25], none⟩,
   ⟨(some 9), .mv, [.t 28], none⟩,
   ⟨(some 10), .mv, [.t 29], none⟩,
   ⟨(some 11), .mv, [.t 30], none⟩] [2, 7, 8, 9, 10, 11])
 (.seq (.reg [⟨(some 31), .mv, [.t 7], none⟩,
   ⟨(some 32), (.call (.pu [])), [.c (.fn 26 [] []), .t 31, .c (.i .i64 1), .c (.i .i64 1)], none⟩,
   ⟨(some 12), .mv, [.t 32], none⟩] [2, 7, 8, 9, 10, 11, 12])
 (.seq (.seq (.reg [⟨(some 33), .mv, [.t 11], none⟩,
   ⟨(some 34), (.binI .neq), [.t 33, .c (.i .i64 0)], none⟩,
   ⟨(some 35), .mv, [.t 34], none⟩,
   ⟨(some 36), .mv, [.t 10], (some (35, false))⟩,
   ⟨(some 37), .mv, [.t 12], (some (35, false))⟩,
   ⟨(some 38), (.call (.pu [])), [.c (.fn 27 [] []), .t 37], (some (35, false))⟩,
   ⟨(some 39), (.eqB true), [.t 36, .t 38], (some (35, false))⟩,
   ⟨(some 40), .pick, [.t 35, .c (.b true), .t 39], none⟩,
   ⟨(some 41), .mv, [.t 40], none⟩,
   ⟨(some 42), .mv, [.t 10], (some (41, false))⟩,
   ⟨(some 43), .mv, [.t 42], (some (41, false))⟩,
   ⟨(some 44), .mv, [.t 12], (some (43, true))⟩,
   ⟨(some 45), .mv, [.t 9], (some (43, true))⟩,
   ⟨(some 46), (.call (.pu [])), [.c (.fn 28 [] []), .t 44, .t 45], (some (43, true))⟩,
   ⟨(some 47), .notB, [.t 46], (some (43, true))⟩,
   ⟨(some 48), .pick, [.t 43, .t 47, .c (.b false)], (some (41, false))⟩,
   ⟨(some 49), .pick, [.t 41, .c (.b true), .t 48], none⟩,
   ⟨(some 50), .mv, [.t 49], none⟩,
   ⟨(some 51), .mv, [.t 10], (some (50, false))⟩,
   ⟨(some 52), .notB, [.t 51], (some (50, false))⟩,
   ⟨(some 53), .mv, [.t 52], (some (50, false))⟩,
   ⟨(some 54), .mv, [.t 9], (some (53, true))⟩,
   ⟨(some 55), (.len 0), [.t 54], (some (53, true))⟩,
   ⟨(some 56), (.binI .neq), [.t 55, .c (.i .i64 0)], (some (53, true))⟩,
   ⟨(some 57), .pick, [.t 53, .t 56, .c (.b false)], (some (50, false))⟩,
   ⟨(some 58), .pick, [.t 50, .c (.b true), .t 57], none⟩] [2, 7, 8, 9, 12, 58])
 (.cond (.t 58)
  (.seq (.reg [⟨(some 6), .mv, [.c (.b false)], none⟩] [6])
  .ret)
  .skip))
 (.seq (.reg [⟨(some 59), .mv, [.t 2], none⟩,
   ⟨(some 60), (.call (.pu [])), [.c (.fn 29 [] []), .t 59, .c (.i .i64 8)], none⟩,
   ⟨(some 13), .mv, [.t 60], none⟩] [7, 8, 9, 12, 13])
 (.seq (.seq (.reg [⟨(some 14), .mv, [.c (.i .i64 0)], none⟩] [7, 8, 9, 12, 13, 14])
 (.block 0
  l4_1))
 (.seq (.reg [⟨(some 114), (.call (.pu [])), [.c (.fn 24 [] [])], none⟩,
   ⟨(some 6), .mv, [.t 114], none⟩] [6])
 .ret)))))))))

def d4 : DFun := ⟨3, 115, c4, [.t 6]⟩

theorem ok4 : Fok Tryd.prog 4 d4 := ⟨Tryd.f4, Tryd.func4, by kernel_rfl, by kernel_rfl⟩

-- bibelot/bibelotlaw09.PriceWeak
def b5_0 : DC :=
 (.seq (.seq (.reg [⟨(some 25), .mv, [.t 11], none⟩,
   ⟨(some 26), (.binI .lss), [.t 25, .c (.i .i64 2)], none⟩] [7, 8, 9, 10, 11, 26])
 (.cond (.t 26)
  .skip
  (.exit 0)))
 (.seq (.block 1
  (.seq (.reg [⟨(some 30), .mv, [.t 8], none⟩,
    ⟨(some 31), .mv, [.t 9], none⟩,
    ⟨(some 32), .mv, [.t 10], none⟩,
    ⟨(some 33), (.call (.pu [])), [.c (.fn 33 [] []), .t 30, .t 31, .t 32], none⟩,
    ⟨(some 29), .mv, [.t 33], none⟩,
    ⟨(some 34), (.ext 0), [.t 29], none⟩,
    ⟨(some 35), (.ext 1), [.t 29], none⟩,
    ⟨(some 36), (.ext 2), [.t 29], none⟩,
    ⟨(some 12), .mv, [.t 34], none⟩,
    ⟨(some 13), .mv, [.t 35], none⟩,
    ⟨(some 14), .mv, [.t 36], none⟩] [7, 8, 9, 10, 11, 12, 13, 14])
  (.seq (.seq (.reg [⟨(some 37), .mv, [.t 9], none⟩,
    ⟨(some 38), (.binI .lss), [.t 37, .c (.i .i64 0)], none⟩,
    ⟨(some 39), .mv, [.t 38], none⟩,
    ⟨(some 40), .mv, [.t 9], (some (39, false))⟩,
    ⟨(some 41), .mv, [.t 10], (some (39, false))⟩,
    ⟨(some 42), (.binI .gtr), [.t 40, .t 41], (some (39, false))⟩,
    ⟨(some 43), .pick, [.t 39, .c (.b true), .t 42], none⟩,
    ⟨(some 44), .mv, [.t 43], none⟩,
    ⟨(some 45), .mv, [.t 10], (some (44, false))⟩,
    ⟨(some 46), (.binI .lss), [.t 45, .c (.i .i64 1)], (some (44, false))⟩,
    ⟨(some 47), .pick, [.t 44, .c (.b true), .t 46], none⟩,
    ⟨(some 48), .mv, [.t 47], none⟩,
    ⟨(some 49), .mv, [.t 10], (some (48, false))⟩,
    ⟨(some 50), (.binI .gtr), [.t 49, .c (.i .i64 2000)], (some (48, false))⟩,
    ⟨(some 51), .pick, [.t 48, .c (.b true), .t 50], none⟩] [7, 8, 9, 10, 11, 12, 13, 14, 51])
  (.cond (.t 51)
   (.seq (.reg [⟨(some 52), .mv, [.t 14], none⟩,
     ⟨(some 53), (.binI .neq), [.t 52, .c (.i .i64 1)], none⟩,
     ⟨(some 54), .mv, [.t 53], none⟩,
     ⟨(some 55), .mv, [.t 13], (some (54, false))⟩,
     ⟨(some 56), .pick, [.t 54, .c (.b true), .t 55], none⟩,
     ⟨(some 57), .mv, [.t 56], none⟩,
     ⟨(some 58), .mv, [.t 12], (some (57, false))⟩,
     ⟨(some 59), (.len 0), [.t 58], (some (57, false))⟩,
     ⟨(some 60), (.binI .neq), [.t 59, .c (.i .i64 0)], (some (57, false))⟩,
     ⟨(some 61), .pick, [.t 57, .c (.b true), .t 60], none⟩] [7, 8, 9, 10, 11, 61])
   (.cond (.t 61)
    (.seq (.reg [⟨(some 6), .mv, [.c (.b false)], none⟩] [6])
    .ret)
    .skip))
   (.seq (.reg [⟨(some 62), .mv, [.t 7], none⟩,
     ⟨(some 63), .mv, [.t 9], none⟩,
     ⟨(some 64), .mv, [.t 10], none⟩,
     ⟨(some 65), (.call (.pu [])), [.c (.fn 26 [] []), .t 62, .t 63, .t 64], none⟩,
     ⟨(some 15), .mv, [.t 65], none⟩] [7, 8, 9, 10, 11, 12, 13, 14, 15])
   (.seq (.reg [⟨(some 66), .mv, [.t 14], none⟩,
     ⟨(some 67), (.binI .neq), [.t 66, .c (.i .i64 0)], none⟩,
     ⟨(some 68), .mv, [.t 67], none⟩,
     ⟨(some 69), .mv, [.t 13], (some (68, false))⟩,
     ⟨(some 70), .mv, [.t 15], (some (68, false))⟩,
     ⟨(some 71), (.call (.pu [])), [.c (.fn 27 [] []), .t 70], (some (68, false))⟩,
     ⟨(some 72), (.eqB true), [.t 69, .t 71], (some (68, false))⟩,
     ⟨(some 73), .pick, [.t 68, .c (.b true), .t 72], none⟩,
     ⟨(some 74), .mv, [.t 73], none⟩,
     ⟨(some 75), .mv, [.t 13], (some (74, false))⟩,
     ⟨(some 76), .mv, [.t 75], (some (74, false))⟩,
     ⟨(some 77), .mv, [.t 15], (some (76, true))⟩,
     ⟨(some 78), .mv, [.t 12], (some (76, true))⟩,
     ⟨(some 79), (.call (.pu [])), [.c (.fn 28 [] []), .t 77, .t 78], (some (76, true))⟩,
     ⟨(some 80), .notB, [.t 79], (some (76, true))⟩,
     ⟨(some 81), .pick, [.t 76, .t 80, .c (.b false)], (some (74, false))⟩,
     ⟨(some 82), .pick, [.t 74, .c (.b true), .t 81], none⟩,
     ⟨(some 83), .mv, [.t 82], none⟩,
     ⟨(some 84), .mv, [.t 13], (some (83, false))⟩,
     ⟨(some 85), .notB, [.t 84], (some (83, false))⟩,
     ⟨(some 86), .mv, [.t 85], (some (83, false))⟩,
     ⟨(some 87), .mv, [.t 12], (some (86, true))⟩,
     ⟨(some 88), (.len 0), [.t 87], (some (86, true))⟩,
     ⟨(some 89), (.binI .neq), [.t 88, .c (.i .i64 0)], (some (86, true))⟩,
     ⟨(some 90), .pick, [.t 86, .t 89, .c (.b false)], (some (83, false))⟩,
     ⟨(some 91), .pick, [.t 83, .c (.b true), .t 90], none⟩] [7, 8, 9, 10, 11, 91])
   (.cond (.t 91)
    (.seq (.reg [⟨(some 6), .mv, [.c (.b false)], none⟩] [6])
    .ret)
    .skip)))))
  (.seq (.reg [⟨(some 92), .mv, [.t 10], none⟩,
    ⟨(some 93), (.conv .u64), [.t 92], none⟩,
    ⟨(some 94), (.binI .rem), [.t 93, .c (.i .u64 2000)], none⟩,
    ⟨(some 95), (.conv .i64), [.t 94], none⟩,
    ⟨(some 96), (.binI .add), [.c (.i .i64 1), .t 95], none⟩,
    ⟨(some 10), .mv, [.t 96], none⟩] [7, 8, 9, 10, 11])
  (.reg [⟨(some 97), .mv, [.t 9], none⟩,
    ⟨(some 98), (.conv .u64), [.t 97], none⟩,
    ⟨(some 99), .mv, [.t 10], none⟩,
    ⟨(some 100), (.binI .add), [.t 99, .c (.i .i64 1)], none⟩,
    ⟨(some 101), (.conv .u64), [.t 100], none⟩,
    ⟨(some 102), (.binI .rem), [.t 98, .t 101], none⟩,
    ⟨(some 103), (.conv .i64), [.t 102], none⟩,
    ⟨(some 9), .mv, [.t 103], none⟩] [7, 8, 9, 10, 11])))))
 (.reg [⟨(some 27), .mv, [.t 11], none⟩,
   ⟨(some 28), (.binI .add), [.t 27, .c (.i .i64 1)], none⟩,
   ⟨(some 11), .mv, [.t 28], none⟩] [7, 8, 9, 10, 11])))

def l5_1 : DC :=
 (.loop [7, 8, 9, 10, 11] b5_0)

def c5 : DC :=
 (.seq (.reg [⟨(some 5), (.box true), [.t 2], none⟩,
   ⟨(some 6), .mv, [.c (.b false)], none⟩] [0, 1, 5])
 (.seq (.reg [⟨(some 16), .mv, [.t 0], none⟩,
   ⟨(some 17), .mv, [.t 1], none⟩,
   ⟨(some 18), (.call (.pu [])), [.c (.fn 17 [] []), .t 16, .t 17, .c (.i .i64 5)], none⟩,
   ⟨(some 7), .mv, [.t 18], none⟩] [5, 7])
 (.seq (.reg [⟨(some 19), .mv, [.t 7], none⟩,
   ⟨(some 20), (.call (.pu [])), [.c (.fn 18 [] []), .t 19], none⟩,
   ⟨(some 8), .mv, [.t 20], none⟩] [5, 7, 8])
 (.seq (.reg [⟨(some 21), (.ixA 2 1 false), [.t 5, .c (.i .i64 0)], none⟩,
   ⟨(some 22), (.ld 1 false), [.t 21], none⟩,
   ⟨(some 23), (.ixA 2 1 false), [.t 5, .c (.i .i64 1)], none⟩,
   ⟨(some 24), (.ld 1 false), [.t 23], none⟩,
   ⟨(some 9), .mv, [.t 22], none⟩,
   ⟨(some 10), .mv, [.t 24], none⟩] [7, 8, 9, 10])
 (.seq (.seq (.reg [⟨(some 11), .mv, [.c (.i .i64 0)], none⟩] [7, 8, 9, 10, 11])
 (.block 0
  l5_1))
 (.seq (.reg [⟨(some 104), (.call (.pu [])), [.c (.fn 24 [] [])], none⟩,
   ⟨(some 6), .mv, [.t 104], none⟩] [6])
 .ret))))))

def d5 : DFun := ⟨3, 105, c5, [.t 6]⟩

theorem ok5 : Fok Tryd.prog 5 d5 := ⟨Tryd.f5, Tryd.func5, by kernel_rfl, by kernel_rfl⟩

-- bibelot/bibelotlaw09.PriceNearly
def b6_0 : DC :=
 (.seq (.seq (.reg [⟨(some 142), .mv, [.t 23], none⟩,
   ⟨(some 143), .mv, [.t 13], none⟩,
   ⟨(some 144), (.len 0), [.t 143], none⟩,
   ⟨(some 145), (.binI .lss), [.t 142, .t 144], none⟩] [5, 13, 21, 22, 23, 145])
 (.cond (.t 145)
  .skip
  (.exit 0)))
 (.seq (.block 1
  (.seq (.seq (.reg [⟨(some 148), .mv, [.t 13], none⟩,
    ⟨(some 149), .mv, [.t 23], none⟩,
    ⟨(some 150), (.ixS 1 false), [.t 148, .t 149], none⟩,
    ⟨(some 151), (.ld 1 false), [.t 150], none⟩,
    ⟨(some 152), (.binI .lss), [.t 151, .c (.i .i64 0)], none⟩,
    ⟨(some 153), .mv, [.t 152], none⟩,
    ⟨(some 154), .mv, [.t 13], (some (153, false))⟩,
    ⟨(some 155), .mv, [.t 23], (some (153, false))⟩,
    ⟨(some 156), (.ixS 1 false), [.t 154, .t 155], (some (153, false))⟩,
    ⟨(some 157), (.ld 1 false), [.t 156], (some (153, false))⟩,
    ⟨(some 158), .mv, [.t 5], (some (153, false))⟩,
    ⟨(some 159), (.len 0), [.t 158], (some (153, false))⟩,
    ⟨(some 160), (.binI .geq), [.t 157, .t 159], (some (153, false))⟩,
    ⟨(some 161), .pick, [.t 153, .c (.b true), .t 160], none⟩,
    ⟨(some 162), .mv, [.t 161], none⟩,
    ⟨(some 163), .mv, [.t 23], (some (162, false))⟩,
    ⟨(some 164), (.binI .gtr), [.t 163, .c (.i .i64 0)], (some (162, false))⟩,
    ⟨(some 165), .mv, [.t 164], (some (162, false))⟩,
    ⟨(some 166), .mv, [.t 13], (some (165, true))⟩,
    ⟨(some 167), .mv, [.t 23], (some (165, true))⟩,
    ⟨(some 168), (.binI .sub), [.t 167, .c (.i .i64 1)], (some (165, true))⟩,
    ⟨(some 169), (.ixS 1 false), [.t 166, .t 168], (some (165, true))⟩,
    ⟨(some 170), (.ld 1 false), [.t 169], (some (165, true))⟩,
    ⟨(some 171), .mv, [.t 13], (some (165, true))⟩,
    ⟨(some 172), .mv, [.t 23], (some (165, true))⟩,
    ⟨(some 173), (.ixS 1 false), [.t 171, .t 172], (some (165, true))⟩,
    ⟨(some 174), (.ld 1 false), [.t 173], (some (165, true))⟩,
    ⟨(some 175), (.binI .geq), [.t 170, .t 174], (some (165, true))⟩,
    ⟨(some 176), .pick, [.t 165, .t 175, .c (.b false)], (some (162, false))⟩,
    ⟨(some 177), .pick, [.t 162, .c (.b true), .t 176], none⟩] [5, 13, 21, 22, 23, 177])
  (.cond (.t 177)
   (.seq (.reg [⟨(some 4), .mv, [.c (.b false)], none⟩] [4])
   .ret)
   .skip))
  (.seq (.reg [⟨(some 178), .mv, [.t 21], none⟩,
    ⟨(some 179), .mv, [.t 13], none⟩,
    ⟨(some 180), .mv, [.t 23], none⟩,
    ⟨(some 181), (.ixS 1 false), [.t 179, .t 180], none⟩,
    ⟨(some 182), (.ld 1 false), [.t 181], none⟩,
    ⟨(some 183), (.ixS 1 false), [.t 178, .t 182], none⟩,
    ⟨none, (.st 1), [.t 183, .c (.b true)], none⟩] [5, 13, 21, 22, 23])
  (.reg [⟨(some 184), .mv, [.t 22], none⟩,
    ⟨(some 185), .mv, [.t 5], none⟩,
    ⟨(some 186), .mv, [.t 13], none⟩,
    ⟨(some 187), .mv, [.t 23], none⟩,
    ⟨(some 188), (.ixS 1 false), [.t 186, .t 187], none⟩,
    ⟨(some 189), (.ld 1 false), [.t 188], none⟩,
    ⟨(some 190), .mv, [.t 13], none⟩,
    ⟨(some 191), .mv, [.t 23], none⟩,
    ⟨(some 192), (.ixS 1 false), [.t 190, .t 191], none⟩,
    ⟨(some 193), (.ld 1 false), [.t 192], none⟩,
    ⟨(some 194), (.binI .add), [.t 193, .c (.i .i64 1)], none⟩,
    ⟨(some 195), (.slc true true false 2 true), [.t 185, .t 189, .t 194], none⟩,
    ⟨(some 196), (.call (.pu [])), [.c (.fn 18 [] []), .t 195], none⟩,
    ⟨(some 197), (.app 2 true 48), [.t 184, .t 196], none⟩,
    ⟨(some 22), .mv, [.t 197], none⟩] [5, 13, 21, 22, 23]))))
 (.reg [⟨(some 146), .mv, [.t 23], none⟩,
   ⟨(some 147), (.binI .add), [.t 146, .c (.i .i64 1)], none⟩,
   ⟨(some 23), .mv, [.t 147], none⟩] [5, 13, 21, 22, 23])))

def l6_1 : DC :=
 (.loop [5, 13, 21, 22, 23] b6_0)

def b6_2 : DC :=
 (.seq (.seq (.reg [⟨(some 209), .mv, [.t 27], none⟩,
   ⟨(some 210), .mv, [.t 5], none⟩,
   ⟨(some 211), (.len 0), [.t 210], none⟩,
   ⟨(some 212), (.binI .lss), [.t 209, .t 211], none⟩] [5, 21, 22, 27, 212])
 (.cond (.t 212)
  .skip
  (.exit 2)))
 (.seq (.block 3
  (.seq (.seq (.reg [⟨(some 215), .mv, [.t 21], none⟩,
    ⟨(some 216), .mv, [.t 27], none⟩,
    ⟨(some 217), (.ixS 1 false), [.t 215, .t 216], none⟩,
    ⟨(some 218), (.ld 1 false), [.t 217], none⟩] [5, 21, 22, 27, 218])
  (.cond (.t 218)
   (.exit 3)
   .skip))
  (.seq (.reg [⟨(some 28), .mv, [.c .nilsl], none⟩] [5, 21, 22, 27, 28])
  (.seq (.reg [⟨(some 219), .mv, [.t 28], none⟩,
    ⟨(some 220), .mv, [.t 22], none⟩,
    ⟨(some 221), (.app 2 true 48), [.t 219, .t 220], none⟩,
    ⟨(some 28), .mv, [.t 221], none⟩] [5, 21, 22, 27, 28])
  (.seq (.reg [⟨(some 222), .mv, [.t 28], none⟩,
    ⟨(some 223), .mv, [.t 5], none⟩,
    ⟨(some 224), .mv, [.t 27], none⟩,
    ⟨(some 225), .mv, [.t 27], none⟩,
    ⟨(some 226), (.binI .add), [.t 225, .c (.i .i64 1)], none⟩,
    ⟨(some 227), (.slc true true false 2 true), [.t 223, .t 224, .t 226], none⟩,
    ⟨(some 228), (.call (.pu [])), [.c (.fn 18 [] []), .t 227], none⟩,
    ⟨(some 229), (.app 2 true 48), [.t 222, .t 228], none⟩,
    ⟨(some 28), .mv, [.t 229], none⟩] [5, 21, 22, 27, 28])
  (.seq (.reg [⟨(some 231), .mv, [.t 28], none⟩,
    ⟨(some 232), (.call (.pu [])), [.c (.fn 25 [] []), .t 231], none⟩,
    ⟨(some 230), .mv, [.t 232], none⟩,
    ⟨(some 233), (.ext 0), [.t 230], none⟩,
    ⟨(some 234), (.ext 1), [.t 230], none⟩,
    ⟨(some 235), (.ext 2), [.t 230], none⟩,
    ⟨(some 29), .mv, [.t 233], none⟩,
    ⟨(some 30), .mv, [.t 234], none⟩,
    ⟨(some 31), .mv, [.t 235], none⟩] [5, 21, 22, 27, 30, 31])
  (.seq (.reg [⟨(some 236), .mv, [.t 31], none⟩,
    ⟨(some 237), (.binI .neq), [.t 236, .c (.i .i64 0)], none⟩,
    ⟨(some 238), .mv, [.t 237], none⟩,
    ⟨(some 239), .mv, [.t 30], (some (238, false))⟩,
    ⟨(some 240), .notB, [.t 239], (some (238, false))⟩,
    ⟨(some 241), .pick, [.t 238, .c (.b true), .t 240], none⟩] [5, 21, 22, 27, 241])
  (.cond (.t 241)
   (.seq (.reg [⟨(some 4), .mv, [.c (.b false)], none⟩] [4])
   .ret)
   .skip))))))))
 (.reg [⟨(some 213), .mv, [.t 27], none⟩,
   ⟨(some 214), (.binI .add), [.t 213, .c (.i .i64 1)], none⟩,
   ⟨(some 27), .mv, [.t 214], none⟩] [5, 21, 22, 27])))

def l6_3 : DC :=
 (.loop [5, 21, 22, 27] b6_2)

def c6 : DC :=
 (.seq (.reg [⟨(some 4), .mv, [.c (.b false)], none⟩] [0, 1])
 (.seq (.reg [⟨(some 32), .mv, [.t 0], none⟩,
   ⟨(some 33), .mv, [.t 1], none⟩,
   ⟨(some 34), (.call (.pu [])), [.c (.fn 17 [] []), .t 32, .t 33, .c (.i .i64 5)], none⟩,
   ⟨(some 5), .mv, [.t 34], none⟩] [5])
 (.seq (.reg [⟨(some 35), .mv, [.t 5], none⟩,
   ⟨(some 36), (.call (.pu [])), [.c (.fn 18 [] []), .t 35], none⟩,
   ⟨(some 6), .mv, [.t 36], none⟩] [5, 6])
 (.seq (.reg [⟨(some 38), .mv, [.t 6], none⟩,
   ⟨(some 39), (.call (.pu [])), [.c (.fn 19 [] []), .t 38], none⟩,
   ⟨(some 37), .mv, [.t 39], none⟩,
   ⟨(some 40), (.ext 0), [.t 37], none⟩,
   ⟨(some 41), (.ext 1), [.t 37], none⟩,
   ⟨(some 42), (.ext 2), [.t 37], none⟩,
   ⟨(some 7), .mv, [.t 40], none⟩,
   ⟨(some 8), .mv, [.t 41], none⟩,
   ⟨(some 9), .mv, [.t 42], none⟩] [5, 6, 7, 8, 9])
 (.seq (.reg [⟨(some 44), .mv, [.t 6], none⟩,
   ⟨(some 45), (.call (.pu [])), [.c (.fn 25 [] []), .t 44], none⟩,
   ⟨(some 43), .mv, [.t 45], none⟩,
   ⟨(some 46), (.ext 0), [.t 43], none⟩,
   ⟨(some 47), (.ext 1), [.t 43], none⟩,
   ⟨(some 48), (.ext 2), [.t 43], none⟩,
   ⟨(some 10), .mv, [.t 46], none⟩,
   ⟨(some 11), .mv, [.t 47], none⟩,
   ⟨(some 12), .mv, [.t 48], none⟩] [5, 6, 7, 8, 9, 11, 12])
 (.seq (.reg [⟨(some 50), .mv, [.t 6], none⟩,
   ⟨(some 51), (.call (.pu [])), [.c (.fn 20 [] []), .t 50], none⟩,
   ⟨(some 49), .mv, [.t 51], none⟩,
   ⟨(some 52), (.ext 0), [.t 49], none⟩,
   ⟨(some 53), (.ext 1), [.t 49], none⟩,
   ⟨(some 13), .mv, [.t 52], none⟩,
   ⟨(some 14), .mv, [.t 53], none⟩] [5, 6, 7, 8, 9, 11, 12, 13, 14])
 (.seq (.seq (.reg [⟨(some 54), .mv, [.t 9], none⟩,
   ⟨(some 55), (.binI .neq), [.t 54, .c (.i .i64 0)], none⟩,
   ⟨(some 56), .mv, [.t 55], none⟩,
   ⟨(some 57), .mv, [.t 12], (some (56, false))⟩,
   ⟨(some 58), (.binI .neq), [.t 57, .c (.i .i64 0)], (some (56, false))⟩,
   ⟨(some 59), .pick, [.t 56, .c (.b true), .t 58], none⟩,
   ⟨(some 60), .mv, [.t 59], none⟩,
   ⟨(some 61), .mv, [.t 14], (some (60, false))⟩,
   ⟨(some 62), (.binI .neq), [.t 61, .c (.i .i64 0)], (some (60, false))⟩,
   ⟨(some 63), .pick, [.t 60, .c (.b true), .t 62], none⟩,
   ⟨(some 64), .mv, [.t 63], none⟩,
   ⟨(some 65), .mv, [.t 7], (some (64, false))⟩,
   ⟨(some 66), (.binI .lss), [.t 65, .c (.i .i64 1)], (some (64, false))⟩,
   ⟨(some 67), .pick, [.t 64, .c (.b true), .t 66], none⟩,
   ⟨(some 68), .mv, [.t 67], none⟩,
   ⟨(some 69), .mv, [.t 7], (some (68, false))⟩,
   ⟨(some 70), .mv, [.t 8], (some (68, false))⟩,
   ⟨(some 71), (.binI .gtr), [.t 69, .t 70], (some (68, false))⟩,
   ⟨(some 72), .pick, [.t 68, .c (.b true), .t 71], none⟩,
   ⟨(some 73), .mv, [.t 72], none⟩,
   ⟨(some 74), .mv, [.t 8], (some (73, false))⟩,
   ⟨(some 75), (.binI .gtr), [.t 74, .c (.i .i64 2000)], (some (73, false))⟩,
   ⟨(some 76), .pick, [.t 73, .c (.b true), .t 75], none⟩,
   ⟨(some 77), .mv, [.t 76], none⟩,
   ⟨(some 78), .mv, [.t 11], (some (77, false))⟩,
   ⟨(some 79), .notB, [.t 78], (some (77, false))⟩,
   ⟨(some 80), .mv, [.t 79], (some (77, false))⟩,
   ⟨(some 81), .mv, [.t 7], (some (80, true))⟩,
   ⟨(some 82), .mv, [.t 8], (some (80, true))⟩,
   ⟨(some 83), (.binI .neq), [.t 81, .t 82], (some (80, true))⟩,
   ⟨(some 84), .pick, [.t 80, .t 83, .c (.b false)], (some (77, false))⟩,
   ⟨(some 85), .pick, [.t 77, .c (.b true), .t 84], none⟩,
   ⟨(some 86), .mv, [.t 85], none⟩,
   ⟨(some 87), .mv, [.t 13], (some (86, false))⟩,
   ⟨(some 88), (.len 0), [.t 87], (some (86, false))⟩,
   ⟨(some 89), (.binI .lss), [.t 88, .c (.i .i64 1)], (some (86, false))⟩,
   ⟨(some 90), .pick, [.t 86, .c (.b true), .t 89], none⟩,
   ⟨(some 91), .mv, [.t 90], none⟩,
   ⟨(some 92), .mv, [.t 13], (some (91, false))⟩,
   ⟨(some 93), (.len 0), [.t 92], (some (91, false))⟩,
   ⟨(some 94), .mv, [.t 5], (some (91, false))⟩,
   ⟨(some 95), (.len 0), [.t 94], (some (91, false))⟩,
   ⟨(some 96), (.binI .gtr), [.t 93, .t 95], (some (91, false))⟩,
   ⟨(some 97), .pick, [.t 91, .c (.b true), .t 96], none⟩,
   ⟨(some 98), .mv, [.t 97], none⟩,
   ⟨(some 99), .mv, [.t 13], (some (98, false))⟩,
   ⟨(some 100), (.len 0), [.t 99], (some (98, false))⟩,
   ⟨(some 101), .mv, [.t 5], (some (98, false))⟩,
   ⟨(some 102), (.len 0), [.t 101], (some (98, false))⟩,
   ⟨(some 103), (.binI .eql), [.t 100, .t 102], (some (98, false))⟩,
   ⟨(some 104), .mv, [.t 11], (some (98, false))⟩,
   ⟨(some 105), (.eqB false), [.t 103, .t 104], (some (98, false))⟩,
   ⟨(some 106), .pick, [.t 98, .c (.b true), .t 105], none⟩] [5, 6, 7, 8, 13, 106])
 (.cond (.t 106)
  (.seq (.reg [⟨(some 4), .mv, [.c (.b false)], none⟩] [4])
  .ret)
  .skip))
 (.seq (.seq (.reg [⟨(some 108), .mv, [.t 6], none⟩,
   ⟨(some 109), .mv, [.t 7], none⟩,
   ⟨(some 110), (.binI .sub), [.t 109, .c (.i .i64 1)], none⟩,
   ⟨(some 111), .mv, [.t 8], none⟩,
   ⟨(some 112), (.call (.pu [])), [.c (.fn 33 [] []), .t 108, .t 110, .t 111], none⟩,
   ⟨(some 107), .mv, [.t 112], none⟩,
   ⟨(some 113), (.ext 0), [.t 107], none⟩,
   ⟨(some 114), (.ext 1), [.t 107], none⟩,
   ⟨(some 115), (.ext 2), [.t 107], none⟩,
   ⟨(some 15), .mv, [.t 113], none⟩,
   ⟨(some 16), .mv, [.t 114], none⟩,
   ⟨(some 17), .mv, [.t 115], none⟩] [5, 6, 7, 8, 13, 16, 17])
 (.seq (.reg [⟨(some 116), .mv, [.t 17], none⟩,
   ⟨(some 117), (.binI .neq), [.t 116, .c (.i .i64 0)], none⟩,
   ⟨(some 118), .mv, [.t 117], none⟩,
   ⟨(some 119), .mv, [.t 16], (some (118, false))⟩,
   ⟨(some 120), .pick, [.t 118, .c (.b true), .t 119], none⟩] [5, 6, 7, 8, 13, 120])
 (.cond (.t 120)
  (.seq (.reg [⟨(some 4), .mv, [.c (.b false)], none⟩] [4])
  .ret)
  .skip)))
 (.seq (.seq (.reg [⟨(some 121), .mv, [.t 7], none⟩,
   ⟨(some 122), .mv, [.t 8], none⟩,
   ⟨(some 123), (.binI .lss), [.t 121, .t 122], none⟩] [5, 6, 7, 8, 13, 123])
 (.cond (.t 123)
  (.seq (.reg [⟨(some 125), .mv, [.t 6], none⟩,
    ⟨(some 126), .mv, [.t 7], none⟩,
    ⟨(some 127), (.binI .add), [.t 126, .c (.i .i64 1)], none⟩,
    ⟨(some 128), .mv, [.t 8], none⟩,
    ⟨(some 129), (.call (.pu [])), [.c (.fn 33 [] []), .t 125, .t 127, .t 128], none⟩,
    ⟨(some 124), .mv, [.t 129], none⟩,
    ⟨(some 130), (.ext 0), [.t 124], none⟩,
    ⟨(some 131), (.ext 1), [.t 124], none⟩,
    ⟨(some 132), (.ext 2), [.t 124], none⟩,
    ⟨(some 18), .mv, [.t 130], none⟩,
    ⟨(some 19), .mv, [.t 131], none⟩,
    ⟨(some 20), .mv, [.t 132], none⟩] [5, 13, 19, 20])
  (.seq (.reg [⟨(some 133), .mv, [.t 20], none⟩,
    ⟨(some 134), (.binI .neq), [.t 133, .c (.i .i64 0)], none⟩,
    ⟨(some 135), .mv, [.t 134], none⟩,
    ⟨(some 136), .mv, [.t 19], (some (135, false))⟩,
    ⟨(some 137), .notB, [.t 136], (some (135, false))⟩,
    ⟨(some 138), .pick, [.t 135, .c (.b true), .t 137], none⟩] [5, 13, 138])
  (.cond (.t 138)
   (.seq (.reg [⟨(some 4), .mv, [.c (.b false)], none⟩] [4])
   .ret)
   .skip)))
  .skip))
 (.seq (.reg [⟨(some 139), .mv, [.t 5], none⟩,
   ⟨(some 140), (.len 0), [.t 139], none⟩,
   ⟨(some 141), (.mksl [(.b false)] false 1), [.t 140, .t 140], none⟩,
   ⟨(some 21), .mv, [.t 141], none⟩] [5, 13, 21])
 (.seq (.reg [⟨(some 22), .mv, [.c .nilsl], none⟩] [5, 13, 21, 22])
 (.seq (.seq (.reg [⟨(some 23), .mv, [.c (.i .i64 0)], none⟩] [5, 13, 21, 22, 23])
 (.block 0
  l6_1))
 (.seq (.seq (.reg [⟨(some 199), .mv, [.t 22], none⟩,
   ⟨(some 200), (.call (.pu [])), [.c (.fn 25 [] []), .t 199], none⟩,
   ⟨(some 198), .mv, [.t 200], none⟩,
   ⟨(some 201), (.ext 0), [.t 198], none⟩,
   ⟨(some 202), (.ext 1), [.t 198], none⟩,
   ⟨(some 203), (.ext 2), [.t 198], none⟩,
   ⟨(some 24), .mv, [.t 201], none⟩,
   ⟨(some 25), .mv, [.t 202], none⟩,
   ⟨(some 26), .mv, [.t 203], none⟩] [5, 21, 22, 25, 26])
 (.seq (.reg [⟨(some 204), .mv, [.t 26], none⟩,
   ⟨(some 205), (.binI .neq), [.t 204, .c (.i .i64 0)], none⟩,
   ⟨(some 206), .mv, [.t 205], none⟩,
   ⟨(some 207), .mv, [.t 25], (some (206, false))⟩,
   ⟨(some 208), .pick, [.t 206, .c (.b true), .t 207], none⟩] [5, 21, 22, 208])
 (.cond (.t 208)
  (.seq (.reg [⟨(some 4), .mv, [.c (.b false)], none⟩] [4])
  .ret)
  .skip)))
 (.seq (.seq (.reg [⟨(some 27), .mv, [.c (.i .i64 0)], none⟩] [5, 21, 22, 27])
 (.block 2
  l6_3))
 (.seq (.reg [⟨(some 242), (.call (.pu [])), [.c (.fn 24 [] [])], none⟩,
   ⟨(some 4), .mv, [.t 242], none⟩] [4])
 .ret)))))))))))))))

def d6 : DFun := ⟨2, 243, c6, [.t 4]⟩

theorem ok6 : Fok Tryd.prog 6 d6 := ⟨Tryd.f6, Tryd.func6, by kernel_rfl, by kernel_rfl⟩

-- bibelot/bibelotlaw09.PriceOwn
def b7_0 : DC :=
 (.seq (.seq (.reg [⟨(some 54), .mv, [.t 16], none⟩,
   ⟨(some 55), .mv, [.t 7], none⟩,
   ⟨(some 56), .mv, [.t 15], none⟩,
   ⟨(some 57), (.ixS 1 false), [.t 55, .t 56], none⟩,
   ⟨(some 58), (.ld 1 false), [.t 57], none⟩,
   ⟨(some 59), (.len 0), [.t 58], none⟩,
   ⟨(some 60), (.binI .lss), [.t 54, .t 59], none⟩] [5, 6, 7, 8, 9, 10, 11, 12, 14, 15, 16, 60])
 (.cond (.t 60)
  .skip
  (.exit 2)))
 (.seq (.block 3
  (.seq (.reg [⟨(some 63), .mv, [.t 7], none⟩,
    ⟨(some 64), .mv, [.t 15], none⟩,
    ⟨(some 65), (.ixS 1 false), [.t 63, .t 64], none⟩,
    ⟨(some 66), (.ld 1 false), [.t 65], none⟩,
    ⟨(some 17), .mv, [.t 66], none⟩] [5, 6, 7, 8, 9, 10, 11, 12, 14, 15, 16, 17])
  (.reg [⟨(some 67), .mv, [.t 17], none⟩,
    ⟨(some 68), .mv, [.t 16], none⟩,
    ⟨(some 69), (.ixS 1 false), [.t 67, .t 68], none⟩,
    ⟨none, (.st 1), [.t 69, .c (.i .i64 (-1))], none⟩] [5, 6, 7, 8, 9, 10, 11, 12, 14, 15, 16])))
 (.reg [⟨(some 61), .mv, [.t 16], none⟩,
   ⟨(some 62), (.binI .add), [.t 61, .c (.i .i64 1)], none⟩,
   ⟨(some 16), .mv, [.t 62], none⟩] [5, 6, 7, 8, 9, 10, 11, 12, 14, 15, 16])))

def l7_1 : DC :=
 (.loop [5, 6, 7, 8, 9, 10, 11, 12, 14, 15, 16] b7_0)

def b7_2 : DC :=
 (.seq (.seq (.reg [⟨(some 48), .mv, [.t 15], none⟩,
   ⟨(some 49), .mv, [.t 7], none⟩,
   ⟨(some 50), (.len 0), [.t 49], none⟩,
   ⟨(some 51), (.binI .lss), [.t 48, .t 50], none⟩] [5, 6, 7, 8, 9, 10, 11, 12, 14, 15, 51])
 (.cond (.t 51)
  .skip
  (.exit 0)))
 (.seq (.block 1
  (.seq (.reg [⟨(some 16), .mv, [.c (.i .i64 0)], none⟩] [5, 6, 7, 8, 9, 10, 11, 12, 14, 15, 16])
  (.block 2
   l7_1)))
 (.reg [⟨(some 52), .mv, [.t 15], none⟩,
   ⟨(some 53), (.binI .add), [.t 52, .c (.i .i64 1)], none⟩,
   ⟨(some 15), .mv, [.t 53], none⟩] [5, 6, 7, 8, 9, 10, 11, 12, 14, 15])))

def l7_3 : DC :=
 (.loop [5, 6, 7, 8, 9, 10, 11, 12, 14, 15] b7_2)

def b7_4 : DC :=
 (.seq (.seq (.reg [⟨(some 70), .mv, [.t 18], none⟩,
   ⟨(some 71), .mv, [.t 9], none⟩,
   ⟨(some 72), (.len 0), [.t 71], none⟩,
   ⟨(some 73), (.binI .lss), [.t 70, .t 72], none⟩] [5, 6, 8, 9, 10, 11, 12, 14, 18, 73])
 (.cond (.t 73)
  .skip
  (.exit 4)))
 (.seq (.block 5
  (.reg [⟨(some 76), .mv, [.t 9], none⟩,
    ⟨(some 77), .mv, [.t 18], none⟩,
    ⟨(some 78), (.ixS 1 false), [.t 76, .t 77], none⟩,
    ⟨none, (.st 1), [.t 78, .c (.i .i64 (-1))], none⟩] [5, 6, 8, 9, 10, 11, 12, 14, 18]))
 (.reg [⟨(some 74), .mv, [.t 18], none⟩,
   ⟨(some 75), (.binI .add), [.t 74, .c (.i .i64 1)], none⟩,
   ⟨(some 18), .mv, [.t 75], none⟩] [5, 6, 8, 9, 10, 11, 12, 14, 18])))

def l7_5 : DC :=
 (.loop [5, 6, 8, 9, 10, 11, 12, 14, 18] b7_4)

def b7_6 : DC :=
 (.seq (.seq (.reg [⟨(some 79), .mv, [.t 19], none⟩,
   ⟨(some 80), .mv, [.t 11], none⟩,
   ⟨(some 81), (.len 0), [.t 80], none⟩,
   ⟨(some 82), (.binI .lss), [.t 79, .t 81], none⟩] [5, 6, 8, 10, 11, 12, 14, 19, 82])
 (.cond (.t 82)
  .skip
  (.exit 6)))
 (.seq (.block 7
  (.reg [⟨(some 85), .mv, [.t 11], none⟩,
    ⟨(some 86), .mv, [.t 19], none⟩,
    ⟨(some 87), (.ixS 1 false), [.t 85, .t 86], none⟩,
    ⟨none, (.st 1), [.t 87, .c (.i .i64 (-1))], none⟩] [5, 6, 8, 10, 11, 12, 14, 19]))
 (.reg [⟨(some 83), .mv, [.t 19], none⟩,
   ⟨(some 84), (.binI .add), [.t 83, .c (.i .i64 1)], none⟩,
   ⟨(some 19), .mv, [.t 84], none⟩] [5, 6, 8, 10, 11, 12, 14, 19])))

def l7_7 : DC :=
 (.loop [5, 6, 8, 10, 11, 12, 14, 19] b7_6)

def b7_8 : DC :=
 (.seq (.seq (.reg [⟨(some 88), .mv, [.t 20], none⟩,
   ⟨(some 89), .mv, [.t 12], none⟩,
   ⟨(some 90), (.len 0), [.t 89], none⟩,
   ⟨(some 91), (.binI .lss), [.t 88, .t 90], none⟩] [5, 6, 8, 10, 12, 14, 20, 91])
 (.cond (.t 91)
  .skip
  (.exit 8)))
 (.seq (.block 9
  (.reg [⟨(some 94), .mv, [.t 12], none⟩,
    ⟨(some 95), .mv, [.t 20], none⟩,
    ⟨(some 96), (.ixS 1 false), [.t 94, .t 95], none⟩,
    ⟨none, (.st 1), [.t 96, .c (.i .i64 (-1))], none⟩] [5, 6, 8, 10, 12, 14, 20]))
 (.reg [⟨(some 92), .mv, [.t 20], none⟩,
   ⟨(some 93), (.binI .add), [.t 92, .c (.i .i64 1)], none⟩,
   ⟨(some 20), .mv, [.t 93], none⟩] [5, 6, 8, 10, 12, 14, 20])))

def l7_9 : DC :=
 (.loop [5, 6, 8, 10, 12, 14, 20] b7_8)

def b7_10 : DC :=
 (.seq (.seq (.reg [⟨(some 146), .mv, [.t 25], none⟩,
   ⟨(some 147), .mv, [.t 5], none⟩,
   ⟨(some 148), (.len 0), [.t 147], none⟩,
   ⟨(some 149), (.binI .lss), [.t 146, .t 148], none⟩] [5, 6, 25, 149])
 (.cond (.t 149)
  .skip
  (.exit 10)))
 (.seq (.block 11
  (.seq (.reg [⟨(some 152), .mv, [.t 6], none⟩,
    ⟨(some 153), .mv, [.t 25], none⟩,
    ⟨(some 154), (.ixS 2 true), [.t 152, .t 153], none⟩,
    ⟨(some 155), (.fadr 0 1 false), [.t 154], none⟩,
    ⟨(some 156), (.ld 1 false), [.t 155], none⟩,
    ⟨(some 157), .mv, [.t 5], none⟩,
    ⟨(some 158), .mv, [.t 25], none⟩,
    ⟨(some 159), (.ixS 2 true), [.t 157, .t 158], none⟩,
    ⟨(some 160), (.fadr 0 1 false), [.t 159], none⟩,
    ⟨(some 161), (.ld 1 false), [.t 160], none⟩,
    ⟨(some 162), (.call (.pu [])), [.c (.fn 22 [] []), .t 156, .t 161], none⟩,
    ⟨(some 163), .notB, [.t 162], none⟩,
    ⟨(some 164), .mv, [.t 163], none⟩,
    ⟨(some 165), .mv, [.t 6], (some (164, false))⟩,
    ⟨(some 166), .mv, [.t 25], (some (164, false))⟩,
    ⟨(some 167), (.ixS 2 true), [.t 165, .t 166], (some (164, false))⟩,
    ⟨(some 168), (.fadr 1 1 false), [.t 167], (some (164, false))⟩,
    ⟨(some 169), (.ld 1 false), [.t 168], (some (164, false))⟩,
    ⟨(some 170), .mv, [.t 5], (some (164, false))⟩,
    ⟨(some 171), .mv, [.t 25], (some (164, false))⟩,
    ⟨(some 172), (.ixS 2 true), [.t 170, .t 171], (some (164, false))⟩,
    ⟨(some 173), (.fadr 1 1 false), [.t 172], (some (164, false))⟩,
    ⟨(some 174), (.ld 1 false), [.t 173], (some (164, false))⟩,
    ⟨(some 175), (.call (.pu [])), [.c (.fn 22 [] []), .t 169, .t 174], (some (164, false))⟩,
    ⟨(some 176), .notB, [.t 175], (some (164, false))⟩,
    ⟨(some 177), .pick, [.t 164, .c (.b true), .t 176], none⟩] [5, 6, 25, 177])
  (.cond (.t 177)
   (.seq (.reg [⟨(some 4), .mv, [.c (.b false)], none⟩] [4])
   .ret)
   .skip)))
 (.reg [⟨(some 150), .mv, [.t 25], none⟩,
   ⟨(some 151), (.binI .add), [.t 150, .c (.i .i64 1)], none⟩,
   ⟨(some 25), .mv, [.t 151], none⟩] [5, 6, 25])))

def l7_11 : DC :=
 (.loop [5, 6, 25] b7_10)

def c7 : DC :=
 (.seq (.reg [⟨(some 4), .mv, [.c (.b false)], none⟩] [0, 1])
 (.seq (.reg [⟨(some 26), .mv, [.t 0], none⟩,
   ⟨(some 27), .mv, [.t 1], none⟩,
   ⟨(some 28), (.call (.pu [])), [.c (.fn 17 [] []), .t 26, .t 27, .c (.i .i64 5)], none⟩,
   ⟨(some 5), .mv, [.t 28], none⟩] [5])
 (.seq (.reg [⟨(some 29), .mv, [.t 5], none⟩,
   ⟨(some 30), (.call (.pu [])), [.c (.fn 18 [] []), .t 29], none⟩,
   ⟨(some 6), .mv, [.t 30], none⟩] [5, 6])
 (.seq (.reg [⟨(some 32), .mv, [.t 6], none⟩,
   ⟨(some 33), (.call .sh), [.c (.fn 34 [] []), .t 32], none⟩,
   ⟨(some 31), .mv, [.t 33], none⟩,
   ⟨(some 34), (.ext 0), [.t 31], none⟩,
   ⟨(some 35), (.ext 1), [.t 31], none⟩,
   ⟨(some 7), .mv, [.t 34], none⟩,
   ⟨(some 8), .mv, [.t 35], none⟩] [5, 6, 7, 8])
 (.seq (.reg [⟨(some 37), .mv, [.t 6], none⟩,
   ⟨(some 38), (.call .sh), [.c (.fn 20 [] []), .t 37], none⟩,
   ⟨(some 36), .mv, [.t 38], none⟩,
   ⟨(some 39), (.ext 0), [.t 36], none⟩,
   ⟨(some 40), (.ext 1), [.t 36], none⟩,
   ⟨(some 9), .mv, [.t 39], none⟩,
   ⟨(some 10), .mv, [.t 40], none⟩] [5, 6, 7, 8, 9, 10])
 (.seq (.reg [⟨(some 42), .mv, [.t 6], none⟩,
   ⟨(some 43), (.call .sh), [.c (.fn 35 [] []), .t 42], none⟩,
   ⟨(some 41), .mv, [.t 43], none⟩,
   ⟨(some 44), (.ext 0), [.t 41], none⟩,
   ⟨(some 45), (.ext 1), [.t 41], none⟩,
   ⟨(some 46), (.ext 2), [.t 41], none⟩,
   ⟨(some 47), (.ext 3), [.t 41], none⟩,
   ⟨(some 11), .mv, [.t 44], none⟩,
   ⟨(some 12), .mv, [.t 45], none⟩,
   ⟨(some 13), .mv, [.t 46], none⟩,
   ⟨(some 14), .mv, [.t 47], none⟩] [5, 6, 7, 8, 9, 10, 11, 12, 14])
 (.seq (.seq (.reg [⟨(some 15), .mv, [.c (.i .i64 0)], none⟩] [5, 6, 7, 8, 9, 10, 11, 12, 14, 15])
 (.block 0
  l7_3))
 (.seq (.seq (.reg [⟨(some 18), .mv, [.c (.i .i64 0)], none⟩] [5, 6, 8, 9, 10, 11, 12, 14, 18])
 (.block 4
  l7_5))
 (.seq (.seq (.reg [⟨(some 19), .mv, [.c (.i .i64 0)], none⟩] [5, 6, 8, 10, 11, 12, 14, 19])
 (.block 6
  l7_7))
 (.seq (.seq (.reg [⟨(some 20), .mv, [.c (.i .i64 0)], none⟩] [5, 6, 8, 10, 12, 14, 20])
 (.block 8
  l7_9))
 (.seq (.reg [⟨(some 98), .mv, [.t 6], none⟩,
   ⟨(some 99), (.call .sh), [.c (.fn 34 [] []), .t 98], none⟩,
   ⟨(some 97), .mv, [.t 99], none⟩,
   ⟨(some 100), (.ext 0), [.t 97], none⟩,
   ⟨(some 101), (.ext 1), [.t 97], none⟩,
   ⟨(some 21), .mv, [.t 100], none⟩,
   ⟨(some 22), .mv, [.t 101], none⟩] [5, 6, 8, 10, 14, 21, 22])
 (.seq (.reg [⟨(some 103), .mv, [.t 6], none⟩,
   ⟨(some 104), (.call .sh), [.c (.fn 20 [] []), .t 103], none⟩,
   ⟨(some 102), .mv, [.t 104], none⟩,
   ⟨(some 105), (.ext 0), [.t 102], none⟩,
   ⟨(some 106), (.ext 1), [.t 102], none⟩,
   ⟨(some 23), .mv, [.t 105], none⟩,
   ⟨(some 24), .mv, [.t 106], none⟩] [5, 6, 8, 10, 14, 21, 22, 23, 24])
 (.seq (.seq (.reg [⟨(some 107), .mv, [.t 8], none⟩,
   ⟨(some 108), (.binI .neq), [.t 107, .c (.i .i64 0)], none⟩,
   ⟨(some 109), .mv, [.t 108], none⟩,
   ⟨(some 110), .mv, [.t 10], (some (109, false))⟩,
   ⟨(some 111), (.binI .neq), [.t 110, .c (.i .i64 0)], (some (109, false))⟩,
   ⟨(some 112), .pick, [.t 109, .c (.b true), .t 111], none⟩,
   ⟨(some 113), .mv, [.t 112], none⟩,
   ⟨(some 114), .mv, [.t 14], (some (113, false))⟩,
   ⟨(some 115), (.binI .neq), [.t 114, .c (.i .i64 0)], (some (113, false))⟩,
   ⟨(some 116), .pick, [.t 113, .c (.b true), .t 115], none⟩,
   ⟨(some 117), .mv, [.t 116], none⟩,
   ⟨(some 118), .mv, [.t 22], (some (117, false))⟩,
   ⟨(some 119), (.binI .neq), [.t 118, .c (.i .i64 0)], (some (117, false))⟩,
   ⟨(some 120), .pick, [.t 117, .c (.b true), .t 119], none⟩,
   ⟨(some 121), .mv, [.t 120], none⟩,
   ⟨(some 122), .mv, [.t 24], (some (121, false))⟩,
   ⟨(some 123), (.binI .neq), [.t 122, .c (.i .i64 0)], (some (121, false))⟩,
   ⟨(some 124), .pick, [.t 121, .c (.b true), .t 123], none⟩,
   ⟨(some 125), .mv, [.t 124], none⟩,
   ⟨(some 126), .mv, [.t 21], (some (125, false))⟩,
   ⟨(some 127), .mv, [.t 5], (some (125, false))⟩,
   ⟨(some 128), (.call (.pu [])), [.c (.fn 37 [] []), .t 127], (some (125, false))⟩,
   ⟨(some 129), (.call (.pu [])), [.c (.fn 36 [] []), .t 126, .t 128], (some (125, false))⟩,
   ⟨(some 130), .notB, [.t 129], (some (125, false))⟩,
   ⟨(some 131), .pick, [.t 125, .c (.b true), .t 130], none⟩,
   ⟨(some 132), .mv, [.t 131], none⟩,
   ⟨(some 133), .mv, [.t 23], (some (132, false))⟩,
   ⟨(some 134), .mv, [.t 5], (some (132, false))⟩,
   ⟨(some 135), (.call (.pu [])), [.c (.fn 23 [] []), .t 134], (some (132, false))⟩,
   ⟨(some 136), (.call (.pu [])), [.c (.fn 22 [] []), .t 133, .t 135], (some (132, false))⟩,
   ⟨(some 137), .notB, [.t 136], (some (132, false))⟩,
   ⟨(some 138), .pick, [.t 132, .c (.b true), .t 137], none⟩,
   ⟨(some 139), .mv, [.t 138], none⟩,
   ⟨(some 140), .mv, [.t 6], (some (139, false))⟩,
   ⟨(some 141), (.len 0), [.t 140], (some (139, false))⟩,
   ⟨(some 142), .mv, [.t 5], (some (139, false))⟩,
   ⟨(some 143), (.len 0), [.t 142], (some (139, false))⟩,
   ⟨(some 144), (.binI .neq), [.t 141, .t 143], (some (139, false))⟩,
   ⟨(some 145), .pick, [.t 139, .c (.b true), .t 144], none⟩] [5, 6, 145])
 (.cond (.t 145)
  (.seq (.reg [⟨(some 4), .mv, [.c (.b false)], none⟩] [4])
  .ret)
  .skip))
 (.seq (.seq (.reg [⟨(some 25), .mv, [.c (.i .i64 0)], none⟩] [5, 6, 25])
 (.block 10
  l7_11))
 (.seq (.reg [⟨(some 178), (.call (.pu [])), [.c (.fn 24 [] [])], none⟩,
   ⟨(some 4), .mv, [.t 178], none⟩] [4])
 .ret)))))))))))))))

def d7 : DFun := ⟨2, 179, c7, [.t 4]⟩

theorem ok7 : Fok Tryd.prog 7 d7 := ⟨Tryd.f7, Tryd.func7, by kernel_rfl, by kernel_rfl⟩

-- bibelot/bibelotlaw09.PriceTurned
def b8_0 : DC :=
 (.seq (.seq (.reg [⟨(some 48), .mv, [.t 11], none⟩,
   ⟨(some 49), (.binI .geq), [.t 48, .c (.i .i64 0)], none⟩] [2, 7, 8, 9, 10, 11, 49])
 (.cond (.t 49)
  .skip
  (.exit 0)))
 (.seq (.block 1
  (.reg [⟨(some 52), .mv, [.t 9], none⟩,
    ⟨(some 53), .mv, [.t 7], none⟩,
    ⟨(some 54), .mv, [.t 11], none⟩,
    ⟨(some 55), .mv, [.t 11], none⟩,
    ⟨(some 56), (.binI .add), [.t 55, .c (.i .i64 1)], none⟩,
    ⟨(some 57), (.slc true true false 2 true), [.t 53, .t 54, .t 56], none⟩,
    ⟨(some 58), (.call (.pu [])), [.c (.fn 18 [] []), .t 57], none⟩,
    ⟨(some 59), (.app 2 true 48), [.t 52, .t 58], none⟩,
    ⟨(some 9), .mv, [.t 59], none⟩] [2, 7, 8, 9, 10, 11]))
 (.reg [⟨(some 50), .mv, [.t 11], none⟩,
   ⟨(some 51), (.binI .sub), [.t 50, .c (.i .i64 1)], none⟩,
   ⟨(some 11), .mv, [.t 51], none⟩] [2, 7, 8, 9, 10, 11])))

def l8_1 : DC :=
 (.loop [2, 7, 8, 9, 10, 11] b8_0)

def b8_2 : DC :=
 (.seq (.seq (.reg [⟨(some 72), .mv, [.t 16], none⟩,
   ⟨(some 73), .mv, [.t 14], none⟩,
   ⟨(some 74), (.binI .lss), [.t 72, .t 73], none⟩] [2, 7, 8, 9, 10, 12, 13, 14, 15, 16, 74])
 (.cond (.t 74)
  .skip
  (.exit 4)))
 (.seq (.block 5
  (.reg [⟨(some 77), .mv, [.t 15], none⟩,
    ⟨(some 78), .mv, [.t 7], none⟩,
    ⟨(some 79), .mv, [.t 12], none⟩,
    ⟨(some 80), (.ixS 2 true), [.t 78, .t 79], none⟩,
    ⟨(some 81), (.fadr 0 1 false), [.t 80], none⟩,
    ⟨(some 82), (.ld 1 false), [.t 81], none⟩,
    ⟨(some 83), .mv, [.t 16], none⟩,
    ⟨(some 84), (.ixS 1 false), [.t 82, .t 83], none⟩,
    ⟨(some 85), (.ld 1 false), [.t 84], none⟩,
    ⟨(some 86), .mxI, [.t 77, .t 85], none⟩,
    ⟨(some 15), .mv, [.t 86], none⟩] [2, 7, 8, 9, 10, 12, 13, 14, 15, 16]))
 (.reg [⟨(some 75), .mv, [.t 16], none⟩,
   ⟨(some 76), (.binI .add), [.t 75, .c (.i .i64 1)], none⟩,
   ⟨(some 16), .mv, [.t 76], none⟩] [2, 7, 8, 9, 10, 12, 13, 14, 15, 16])))

def l8_3 : DC :=
 (.loop [2, 7, 8, 9, 10, 12, 13, 14, 15, 16] b8_2)

def b8_4 : DC :=
 (.seq (.seq (.reg [⟨(some 97), .mv, [.t 18], none⟩,
   ⟨(some 98), (.binI .geq), [.t 97, .c (.i .i64 0)], none⟩] [2, 7, 8, 9, 10, 12, 13, 17, 18, 98])
 (.cond (.t 98)
  .skip
  (.exit 6)))
 (.seq (.block 7
  (.seq (.reg [⟨(some 101), (.fadr 0 1 false), [.t 13], none⟩,
    ⟨(some 102), (.ld 1 false), [.t 101], none⟩,
    ⟨(some 103), (.fadr 1 1 false), [.t 13], none⟩,
    ⟨(some 104), (.ld 1 false), [.t 103], none⟩,
    ⟨(some 19), .mv, [.t 102], none⟩,
    ⟨(some 20), .mv, [.t 104], none⟩] [2, 7, 8, 9, 10, 12, 13, 17, 18, 19, 20])
  (.seq (.reg [⟨(some 105), .mv, [.t 19], none⟩,
    ⟨(some 106), .mv, [.t 17], none⟩,
    ⟨(some 107), .mv, [.t 7], none⟩,
    ⟨(some 108), .mv, [.t 12], none⟩,
    ⟨(some 109), (.ixS 2 true), [.t 107, .t 108], none⟩,
    ⟨(some 110), (.fadr 0 1 false), [.t 109], none⟩,
    ⟨(some 111), (.ld 1 false), [.t 110], none⟩,
    ⟨(some 112), .mv, [.t 18], none⟩,
    ⟨(some 113), (.ixS 1 false), [.t 111, .t 112], none⟩,
    ⟨(some 114), (.ld 1 false), [.t 113], none⟩,
    ⟨(some 115), (.binI .mul), [.t 106, .t 114], none⟩,
    ⟨(some 116), (.bsl false [(.i .i64 0)] false 1 [0]), [.t 115], none⟩,
    ⟨(some 117), (.app 1 false 8), [.t 105, .t 116], none⟩,
    ⟨(some 118), (.fadr 0 1 false), [.t 13], none⟩,
    ⟨none, (.st 1), [.t 118, .t 117], none⟩] [2, 7, 8, 9, 10, 12, 13, 17, 18, 20])
  (.reg [⟨(some 119), .mv, [.t 20], none⟩,
    ⟨(some 120), .mv, [.t 7], none⟩,
    ⟨(some 121), .mv, [.t 12], none⟩,
    ⟨(some 122), (.ixS 2 true), [.t 120, .t 121], none⟩,
    ⟨(some 123), (.fadr 1 1 false), [.t 122], none⟩,
    ⟨(some 124), (.ld 1 false), [.t 123], none⟩,
    ⟨(some 125), .mv, [.t 18], none⟩,
    ⟨(some 126), (.ixS 1 false), [.t 124, .t 125], none⟩,
    ⟨(some 127), (.ld 1 false), [.t 126], none⟩,
    ⟨(some 128), (.bsl false [(.i .i64 0)] false 1 [0]), [.t 127], none⟩,
    ⟨(some 129), (.app 1 false 8), [.t 119, .t 128], none⟩,
    ⟨(some 130), (.fadr 1 1 false), [.t 13], none⟩,
    ⟨none, (.st 1), [.t 130, .t 129], none⟩] [2, 7, 8, 9, 10, 12, 13, 17, 18]))))
 (.reg [⟨(some 99), .mv, [.t 18], none⟩,
   ⟨(some 100), (.binI .sub), [.t 99, .c (.i .i64 1)], none⟩,
   ⟨(some 18), .mv, [.t 100], none⟩] [2, 7, 8, 9, 10, 12, 13, 17, 18])))

def l8_5 : DC :=
 (.loop [2, 7, 8, 9, 10, 12, 13, 17, 18] b8_4)

def b8_6 : DC :=
 (.seq (.seq (.reg [⟨(some 60), .mv, [.t 12], none⟩,
   ⟨(some 61), .mv, [.t 7], none⟩,
   ⟨(some 62), (.len 0), [.t 61], none⟩,
   ⟨(some 63), (.binI .lss), [.t 60, .t 62], none⟩] [2, 7, 8, 9, 10, 12, 63])
 (.cond (.t 63)
  .skip
  (.exit 2)))
 (.seq (.block 3
  (.seq (.reg [⟨(some 13), (.alloc [.nilsl, .nilsl] true), [], none⟩] [2, 7, 8, 9, 10, 12, 13])
  (.seq (.reg [⟨(some 66), .mv, [.t 7], none⟩,
    ⟨(some 67), .mv, [.t 12], none⟩,
    ⟨(some 68), (.ixS 2 true), [.t 66, .t 67], none⟩,
    ⟨(some 69), (.fadr 0 1 false), [.t 68], none⟩,
    ⟨(some 70), (.ld 1 false), [.t 69], none⟩,
    ⟨(some 71), (.len 0), [.t 70], none⟩,
    ⟨(some 14), .mv, [.t 71], none⟩] [2, 7, 8, 9, 10, 12, 13, 14])
  (.seq (.reg [⟨(some 15), .mv, [.c (.i .i64 0)], none⟩] [2, 7, 8, 9, 10, 12, 13, 14, 15])
  (.seq (.seq (.reg [⟨(some 16), .mv, [.c (.i .i64 0)], none⟩] [2, 7, 8, 9, 10, 12, 13, 14, 15, 16])
  (.block 4
   l8_3))
  (.seq (.reg [⟨(some 87), .mv, [.t 2], none⟩,
    ⟨(some 88), (.conv .u64), [.t 87], none⟩,
    ⟨(some 89), .mv, [.t 15], none⟩,
    ⟨(some 90), (.binI .quo), [.c (.i .i64 20), .t 89], none⟩,
    ⟨(some 91), (.conv .u64), [.t 90], none⟩,
    ⟨(some 92), (.binI .rem), [.t 88, .t 91], none⟩,
    ⟨(some 93), (.conv .i64), [.t 92], none⟩,
    ⟨(some 94), (.binI .add), [.c (.i .i64 1), .t 93], none⟩,
    ⟨(some 17), .mv, [.t 94], none⟩] [2, 7, 8, 9, 10, 12, 13, 14, 17])
  (.seq (.seq (.reg [⟨(some 95), .mv, [.t 14], none⟩,
    ⟨(some 96), (.binI .sub), [.t 95, .c (.i .i64 1)], none⟩,
    ⟨(some 18), .mv, [.t 96], none⟩] [2, 7, 8, 9, 10, 12, 13, 17, 18])
  (.block 6
   l8_5))
  (.reg [⟨(some 131), .mv, [.t 10], none⟩,
    ⟨(some 132), (.ld 2 true), [.t 13], none⟩,
    ⟨(some 133), (.bsl false [.nilsl, .nilsl] true 1 [0]), [.t 132], none⟩,
    ⟨(some 134), (.app 2 true 48), [.t 131, .t 133], none⟩,
    ⟨(some 10), .mv, [.t 134], none⟩] [2, 7, 8, 9, 10, 12]))))))))
 (.reg [⟨(some 64), .mv, [.t 12], none⟩,
   ⟨(some 65), (.binI .add), [.t 64, .c (.i .i64 1)], none⟩,
   ⟨(some 12), .mv, [.t 65], none⟩] [2, 7, 8, 9, 10, 12])))

def l8_7 : DC :=
 (.loop [2, 7, 8, 9, 10, 12] b8_6)

def c8 : DC :=
 (.seq (.reg [⟨(some 6), .mv, [.c (.b false)], none⟩] [0, 1, 2])
 (.seq (.reg [⟨(some 40), .mv, [.t 0], none⟩,
   ⟨(some 41), .mv, [.t 1], none⟩,
   ⟨(some 42), (.call (.pu [])), [.c (.fn 17 [] []), .t 40, .t 41, .c (.i .i64 5)], none⟩,
   ⟨(some 7), .mv, [.t 42], none⟩] [2, 7])
 (.seq (.reg [⟨(some 43), .mv, [.t 7], none⟩,
   ⟨(some 44), (.call (.pu [])), [.c (.fn 18 [] []), .t 43], none⟩,
   ⟨(some 8), .mv, [.t 44], none⟩] [2, 7, 8])
 (.seq (.reg [⟨(some 9), .mv, [.c .nilsl], none⟩,
   ⟨(some 10), .mv, [.c .nilsl], none⟩] [2, 7, 8, 9, 10])
 (.seq (.seq (.reg [⟨(some 45), .mv, [.t 7], none⟩,
   ⟨(some 46), (.len 0), [.t 45], none⟩,
   ⟨(some 47), (.binI .sub), [.t 46, .c (.i .i64 1)], none⟩,
   ⟨(some 11), .mv, [.t 47], none⟩] [2, 7, 8, 9, 10, 11])
 (.block 0
  l8_1))
 (.seq (.seq (.reg [⟨(some 12), .mv, [.c (.i .i64 0)], none⟩] [2, 7, 8, 9, 10, 12])
 (.block 2
  l8_7))
 (.seq (.reg [⟨(some 136), .mv, [.t 8], none⟩,
   ⟨(some 137), (.call (.pu [])), [.c (.fn 25 [] []), .t 136], none⟩,
   ⟨(some 135), .mv, [.t 137], none⟩,
   ⟨(some 138), (.ext 0), [.t 135], none⟩,
   ⟨(some 139), (.ext 1), [.t 135], none⟩,
   ⟨(some 140), (.ext 2), [.t 135], none⟩,
   ⟨(some 21), .mv, [.t 138], none⟩,
   ⟨(some 22), .mv, [.t 139], none⟩,
   ⟨(some 23), .mv, [.t 140], none⟩] [8, 9, 10, 22, 23])
 (.seq (.reg [⟨(some 142), .mv, [.t 9], none⟩,
   ⟨(some 143), (.call (.pu [])), [.c (.fn 25 [] []), .t 142], none⟩,
   ⟨(some 141), .mv, [.t 143], none⟩,
   ⟨(some 144), (.ext 0), [.t 141], none⟩,
   ⟨(some 145), (.ext 1), [.t 141], none⟩,
   ⟨(some 146), (.ext 2), [.t 141], none⟩,
   ⟨(some 24), .mv, [.t 144], none⟩,
   ⟨(some 25), .mv, [.t 145], none⟩,
   ⟨(some 26), .mv, [.t 146], none⟩] [8, 9, 10, 22, 23, 25, 26])
 (.seq (.reg [⟨(some 148), .mv, [.t 8], none⟩,
   ⟨(some 149), (.call (.pu [])), [.c (.fn 19 [] []), .t 148], none⟩,
   ⟨(some 147), .mv, [.t 149], none⟩,
   ⟨(some 150), (.ext 0), [.t 147], none⟩,
   ⟨(some 151), (.ext 1), [.t 147], none⟩,
   ⟨(some 152), (.ext 2), [.t 147], none⟩,
   ⟨(some 27), .mv, [.t 150], none⟩,
   ⟨(some 28), .mv, [.t 151], none⟩,
   ⟨(some 29), .mv, [.t 152], none⟩] [8, 9, 10, 22, 23, 25, 26, 27, 28, 29])
 (.seq (.reg [⟨(some 154), .mv, [.t 9], none⟩,
   ⟨(some 155), (.call (.pu [])), [.c (.fn 19 [] []), .t 154], none⟩,
   ⟨(some 153), .mv, [.t 155], none⟩,
   ⟨(some 156), (.ext 0), [.t 153], none⟩,
   ⟨(some 157), (.ext 1), [.t 153], none⟩,
   ⟨(some 158), (.ext 2), [.t 153], none⟩,
   ⟨(some 30), .mv, [.t 156], none⟩,
   ⟨(some 31), .mv, [.t 157], none⟩,
   ⟨(some 32), .mv, [.t 158], none⟩] [8, 10, 22, 23, 25, 26, 27, 28, 29, 30, 31, 32])
 (.seq (.reg [⟨(some 160), .mv, [.t 8], none⟩,
   ⟨(some 161), (.call (.pu [])), [.c (.fn 38 [] []), .t 160], none⟩,
   ⟨(some 159), .mv, [.t 161], none⟩,
   ⟨(some 162), (.ext 0), [.t 159], none⟩,
   ⟨(some 163), (.ext 1), [.t 159], none⟩,
   ⟨(some 33), .mv, [.t 162], none⟩,
   ⟨(some 34), .mv, [.t 163], none⟩] [10, 22, 23, 25, 26, 27, 28, 29, 30, 31, 32, 33, 34])
 (.seq (.reg [⟨(some 165), .mv, [.t 10], none⟩,
   ⟨(some 166), (.call (.pu [])), [.c (.fn 38 [] []), .t 165], none⟩,
   ⟨(some 164), .mv, [.t 166], none⟩,
   ⟨(some 167), (.ext 0), [.t 164], none⟩,
   ⟨(some 168), (.ext 1), [.t 164], none⟩,
   ⟨(some 35), .mv, [.t 167], none⟩,
   ⟨(some 36), .mv, [.t 168], none⟩] [10, 22, 23, 25, 26, 27, 28, 29, 30, 31, 32, 33, 34, 35, 36])
 (.seq (.reg [⟨(some 170), .mv, [.t 10], none⟩,
   ⟨(some 171), (.call (.pu [])), [.c (.fn 19 [] []), .t 170], none⟩,
   ⟨(some 169), .mv, [.t 171], none⟩,
   ⟨(some 172), (.ext 0), [.t 169], none⟩,
   ⟨(some 173), (.ext 1), [.t 169], none⟩,
   ⟨(some 174), (.ext 2), [.t 169], none⟩,
   ⟨(some 37), .mv, [.t 172], none⟩,
   ⟨(some 38), .mv, [.t 173], none⟩,
   ⟨(some 39), .mv, [.t 174], none⟩] [22, 23, 25, 26, 27, 28, 29, 30, 31, 32, 33, 34, 35, 36, 37, 38, 39])
 (.seq (.reg [⟨(some 175), .mv, [.t 23], none⟩,
   ⟨(some 176), (.binI .eql), [.t 175, .c (.i .i64 0)], none⟩,
   ⟨(some 177), .mv, [.t 176], none⟩,
   ⟨(some 178), .mv, [.t 26], (some (177, true))⟩,
   ⟨(some 179), (.binI .eql), [.t 178, .c (.i .i64 0)], (some (177, true))⟩,
   ⟨(some 180), .pick, [.t 177, .t 179, .c (.b false)], none⟩,
   ⟨(some 181), .mv, [.t 180], none⟩,
   ⟨(some 182), .mv, [.t 29], (some (181, true))⟩,
   ⟨(some 183), (.binI .eql), [.t 182, .c (.i .i64 0)], (some (181, true))⟩,
   ⟨(some 184), .pick, [.t 181, .t 183, .c (.b false)], none⟩,
   ⟨(some 185), .mv, [.t 184], none⟩,
   ⟨(some 186), .mv, [.t 32], (some (185, true))⟩,
   ⟨(some 187), (.binI .eql), [.t 186, .c (.i .i64 0)], (some (185, true))⟩,
   ⟨(some 188), .pick, [.t 185, .t 187, .c (.b false)], none⟩,
   ⟨(some 189), .mv, [.t 188], none⟩,
   ⟨(some 190), .mv, [.t 34], (some (189, true))⟩,
   ⟨(some 191), (.binI .eql), [.t 190, .c (.i .i64 0)], (some (189, true))⟩,
   ⟨(some 192), .pick, [.t 189, .t 191, .c (.b false)], none⟩,
   ⟨(some 193), .mv, [.t 192], none⟩,
   ⟨(some 194), .mv, [.t 36], (some (193, true))⟩,
   ⟨(some 195), (.binI .eql), [.t 194, .c (.i .i64 0)], (some (193, true))⟩,
   ⟨(some 196), .pick, [.t 193, .t 195, .c (.b false)], none⟩,
   ⟨(some 197), .mv, [.t 196], none⟩,
   ⟨(some 198), .mv, [.t 39], (some (197, true))⟩,
   ⟨(some 199), (.binI .eql), [.t 198, .c (.i .i64 0)], (some (197, true))⟩,
   ⟨(some 200), .pick, [.t 197, .t 199, .c (.b false)], none⟩,
   ⟨(some 201), .mv, [.t 200], none⟩,
   ⟨(some 202), .mv, [.t 22], (some (201, true))⟩,
   ⟨(some 203), .mv, [.t 25], (some (201, true))⟩,
   ⟨(some 204), (.eqB false), [.t 202, .t 203], (some (201, true))⟩,
   ⟨(some 205), .pick, [.t 201, .t 204, .c (.b false)], none⟩,
   ⟨(some 206), .mv, [.t 205], none⟩,
   ⟨(some 207), .mv, [.t 27], (some (206, true))⟩,
   ⟨(some 208), .mv, [.t 30], (some (206, true))⟩,
   ⟨(some 209), (.binI .eql), [.t 207, .t 208], (some (206, true))⟩,
   ⟨(some 210), .pick, [.t 206, .t 209, .c (.b false)], none⟩,
   ⟨(some 211), .mv, [.t 210], none⟩,
   ⟨(some 212), .mv, [.t 28], (some (211, true))⟩,
   ⟨(some 213), .mv, [.t 31], (some (211, true))⟩,
   ⟨(some 214), (.binI .eql), [.t 212, .t 213], (some (211, true))⟩,
   ⟨(some 215), .pick, [.t 211, .t 214, .c (.b false)], none⟩,
   ⟨(some 216), .mv, [.t 215], none⟩,
   ⟨(some 217), .mv, [.t 33], (some (216, true))⟩,
   ⟨(some 218), .mv, [.t 35], (some (216, true))⟩,
   ⟨(some 219), (.call (.pu [])), [.c (.fn 36 [] []), .t 217, .t 218], (some (216, true))⟩,
   ⟨(some 220), .pick, [.t 216, .t 219, .c (.b false)], none⟩,
   ⟨(some 221), .mv, [.t 220], none⟩,
   ⟨(some 222), .mv, [.t 27], (some (221, true))⟩,
   ⟨(some 223), .mv, [.t 37], (some (221, true))⟩,
   ⟨(some 224), (.binI .eql), [.t 222, .t 223], (some (221, true))⟩,
   ⟨(some 225), .pick, [.t 221, .t 224, .c (.b false)], none⟩,
   ⟨(some 226), .mv, [.t 225], none⟩,
   ⟨(some 227), .mv, [.t 28], (some (226, true))⟩,
   ⟨(some 228), .mv, [.t 38], (some (226, true))⟩,
   ⟨(some 229), (.binI .eql), [.t 227, .t 228], (some (226, true))⟩,
   ⟨(some 230), .pick, [.t 226, .t 229, .c (.b false)], none⟩,
   ⟨(some 231), .mv, [.t 230], none⟩,
   ⟨(some 232), (.call (.pu [])), [.c (.fn 24 [] [])], (some (231, true))⟩,
   ⟨(some 233), .pick, [.t 231, .t 232, .c (.b false)], none⟩,
   ⟨(some 6), .mv, [.t 233], none⟩] [6])
 .ret))))))))))))))

def d8 : DFun := ⟨3, 234, c8, [.t 6]⟩

theorem ok8 : Fok Tryd.prog 8 d8 := ⟨Tryd.f8, Tryd.func8, by kernel_rfl, by kernel_rfl⟩

-- bibelot/bibelotlaw09.PriceIndices
def b9_0 : DC :=
 (.seq (.seq (.reg [⟨(some 25), .mv, [.t 11], none⟩,
   ⟨(some 26), (.binI .lss), [.t 25, .c (.i .i64 2)], none⟩] [7, 8, 9, 10, 11, 26])
 (.cond (.t 26)
  .skip
  (.exit 0)))
 (.seq (.block 1
  (.seq (.reg [⟨(some 30), .mv, [.t 8], none⟩,
    ⟨(some 31), .mv, [.t 9], none⟩,
    ⟨(some 32), .mv, [.t 10], none⟩,
    ⟨(some 33), (.call (.pu [])), [.c (.fn 39 [] []), .t 30, .t 31, .t 32], none⟩,
    ⟨(some 29), .mv, [.t 33], none⟩,
    ⟨(some 34), (.ext 0), [.t 29], none⟩,
    ⟨(some 35), (.ext 1), [.t 29], none⟩,
    ⟨(some 12), (.alloc [(.i .i64 0), (.i .i64 0), (.i .i64 0), (.i .i64 0)] true), [], none⟩,
    ⟨none, (.st 4), [.t 12, .t 34], none⟩,
    ⟨(some 13), .mv, [.t 35], none⟩] [7, 8, 9, 10, 11, 12, 13])
  (.seq (.reg [⟨(some 37), .mv, [.t 8], none⟩,
    ⟨(some 38), .mv, [.t 9], none⟩,
    ⟨(some 39), .mv, [.t 10], none⟩,
    ⟨(some 40), (.call (.pu [])), [.c (.fn 40 [] []), .t 37, .t 38, .t 39], none⟩,
    ⟨(some 36), .mv, [.t 40], none⟩,
    ⟨(some 41), (.ext 0), [.t 36], none⟩,
    ⟨(some 42), (.ext 1), [.t 36], none⟩,
    ⟨(some 14), .mv, [.t 41], none⟩,
    ⟨(some 15), .mv, [.t 42], none⟩] [7, 8, 9, 10, 11, 12, 13, 14, 15])
  (.seq (.seq (.reg [⟨(some 43), .mv, [.t 9], none⟩,
    ⟨(some 44), (.binI .lss), [.t 43, .c (.i .i64 0)], none⟩,
    ⟨(some 45), .mv, [.t 44], none⟩,
    ⟨(some 46), .mv, [.t 9], (some (45, false))⟩,
    ⟨(some 47), .mv, [.t 7], (some (45, false))⟩,
    ⟨(some 48), (.len 0), [.t 47], (some (45, false))⟩,
    ⟨(some 49), (.binI .geq), [.t 46, .t 48], (some (45, false))⟩,
    ⟨(some 50), .pick, [.t 45, .c (.b true), .t 49], none⟩,
    ⟨(some 51), .mv, [.t 50], none⟩,
    ⟨(some 52), .mv, [.t 10], (some (51, false))⟩,
    ⟨(some 53), (.binI .lss), [.t 52, .c (.i .i64 0)], (some (51, false))⟩,
    ⟨(some 54), .pick, [.t 51, .c (.b true), .t 53], none⟩,
    ⟨(some 55), .mv, [.t 54], none⟩,
    ⟨(some 56), .mv, [.t 10], (some (55, false))⟩,
    ⟨(some 57), .mv, [.t 7], (some (55, false))⟩,
    ⟨(some 58), (.len 0), [.t 57], (some (55, false))⟩,
    ⟨(some 59), (.binI .geq), [.t 56, .t 58], (some (55, false))⟩,
    ⟨(some 60), .pick, [.t 55, .c (.b true), .t 59], none⟩] [7, 8, 9, 10, 11, 12, 13, 14, 15, 60])
  (.cond (.t 60)
   (.seq (.reg [⟨(some 61), .mv, [.t 13], none⟩,
     ⟨(some 62), (.binI .neq), [.t 61, .c (.i .i64 1)], none⟩,
     ⟨(some 63), .mv, [.t 62], none⟩,
     ⟨(some 64), .mv, [.t 15], (some (63, false))⟩,
     ⟨(some 65), (.binI .neq), [.t 64, .c (.i .i64 1)], (some (63, false))⟩,
     ⟨(some 66), .pick, [.t 63, .c (.b true), .t 65], none⟩,
     ⟨(some 67), .mv, [.t 66], none⟩,
     ⟨(some 68), (.ld 4 true), [.t 12], (some (67, false))⟩,
     ⟨(some 69), (.build [(.i .i64 0), (.i .i64 0), (.i .i64 0), (.i .i64 0)] []), [], (some (67, false))⟩,
     ⟨(some 70), (.eqA true [true, true, true, true]), [.t 68, .t 69], (some (67, false))⟩,
     ⟨(some 71), .pick, [.t 67, .c (.b true), .t 70], none⟩,
     ⟨(some 72), .mv, [.t 71], none⟩,
     ⟨(some 73), .mv, [.t 14], (some (72, false))⟩,
     ⟨(some 74), (.binI .neq), [.t 73, .c (.i .i64 0)], (some (72, false))⟩,
     ⟨(some 75), .pick, [.t 72, .c (.b true), .t 74], none⟩] [7, 8, 9, 10, 11, 75])
   (.cond (.t 75)
    (.seq (.reg [⟨(some 6), .mv, [.c (.b false)], none⟩] [6])
    .ret)
    .skip))
   (.seq (.reg [⟨(some 76), .mv, [.t 13], none⟩,
     ⟨(some 77), (.binI .neq), [.t 76, .c (.i .i64 0)], none⟩,
     ⟨(some 78), .mv, [.t 77], none⟩,
     ⟨(some 79), .mv, [.t 15], (some (78, false))⟩,
     ⟨(some 80), (.binI .neq), [.t 79, .c (.i .i64 0)], (some (78, false))⟩,
     ⟨(some 81), .pick, [.t 78, .c (.b true), .t 80], none⟩,
     ⟨(some 82), .mv, [.t 81], none⟩,
     ⟨(some 83), (.ld 4 true), [.t 12], (some (82, false))⟩,
     ⟨(some 84), .mv, [.t 7], (some (82, false))⟩,
     ⟨(some 85), .mv, [.t 9], (some (82, false))⟩,
     ⟨(some 86), .mv, [.t 10], (some (82, false))⟩,
     ⟨(some 87), (.call (.pu [])), [.c (.fn 41 [] []), .t 84, .t 85, .t 86], (some (82, false))⟩,
     ⟨(some 88), (.eqA true [true, true, true, true]), [.t 83, .t 87], (some (82, false))⟩,
     ⟨(some 89), .pick, [.t 82, .c (.b true), .t 88], none⟩,
     ⟨(some 90), .mv, [.t 89], none⟩,
     ⟨(some 91), .mv, [.t 14], (some (90, false))⟩,
     ⟨(some 92), .mv, [.t 7], (some (90, false))⟩,
     ⟨(some 93), .mv, [.t 9], (some (90, false))⟩,
     ⟨(some 94), .mv, [.t 10], (some (90, false))⟩,
     ⟨(some 95), (.call (.pu [])), [.c (.fn 42 [] []), .t 92, .t 93, .t 94], (some (90, false))⟩,
     ⟨(some 96), (.binI .neq), [.t 91, .t 95], (some (90, false))⟩,
     ⟨(some 97), .pick, [.t 90, .c (.b true), .t 96], none⟩] [7, 8, 9, 10, 11, 97])
   (.cond (.t 97)
    (.seq (.reg [⟨(some 6), .mv, [.c (.b false)], none⟩] [6])
    .ret)
    .skip))))
  (.seq (.reg [⟨(some 98), .mv, [.t 9], none⟩,
    ⟨(some 99), (.conv .u64), [.t 98], none⟩,
    ⟨(some 100), .mv, [.t 7], none⟩,
    ⟨(some 101), (.len 0), [.t 100], none⟩,
    ⟨(some 102), (.conv .u64), [.t 101], none⟩,
    ⟨(some 103), (.binI .rem), [.t 99, .t 102], none⟩,
    ⟨(some 104), (.conv .i64), [.t 103], none⟩,
    ⟨(some 9), .mv, [.t 104], none⟩] [7, 8, 9, 10, 11])
  (.reg [⟨(some 105), .mv, [.t 10], none⟩,
    ⟨(some 106), (.conv .u64), [.t 105], none⟩,
    ⟨(some 107), .mv, [.t 7], none⟩,
    ⟨(some 108), (.len 0), [.t 107], none⟩,
    ⟨(some 109), (.conv .u64), [.t 108], none⟩,
    ⟨(some 110), (.binI .rem), [.t 106, .t 109], none⟩,
    ⟨(some 111), (.conv .i64), [.t 110], none⟩,
    ⟨(some 10), .mv, [.t 111], none⟩] [7, 8, 9, 10, 11]))))))
 (.reg [⟨(some 27), .mv, [.t 11], none⟩,
   ⟨(some 28), (.binI .add), [.t 27, .c (.i .i64 1)], none⟩,
   ⟨(some 11), .mv, [.t 28], none⟩] [7, 8, 9, 10, 11])))

def l9_1 : DC :=
 (.loop [7, 8, 9, 10, 11] b9_0)

def c9 : DC :=
 (.seq (.reg [⟨(some 5), (.box true), [.t 2], none⟩,
   ⟨(some 6), .mv, [.c (.b false)], none⟩] [0, 1, 5])
 (.seq (.reg [⟨(some 16), .mv, [.t 0], none⟩,
   ⟨(some 17), .mv, [.t 1], none⟩,
   ⟨(some 18), (.call (.pu [])), [.c (.fn 17 [] []), .t 16, .t 17, .c (.i .i64 5)], none⟩,
   ⟨(some 7), .mv, [.t 18], none⟩] [5, 7])
 (.seq (.reg [⟨(some 19), .mv, [.t 7], none⟩,
   ⟨(some 20), (.call (.pu [])), [.c (.fn 18 [] []), .t 19], none⟩,
   ⟨(some 8), .mv, [.t 20], none⟩] [5, 7, 8])
 (.seq (.reg [⟨(some 21), (.ixA 2 1 false), [.t 5, .c (.i .i64 0)], none⟩,
   ⟨(some 22), (.ld 1 false), [.t 21], none⟩,
   ⟨(some 23), (.ixA 2 1 false), [.t 5, .c (.i .i64 1)], none⟩,
   ⟨(some 24), (.ld 1 false), [.t 23], none⟩,
   ⟨(some 9), .mv, [.t 22], none⟩,
   ⟨(some 10), .mv, [.t 24], none⟩] [7, 8, 9, 10])
 (.seq (.seq (.reg [⟨(some 11), .mv, [.c (.i .i64 0)], none⟩] [7, 8, 9, 10, 11])
 (.block 0
  l9_1))
 (.seq (.reg [⟨(some 112), (.call (.pu [])), [.c (.fn 24 [] [])], none⟩,
   ⟨(some 6), .mv, [.t 112], none⟩] [6])
 .ret))))))

def d9 : DFun := ⟨3, 113, c9, [.t 6]⟩

theorem ok9 : Fok Tryd.prog 9 d9 := ⟨Tryd.f9, Tryd.func9, by kernel_rfl, by kernel_rfl⟩

-- bibelot/bibelotlaw09.PriceCosts
def c10 : DC :=
 (.seq (.reg [⟨(some 4), .mv, [.c (.b false)], none⟩] [0, 1])
 (.seq (.reg [⟨(some 11), .mv, [.t 0], none⟩,
   ⟨(some 12), .mv, [.t 1], none⟩,
   ⟨(some 13), (.call (.pu [])), [.c (.fn 17 [] []), .t 11, .t 12, .c (.i .i64 5)], none⟩,
   ⟨(some 5), .mv, [.t 13], none⟩] [5])
 (.seq (.reg [⟨(some 14), .mv, [.t 5], none⟩,
   ⟨(some 15), (.call (.pu [])), [.c (.fn 18 [] []), .t 14], none⟩,
   ⟨(some 6), .mv, [.t 15], none⟩] [5, 6])
 (.seq (.reg [⟨(some 17), .mv, [.t 6], none⟩,
   ⟨(some 18), (.call (.pu [])), [.c (.fn 34 [] []), .t 17], none⟩,
   ⟨(some 16), .mv, [.t 18], none⟩,
   ⟨(some 19), (.ext 0), [.t 16], none⟩,
   ⟨(some 20), (.ext 1), [.t 16], none⟩,
   ⟨(some 7), .mv, [.t 19], none⟩,
   ⟨(some 8), .mv, [.t 20], none⟩] [5, 6, 7, 8])
 (.seq (.reg [⟨(some 22), .mv, [.t 6], none⟩,
   ⟨(some 23), (.call (.pu [])), [.c (.fn 38 [] []), .t 22], none⟩,
   ⟨(some 21), .mv, [.t 23], none⟩,
   ⟨(some 24), (.ext 0), [.t 21], none⟩,
   ⟨(some 25), (.ext 1), [.t 21], none⟩,
   ⟨(some 9), .mv, [.t 24], none⟩,
   ⟨(some 10), .mv, [.t 25], none⟩] [5, 7, 8, 9, 10])
 (.seq (.reg [⟨(some 26), .mv, [.t 8], none⟩,
   ⟨(some 27), (.binI .eql), [.t 26, .c (.i .i64 0)], none⟩,
   ⟨(some 28), .mv, [.t 27], none⟩,
   ⟨(some 29), .mv, [.t 10], (some (28, true))⟩,
   ⟨(some 30), (.binI .eql), [.t 29, .c (.i .i64 0)], (some (28, true))⟩,
   ⟨(some 31), .pick, [.t 28, .t 30, .c (.b false)], none⟩,
   ⟨(some 32), .mv, [.t 31], none⟩,
   ⟨(some 33), .mv, [.t 7], (some (32, true))⟩,
   ⟨(some 34), .mv, [.t 5], (some (32, true))⟩,
   ⟨(some 35), (.call (.pu [])), [.c (.fn 37 [] []), .t 34], (some (32, true))⟩,
   ⟨(some 36), (.call (.pu [])), [.c (.fn 36 [] []), .t 33, .t 35], (some (32, true))⟩,
   ⟨(some 37), .pick, [.t 32, .t 36, .c (.b false)], none⟩,
   ⟨(some 38), .mv, [.t 37], none⟩,
   ⟨(some 39), .mv, [.t 9], (some (38, true))⟩,
   ⟨(some 40), .mv, [.t 5], (some (38, true))⟩,
   ⟨(some 41), (.call (.pu [])), [.c (.fn 26 [] []), .t 40, .c (.i .i64 1), .c (.i .i64 1)], (some (38, true))⟩,
   ⟨(some 42), (.call (.pu [])), [.c (.fn 36 [] []), .t 39, .t 41], (some (38, true))⟩,
   ⟨(some 43), .pick, [.t 38, .t 42, .c (.b false)], none⟩,
   ⟨(some 44), .mv, [.t 43], none⟩,
   ⟨(some 45), (.call (.pu [])), [.c (.fn 24 [] [])], (some (44, true))⟩,
   ⟨(some 46), .pick, [.t 44, .t 45, .c (.b false)], none⟩,
   ⟨(some 4), .mv, [.t 46], none⟩] [4])
 .ret))))))

def d10 : DFun := ⟨2, 47, c10, [.t 4]⟩

theorem ok10 : Fok Tryd.prog 10 d10 := ⟨Tryd.f10, Tryd.func10, by kernel_rfl, by kernel_rfl⟩

-- bibelot/bibelotlaw09.PriceKonues
def b11_0 : DC :=
 (.seq (.seq (.reg [⟨(some 55), .mv, [.t 11], none⟩,
   ⟨(some 56), .mv, [.t 5], none⟩,
   ⟨(some 57), (.len 0), [.t 56], none⟩,
   ⟨(some 58), (.binI .lss), [.t 55, .t 57], none⟩] [5, 6, 7, 9, 11, 58])
 (.cond (.t 58)
  .skip
  (.exit 0)))
 (.seq (.block 1
  (.seq (.reg [⟨(some 61), .mv, [.t 7], none⟩,
    ⟨(some 62), .mv, [.t 11], none⟩,
    ⟨(some 63), (.ixS 1 false), [.t 61, .t 62], none⟩,
    ⟨(some 64), (.ld 1 false), [.t 63], none⟩,
    ⟨(some 65), (.len 0), [.t 64], none⟩,
    ⟨(some 66), .mv, [.t 5], none⟩,
    ⟨(some 67), (.len 0), [.t 66], none⟩,
    ⟨(some 68), (.binI .neq), [.t 65, .t 67], none⟩,
    ⟨(some 69), .mv, [.t 68], none⟩,
    ⟨(some 70), .mv, [.t 9], (some (69, false))⟩,
    ⟨(some 71), .mv, [.t 11], (some (69, false))⟩,
    ⟨(some 72), (.ixS 1 false), [.t 70, .t 71], (some (69, false))⟩,
    ⟨(some 73), (.ld 1 false), [.t 72], (some (69, false))⟩,
    ⟨(some 74), (.len 0), [.t 73], (some (69, false))⟩,
    ⟨(some 75), .mv, [.t 5], (some (69, false))⟩,
    ⟨(some 76), (.len 0), [.t 75], (some (69, false))⟩,
    ⟨(some 77), (.binI .neq), [.t 74, .t 76], (some (69, false))⟩,
    ⟨(some 78), .pick, [.t 69, .c (.b true), .t 77], none⟩] [5, 6, 7, 9, 11, 78])
  (.cond (.t 78)
   (.seq (.reg [⟨(some 4), .mv, [.c (.b false)], none⟩] [4])
   .ret)
   .skip)))
 (.reg [⟨(some 59), .mv, [.t 11], none⟩,
   ⟨(some 60), (.binI .add), [.t 59, .c (.i .i64 1)], none⟩,
   ⟨(some 11), .mv, [.t 60], none⟩] [5, 6, 7, 9, 11])))

def l11_1 : DC :=
 (.loop [5, 6, 7, 9, 11] b11_0)

def b11_2 : DC :=
 (.seq (.seq (.reg [⟨(some 85), .mv, [.t 13], none⟩,
   ⟨(some 86), .mv, [.t 5], none⟩,
   ⟨(some 87), (.len 0), [.t 86], none⟩,
   ⟨(some 88), (.binI .lss), [.t 85, .t 87], none⟩] [5, 6, 7, 9, 12, 13, 88])
 (.cond (.t 88)
  .skip
  (.exit 4)))
 (.seq (.block 5
  (.seq (.reg [⟨(some 92), .mv, [.t 6], none⟩,
    ⟨(some 93), .mv, [.t 12], none⟩,
    ⟨(some 94), .mv, [.t 13], none⟩,
    ⟨(some 95), (.call (.pu [])), [.c (.fn 39 [] []), .t 92, .t 93, .t 94], none⟩,
    ⟨(some 91), .mv, [.t 95], none⟩,
    ⟨(some 96), (.ext 0), [.t 91], none⟩,
    ⟨(some 97), (.ext 1), [.t 91], none⟩,
    ⟨(some 14), (.alloc [(.i .i64 0), (.i .i64 0), (.i .i64 0), (.i .i64 0)] true), [], none⟩,
    ⟨none, (.st 4), [.t 14, .t 96], none⟩,
    ⟨(some 15), .mv, [.t 97], none⟩] [5, 6, 7, 9, 12, 13, 14, 15])
  (.seq (.reg [⟨(some 99), .mv, [.t 6], none⟩,
    ⟨(some 100), .mv, [.t 13], none⟩,
    ⟨(some 101), .mv, [.t 12], none⟩,
    ⟨(some 102), (.call (.pu [])), [.c (.fn 39 [] []), .t 99, .t 100, .t 101], none⟩,
    ⟨(some 98), .mv, [.t 102], none⟩,
    ⟨(some 103), (.ext 0), [.t 98], none⟩,
    ⟨(some 104), (.ext 1), [.t 98], none⟩,
    ⟨(some 16), (.alloc [(.i .i64 0), (.i .i64 0), (.i .i64 0), (.i .i64 0)] true), [], none⟩,
    ⟨none, (.st 4), [.t 16, .t 103], none⟩,
    ⟨(some 17), .mv, [.t 104], none⟩] [5, 6, 7, 9, 12, 13, 14, 15, 16, 17])
  (.seq (.seq (.reg [⟨(some 105), .mv, [.t 15], none⟩,
    ⟨(some 106), (.binI .neq), [.t 105, .c (.i .i64 0)], none⟩,
    ⟨(some 107), .mv, [.t 106], none⟩,
    ⟨(some 108), .mv, [.t 17], (some (107, false))⟩,
    ⟨(some 109), (.binI .neq), [.t 108, .c (.i .i64 0)], (some (107, false))⟩,
    ⟨(some 110), .pick, [.t 107, .c (.b true), .t 109], none⟩,
    ⟨(some 111), .mv, [.t 110], none⟩,
    ⟨(some 112), (.ixA 4 1 false), [.t 14, .c (.i .i64 0)], (some (111, false))⟩,
    ⟨(some 113), (.ld 1 false), [.t 112], (some (111, false))⟩,
    ⟨(some 114), (.ixA 4 1 false), [.t 16, .c (.i .i64 3)], (some (111, false))⟩,
    ⟨(some 115), (.ld 1 false), [.t 114], (some (111, false))⟩,
    ⟨(some 116), (.binI .neq), [.t 113, .t 115], (some (111, false))⟩,
    ⟨(some 117), .pick, [.t 111, .c (.b true), .t 116], none⟩,
    ⟨(some 118), .mv, [.t 117], none⟩,
    ⟨(some 119), (.ixA 4 1 false), [.t 14, .c (.i .i64 1)], (some (118, false))⟩,
    ⟨(some 120), (.ld 1 false), [.t 119], (some (118, false))⟩,
    ⟨(some 121), (.ixA 4 1 false), [.t 16, .c (.i .i64 2)], (some (118, false))⟩,
    ⟨(some 122), (.ld 1 false), [.t 121], (some (118, false))⟩,
    ⟨(some 123), (.binI .neq), [.t 120, .t 122], (some (118, false))⟩,
    ⟨(some 124), .pick, [.t 118, .c (.b true), .t 123], none⟩,
    ⟨(some 125), .mv, [.t 124], none⟩,
    ⟨(some 126), (.ixA 4 1 false), [.t 14, .c (.i .i64 1)], (some (125, false))⟩,
    ⟨(some 127), (.ld 1 false), [.t 126], (some (125, false))⟩,
    ⟨(some 128), (.binI .lss), [.t 127, .c (.i .i64 1)], (some (125, false))⟩,
    ⟨(some 129), .pick, [.t 125, .c (.b true), .t 128], none⟩,
    ⟨(some 130), .mv, [.t 129], none⟩,
    ⟨(some 131), (.ixA 4 1 false), [.t 14, .c (.i .i64 0)], (some (130, false))⟩,
    ⟨(some 132), (.ld 1 false), [.t 131], (some (130, false))⟩,
    ⟨(some 133), (.binI .lss), [.t 132, .c (.i .i64 1)], (some (130, false))⟩,
    ⟨(some 134), .pick, [.t 130, .c (.b true), .t 133], none⟩,
    ⟨(some 135), .mv, [.t 134], none⟩,
    ⟨(some 136), (.ixA 4 1 false), [.t 14, .c (.i .i64 0)], (some (135, false))⟩,
    ⟨(some 137), (.ld 1 false), [.t 136], (some (135, false))⟩,
    ⟨(some 138), (.binI .gtr), [.t 137, .c (.i .i64 1200)], (some (135, false))⟩,
    ⟨(some 139), .pick, [.t 135, .c (.b true), .t 138], none⟩,
    ⟨(some 140), .mv, [.t 139], none⟩,
    ⟨(some 141), (.ixA 4 1 false), [.t 14, .c (.i .i64 1)], (some (140, false))⟩,
    ⟨(some 142), (.ld 1 false), [.t 141], (some (140, false))⟩,
    ⟨(some 143), (.binI .gtr), [.t 142, .c (.i .i64 1200)], (some (140, false))⟩,
    ⟨(some 144), .pick, [.t 140, .c (.b true), .t 143], none⟩] [5, 6, 7, 9, 12, 13, 14, 144])
  (.cond (.t 144)
   (.seq (.reg [⟨(some 4), .mv, [.c (.b false)], none⟩] [4])
   .ret)
   .skip))
  (.seq (.reg [⟨(some 145), .mv, [.t 7], none⟩,
    ⟨(some 146), .mv, [.t 13], none⟩,
    ⟨(some 147), (.ixS 1 false), [.t 145, .t 146], none⟩,
    ⟨(some 148), (.ld 1 false), [.t 147], none⟩,
    ⟨(some 149), .mv, [.t 13], none⟩,
    ⟨(some 150), (.ixS 1 false), [.t 148, .t 149], none⟩,
    ⟨(some 151), (.ld 1 false), [.t 150], none⟩,
    ⟨(some 152), .mv, [.t 7], none⟩,
    ⟨(some 153), .mv, [.t 12], none⟩,
    ⟨(some 154), (.ixS 1 false), [.t 152, .t 153], none⟩,
    ⟨(some 155), (.ld 1 false), [.t 154], none⟩,
    ⟨(some 156), .mv, [.t 12], none⟩,
    ⟨(some 157), (.ixS 1 false), [.t 155, .t 156], none⟩,
    ⟨(some 158), (.ld 1 false), [.t 157], none⟩,
    ⟨(some 18), .mv, [.t 151], none⟩,
    ⟨(some 19), .mv, [.t 158], none⟩] [5, 6, 7, 9, 12, 13, 14, 18, 19])
  (.seq (.reg [⟨(some 159), .mv, [.t 18], none⟩,
    ⟨(some 160), (.binI .lss), [.t 159, .c (.i .i64 1)], none⟩,
    ⟨(some 161), .mv, [.t 160], none⟩,
    ⟨(some 162), .mv, [.t 18], (some (161, false))⟩,
    ⟨(some 163), (.binI .gtr), [.t 162, .c (.i .i64 1200)], (some (161, false))⟩,
    ⟨(some 164), .pick, [.t 161, .c (.b true), .t 163], none⟩,
    ⟨(some 165), .mv, [.t 164], none⟩,
    ⟨(some 166), .mv, [.t 19], (some (165, false))⟩,
    ⟨(some 167), (.binI .lss), [.t 166, .c (.i .i64 1)], (some (165, false))⟩,
    ⟨(some 168), .pick, [.t 165, .c (.b true), .t 167], none⟩,
    ⟨(some 169), .mv, [.t 168], none⟩,
    ⟨(some 170), .mv, [.t 19], (some (169, false))⟩,
    ⟨(some 171), (.binI .gtr), [.t 170, .c (.i .i64 1200)], (some (169, false))⟩,
    ⟨(some 172), .pick, [.t 169, .c (.b true), .t 171], none⟩,
    ⟨(some 173), .mv, [.t 172], none⟩,
    ⟨(some 174), .mv, [.t 9], (some (173, false))⟩,
    ⟨(some 175), .mv, [.t 13], (some (173, false))⟩,
    ⟨(some 176), (.ixS 1 false), [.t 174, .t 175], (some (173, false))⟩,
    ⟨(some 177), (.ld 1 false), [.t 176], (some (173, false))⟩,
    ⟨(some 178), .mv, [.t 12], (some (173, false))⟩,
    ⟨(some 179), (.ixS 1 false), [.t 177, .t 178], (some (173, false))⟩,
    ⟨(some 180), (.ld 1 false), [.t 179], (some (173, false))⟩,
    ⟨(some 181), (.binI .gtr), [.t 180, .c (.i .i64 0)], (some (173, false))⟩,
    ⟨(some 182), (.ixA 4 1 false), [.t 14, .c (.i .i64 0)], (some (173, false))⟩,
    ⟨(some 183), (.ld 1 false), [.t 182], (some (173, false))⟩,
    ⟨(some 184), .mv, [.t 19], (some (173, false))⟩,
    ⟨(some 185), (.binI .mul), [.t 183, .t 184], (some (173, false))⟩,
    ⟨(some 186), .mv, [.t 18], (some (173, false))⟩,
    ⟨(some 187), (.ixA 4 1 false), [.t 14, .c (.i .i64 1)], (some (173, false))⟩,
    ⟨(some 188), (.ld 1 false), [.t 187], (some (173, false))⟩,
    ⟨(some 189), (.binI .mul), [.t 186, .t 188], (some (173, false))⟩,
    ⟨(some 190), (.binI .leq), [.t 185, .t 189], (some (173, false))⟩,
    ⟨(some 191), (.eqB true), [.t 181, .t 190], (some (173, false))⟩,
    ⟨(some 192), .pick, [.t 173, .c (.b true), .t 191], none⟩] [5, 6, 7, 9, 12, 13, 192])
  (.cond (.t 192)
   (.seq (.reg [⟨(some 4), .mv, [.c (.b false)], none⟩] [4])
   .ret)
   .skip)))))))
 (.reg [⟨(some 89), .mv, [.t 13], none⟩,
   ⟨(some 90), (.binI .add), [.t 89, .c (.i .i64 1)], none⟩,
   ⟨(some 13), .mv, [.t 90], none⟩] [5, 6, 7, 9, 12, 13])))

def l11_3 : DC :=
 (.loop [5, 6, 7, 9, 12, 13] b11_2)

def b11_4 : DC :=
 (.seq (.seq (.reg [⟨(some 79), .mv, [.t 12], none⟩,
   ⟨(some 80), .mv, [.t 5], none⟩,
   ⟨(some 81), (.len 0), [.t 80], none⟩,
   ⟨(some 82), (.binI .lss), [.t 79, .t 81], none⟩] [5, 6, 7, 9, 12, 82])
 (.cond (.t 82)
  .skip
  (.exit 2)))
 (.seq (.block 3
  (.seq (.reg [⟨(some 13), .mv, [.c (.i .i64 0)], none⟩] [5, 6, 7, 9, 12, 13])
  (.block 4
   l11_3)))
 (.reg [⟨(some 83), .mv, [.t 12], none⟩,
   ⟨(some 84), (.binI .add), [.t 83, .c (.i .i64 1)], none⟩,
   ⟨(some 12), .mv, [.t 84], none⟩] [5, 6, 7, 9, 12])))

def l11_5 : DC :=
 (.loop [5, 6, 7, 9, 12] b11_4)

def c11 : DC :=
 (.seq (.reg [⟨(some 4), .mv, [.c (.b false)], none⟩] [0, 1])
 (.seq (.reg [⟨(some 20), .mv, [.t 0], none⟩,
   ⟨(some 21), .mv, [.t 1], none⟩,
   ⟨(some 22), (.call (.pu [])), [.c (.fn 17 [] []), .t 20, .t 21, .c (.i .i64 5)], none⟩,
   ⟨(some 5), .mv, [.t 22], none⟩] [5])
 (.seq (.reg [⟨(some 23), .mv, [.t 5], none⟩,
   ⟨(some 24), (.call (.pu [])), [.c (.fn 18 [] []), .t 23], none⟩,
   ⟨(some 6), .mv, [.t 24], none⟩] [5, 6])
 (.seq (.reg [⟨(some 26), .mv, [.t 6], none⟩,
   ⟨(some 27), (.call (.pu [])), [.c (.fn 34 [] []), .t 26], none⟩,
   ⟨(some 25), .mv, [.t 27], none⟩,
   ⟨(some 28), (.ext 0), [.t 25], none⟩,
   ⟨(some 29), (.ext 1), [.t 25], none⟩,
   ⟨(some 7), .mv, [.t 28], none⟩,
   ⟨(some 8), .mv, [.t 29], none⟩] [5, 6, 7, 8])
 (.seq (.reg [⟨(some 31), .mv, [.t 6], none⟩,
   ⟨(some 32), (.call (.pu [])), [.c (.fn 38 [] []), .t 31], none⟩,
   ⟨(some 30), .mv, [.t 32], none⟩,
   ⟨(some 33), (.ext 0), [.t 30], none⟩,
   ⟨(some 34), (.ext 1), [.t 30], none⟩,
   ⟨(some 9), .mv, [.t 33], none⟩,
   ⟨(some 10), .mv, [.t 34], none⟩] [5, 6, 7, 8, 9, 10])
 (.seq (.seq (.reg [⟨(some 35), .mv, [.t 8], none⟩,
   ⟨(some 36), (.binI .neq), [.t 35, .c (.i .i64 0)], none⟩,
   ⟨(some 37), .mv, [.t 36], none⟩,
   ⟨(some 38), .mv, [.t 10], (some (37, false))⟩,
   ⟨(some 39), (.binI .neq), [.t 38, .c (.i .i64 0)], (some (37, false))⟩,
   ⟨(some 40), .pick, [.t 37, .c (.b true), .t 39], none⟩,
   ⟨(some 41), .mv, [.t 40], none⟩,
   ⟨(some 42), .mv, [.t 7], (some (41, false))⟩,
   ⟨(some 43), (.len 0), [.t 42], (some (41, false))⟩,
   ⟨(some 44), .mv, [.t 5], (some (41, false))⟩,
   ⟨(some 45), (.len 0), [.t 44], (some (41, false))⟩,
   ⟨(some 46), (.binI .neq), [.t 43, .t 45], (some (41, false))⟩,
   ⟨(some 47), .pick, [.t 41, .c (.b true), .t 46], none⟩,
   ⟨(some 48), .mv, [.t 47], none⟩,
   ⟨(some 49), .mv, [.t 9], (some (48, false))⟩,
   ⟨(some 50), (.len 0), [.t 49], (some (48, false))⟩,
   ⟨(some 51), .mv, [.t 5], (some (48, false))⟩,
   ⟨(some 52), (.len 0), [.t 51], (some (48, false))⟩,
   ⟨(some 53), (.binI .neq), [.t 50, .t 52], (some (48, false))⟩,
   ⟨(some 54), .pick, [.t 48, .c (.b true), .t 53], none⟩] [5, 6, 7, 9, 54])
 (.cond (.t 54)
  (.seq (.reg [⟨(some 4), .mv, [.c (.b false)], none⟩] [4])
  .ret)
  .skip))
 (.seq (.seq (.reg [⟨(some 11), .mv, [.c (.i .i64 0)], none⟩] [5, 6, 7, 9, 11])
 (.block 0
  l11_1))
 (.seq (.seq (.reg [⟨(some 12), .mv, [.c (.i .i64 0)], none⟩] [5, 6, 7, 9, 12])
 (.block 2
  l11_5))
 (.seq (.reg [⟨(some 193), (.call (.pu [])), [.c (.fn 24 [] [])], none⟩,
   ⟨(some 4), .mv, [.t 193], none⟩] [4])
 .ret)))))))))

def d11 : DFun := ⟨2, 194, c11, [.t 4]⟩

theorem ok11 : Fok Tryd.prog 11 d11 := ⟨Tryd.f11, Tryd.func11, by kernel_rfl, by kernel_rfl⟩

-- bibelot/bibelotlaw09.PriceNumbers
def c12 : DC :=
 (.seq (.reg [⟨(some 4), .mv, [.c (.b false)], none⟩] [0, 1])
 (.seq (.reg [⟨(some 13), .mv, [.t 0], none⟩,
   ⟨(some 14), .mv, [.t 1], none⟩,
   ⟨(some 15), (.call (.pu [])), [.c (.fn 17 [] []), .t 13, .t 14, .c (.i .i64 5)], none⟩,
   ⟨(some 5), .mv, [.t 15], none⟩] [5])
 (.seq (.reg [⟨(some 16), .mv, [.t 5], none⟩,
   ⟨(some 17), (.call (.pu [])), [.c (.fn 18 [] []), .t 16], none⟩,
   ⟨(some 6), .mv, [.t 17], none⟩] [5, 6])
 (.seq (.reg [⟨(some 19), .mv, [.t 6], none⟩,
   ⟨(some 20), (.call (.pu [])), [.c (.fn 35 [] []), .t 19], none⟩,
   ⟨(some 18), .mv, [.t 20], none⟩,
   ⟨(some 21), (.ext 0), [.t 18], none⟩,
   ⟨(some 22), (.ext 1), [.t 18], none⟩,
   ⟨(some 23), (.ext 2), [.t 18], none⟩,
   ⟨(some 24), (.ext 3), [.t 18], none⟩,
   ⟨(some 7), .mv, [.t 21], none⟩,
   ⟨(some 8), .mv, [.t 22], none⟩,
   ⟨(some 9), .mv, [.t 23], none⟩,
   ⟨(some 10), .mv, [.t 24], none⟩] [5, 6, 7, 8, 9, 10])
 (.seq (.seq (.reg [⟨(some 25), .mv, [.t 10], none⟩,
   ⟨(some 26), (.binI .neq), [.t 25, .c (.i .i64 0)], none⟩,
   ⟨(some 27), .mv, [.t 26], none⟩,
   ⟨(some 28), .mv, [.t 9], (some (27, false))⟩,
   ⟨(some 29), .mv, [.t 5], (some (27, false))⟩,
   ⟨(some 30), (.call (.pu [])), [.c (.fn 26 [] []), .t 29, .c (.i .i64 1), .c (.i .i64 1)], (some (27, false))⟩,
   ⟨(some 31), (.call (.pu [])), [.c (.fn 27 [] []), .t 30], (some (27, false))⟩,
   ⟨(some 32), (.eqB false), [.t 28, .t 31], (some (27, false))⟩,
   ⟨(some 33), .pick, [.t 27, .c (.b true), .t 32], none⟩] [5, 6, 7, 8, 9, 33])
 (.cond (.t 33)
  (.seq (.reg [⟨(some 4), .mv, [.c (.b false)], none⟩] [4])
  .ret)
  .skip))
 (.seq (.seq (.reg [⟨(some 34), .mv, [.t 9], none⟩,
   ⟨(some 35), .notB, [.t 34], none⟩] [5, 6, 7, 8, 35])
 (.cond (.t 35)
  (.seq (.reg [⟨(some 36), .mv, [.t 7], none⟩,
    ⟨(some 37), (.len 0), [.t 36], none⟩,
    ⟨(some 38), .mv, [.t 8], none⟩,
    ⟨(some 39), (.len 0), [.t 38], none⟩,
    ⟨(some 40), (.binI .add), [.t 37, .t 39], none⟩,
    ⟨(some 41), (.binI .eql), [.t 40, .c (.i .i64 0)], none⟩,
    ⟨(some 42), .mv, [.t 41], none⟩,
    ⟨(some 43), (.call (.pu [])), [.c (.fn 24 [] [])], (some (42, true))⟩,
    ⟨(some 44), .pick, [.t 42, .t 43, .c (.b false)], none⟩,
    ⟨(some 4), .mv, [.t 44], none⟩] [4])
  .ret)
  .skip))
 (.seq (.reg [⟨(some 46), .mv, [.t 6], none⟩,
   ⟨(some 47), .mv, [.t 7], none⟩,
   ⟨(some 48), .mv, [.t 8], none⟩,
   ⟨(some 49), (.call (.pu [])), [.c (.fn 43 [] []), .t 46, .t 47, .t 48], none⟩,
   ⟨(some 45), .mv, [.t 49], none⟩,
   ⟨(some 50), (.ext 0), [.t 45], none⟩,
   ⟨(some 51), (.ext 1), [.t 45], none⟩,
   ⟨(some 11), .mv, [.t 50], none⟩,
   ⟨(some 12), .mv, [.t 51], none⟩] [5, 7, 8, 11, 12])
 (.seq (.reg [⟨(some 52), .mv, [.t 5], none⟩,
   ⟨(some 53), .mv, [.t 7], none⟩,
   ⟨(some 54), .mv, [.t 8], none⟩,
   ⟨(some 55), (.call (.pu [])), [.c (.fn 44 [] []), .t 52, .t 53, .t 54], none⟩,
   ⟨(some 56), .mv, [.t 55], none⟩,
   ⟨(some 57), .mv, [.t 12], (some (56, true))⟩,
   ⟨(some 58), (.binI .eql), [.t 57, .c (.i .i64 0)], (some (56, true))⟩,
   ⟨(some 59), .pick, [.t 56, .t 58, .c (.b false)], none⟩,
   ⟨(some 60), .mv, [.t 59], none⟩,
   ⟨(some 61), .mv, [.t 11], (some (60, true))⟩,
   ⟨(some 62), .pick, [.t 60, .t 61, .c (.b false)], none⟩,
   ⟨(some 63), .mv, [.t 62], none⟩,
   ⟨(some 64), (.call (.pu [])), [.c (.fn 24 [] [])], (some (63, true))⟩,
   ⟨(some 65), .pick, [.t 63, .t 64, .c (.b false)], none⟩,
   ⟨(some 4), .mv, [.t 65], none⟩] [4])
 .ret))))))))

def d12 : DFun := ⟨2, 66, c12, [.t 4]⟩

theorem ok12 : Fok Tryd.prog 12 d12 := ⟨Tryd.f12, Tryd.func12, by kernel_rfl, by kernel_rfl⟩

-- bibelot/bibelotlaw09.PriceBetter
def b13_0 : DC :=
 (.seq (.seq (.reg [⟨(some 45), .mv, [.t 10], none⟩,
   ⟨(some 46), .mv, [.t 5], none⟩,
   ⟨(some 47), (.len 0), [.t 46], none⟩,
   ⟨(some 48), (.binI .lss), [.t 45, .t 47], none⟩] [5, 6, 7, 9, 10, 48])
 (.cond (.t 48)
  .skip
  (.exit 2)))
 (.seq (.block 3
  (.seq (.reg [⟨(some 52), .mv, [.t 6], none⟩,
    ⟨(some 53), .mv, [.t 9], none⟩,
    ⟨(some 54), .mv, [.t 10], none⟩,
    ⟨(some 55), (.call (.pu [])), [.c (.fn 40 [] []), .t 52, .t 53, .t 54], none⟩,
    ⟨(some 51), .mv, [.t 55], none⟩,
    ⟨(some 56), (.ext 0), [.t 51], none⟩,
    ⟨(some 57), (.ext 1), [.t 51], none⟩,
    ⟨(some 11), .mv, [.t 56], none⟩,
    ⟨(some 12), .mv, [.t 57], none⟩] [5, 6, 7, 9, 10, 11, 12])
  (.seq (.reg [⟨(some 59), .mv, [.t 6], none⟩,
    ⟨(some 60), .mv, [.t 10], none⟩,
    ⟨(some 61), .mv, [.t 9], none⟩,
    ⟨(some 62), (.call (.pu [])), [.c (.fn 40 [] []), .t 59, .t 60, .t 61], none⟩,
    ⟨(some 58), .mv, [.t 62], none⟩,
    ⟨(some 63), (.ext 0), [.t 58], none⟩,
    ⟨(some 64), (.ext 1), [.t 58], none⟩,
    ⟨(some 13), .mv, [.t 63], none⟩,
    ⟨(some 14), .mv, [.t 64], none⟩] [5, 6, 7, 9, 10, 11, 12, 13, 14])
  (.seq (.reg [⟨(some 65), .mv, [.t 12], none⟩,
    ⟨(some 66), (.binI .neq), [.t 65, .c (.i .i64 0)], none⟩,
    ⟨(some 67), .mv, [.t 66], none⟩,
    ⟨(some 68), .mv, [.t 14], (some (67, false))⟩,
    ⟨(some 69), (.binI .neq), [.t 68, .c (.i .i64 0)], (some (67, false))⟩,
    ⟨(some 70), .pick, [.t 67, .c (.b true), .t 69], none⟩,
    ⟨(some 71), .mv, [.t 70], none⟩,
    ⟨(some 72), .mv, [.t 11], (some (71, false))⟩,
    ⟨(some 73), (.binI .lss), [.t 72, .c (.i .i64 (-1))], (some (71, false))⟩,
    ⟨(some 74), .pick, [.t 71, .c (.b true), .t 73], none⟩,
    ⟨(some 75), .mv, [.t 74], none⟩,
    ⟨(some 76), .mv, [.t 11], (some (75, false))⟩,
    ⟨(some 77), (.binI .gtr), [.t 76, .c (.i .i64 2)], (some (75, false))⟩,
    ⟨(some 78), .pick, [.t 75, .c (.b true), .t 77], none⟩,
    ⟨(some 79), .mv, [.t 78], none⟩,
    ⟨(some 80), .mv, [.t 11], (some (79, false))⟩,
    ⟨(some 81), (.binI .eql), [.t 80, .c (.i .i64 2)], (some (79, false))⟩,
    ⟨(some 82), .mv, [.t 81], (some (79, false))⟩,
    ⟨(some 83), .mv, [.t 11], (some (82, false))⟩,
    ⟨(some 84), (.binI .eql), [.t 83, .c (.i .i64 0)], (some (82, false))⟩,
    ⟨(some 85), .pick, [.t 82, .c (.b true), .t 84], (some (79, false))⟩,
    ⟨(some 86), .mv, [.t 85], (some (79, false))⟩,
    ⟨(some 87), .mv, [.t 13], (some (86, true))⟩,
    ⟨(some 88), .mv, [.t 11], (some (86, true))⟩,
    ⟨(some 89), (.binI .neq), [.t 87, .t 88], (some (86, true))⟩,
    ⟨(some 90), .pick, [.t 86, .t 89, .c (.b false)], (some (79, false))⟩,
    ⟨(some 91), .pick, [.t 79, .c (.b true), .t 90], none⟩,
    ⟨(some 92), .mv, [.t 91], none⟩,
    ⟨(some 93), .mv, [.t 11], (some (92, false))⟩,
    ⟨(some 94), (.binI .eql), [.t 93, .c (.i .i64 1)], (some (92, false))⟩,
    ⟨(some 95), .mv, [.t 94], (some (92, false))⟩,
    ⟨(some 96), .mv, [.t 11], (some (95, false))⟩,
    ⟨(some 97), (.binI .eql), [.t 96, .c (.i .i64 (-1))], (some (95, false))⟩,
    ⟨(some 98), .pick, [.t 95, .c (.b true), .t 97], (some (92, false))⟩,
    ⟨(some 99), .mv, [.t 98], (some (92, false))⟩,
    ⟨(some 100), .mv, [.t 13], (some (99, true))⟩,
    ⟨(some 101), .mv, [.t 11], (some (99, true))⟩,
    ⟨(some 102), (.negI .i64), [.t 101], (some (99, true))⟩,
    ⟨(some 103), (.binI .neq), [.t 100, .t 102], (some (99, true))⟩,
    ⟨(some 104), .pick, [.t 99, .t 103, .c (.b false)], (some (92, false))⟩,
    ⟨(some 105), .pick, [.t 92, .c (.b true), .t 104], none⟩,
    ⟨(some 106), .mv, [.t 105], none⟩,
    ⟨(some 107), .mv, [.t 9], (some (106, false))⟩,
    ⟨(some 108), .mv, [.t 10], (some (106, false))⟩,
    ⟨(some 109), (.binI .eql), [.t 107, .t 108], (some (106, false))⟩,
    ⟨(some 110), .mv, [.t 109], (some (106, false))⟩,
    ⟨(some 111), .mv, [.t 11], (some (110, true))⟩,
    ⟨(some 112), (.binI .neq), [.t 111, .c (.i .i64 2)], (some (110, true))⟩,
    ⟨(some 113), .pick, [.t 110, .t 112, .c (.b false)], (some (106, false))⟩,
    ⟨(some 114), .pick, [.t 106, .c (.b true), .t 113], none⟩,
    ⟨(some 115), .mv, [.t 114], none⟩,
    ⟨(some 116), .mv, [.t 7], (some (115, false))⟩,
    ⟨(some 117), .mv, [.t 9], (some (115, false))⟩,
    ⟨(some 118), (.ixS 1 false), [.t 116, .t 117], (some (115, false))⟩,
    ⟨(some 119), (.ld 1 false), [.t 118], (some (115, false))⟩,
    ⟨(some 120), (.len 0), [.t 119], (some (115, false))⟩,
    ⟨(some 121), .mv, [.t 5], (some (115, false))⟩,
    ⟨(some 122), (.len 0), [.t 121], (some (115, false))⟩,
    ⟨(some 123), (.binI .neq), [.t 120, .t 122], (some (115, false))⟩,
    ⟨(some 124), .pick, [.t 115, .c (.b true), .t 123], none⟩,
    ⟨(some 125), .mv, [.t 124], none⟩,
    ⟨(some 126), .mv, [.t 7], (some (125, false))⟩,
    ⟨(some 127), .mv, [.t 9], (some (125, false))⟩,
    ⟨(some 128), (.ixS 1 false), [.t 126, .t 127], (some (125, false))⟩,
    ⟨(some 129), (.ld 1 false), [.t 128], (some (125, false))⟩,
    ⟨(some 130), .mv, [.t 10], (some (125, false))⟩,
    ⟨(some 131), (.ixS 1 false), [.t 129, .t 130], (some (125, false))⟩,
    ⟨(some 132), (.ld 1 false), [.t 131], (some (125, false))⟩,
    ⟨(some 133), (.binI .gtr), [.t 132, .c (.i .i64 0)], (some (125, false))⟩,
    ⟨(some 134), .mv, [.t 133], (some (125, false))⟩,
    ⟨(some 135), .mv, [.t 11], (some (134, true))⟩,
    ⟨(some 136), (.binI .lss), [.t 135, .c (.i .i64 1)], (some (134, true))⟩,
    ⟨(some 137), .pick, [.t 134, .t 136, .c (.b false)], (some (125, false))⟩,
    ⟨(some 138), .pick, [.t 125, .c (.b true), .t 137], none⟩] [5, 6, 7, 9, 10, 138])
  (.cond (.t 138)
   (.seq (.reg [⟨(some 4), .mv, [.c (.b false)], none⟩] [4])
   .ret)
   .skip)))))
 (.reg [⟨(some 49), .mv, [.t 10], none⟩,
   ⟨(some 50), (.binI .add), [.t 49, .c (.i .i64 1)], none⟩,
   ⟨(some 10), .mv, [.t 50], none⟩] [5, 6, 7, 9, 10])))

def l13_1 : DC :=
 (.loop [5, 6, 7, 9, 10] b13_0)

def b13_2 : DC :=
 (.seq (.seq (.reg [⟨(some 39), .mv, [.t 9], none⟩,
   ⟨(some 40), .mv, [.t 5], none⟩,
   ⟨(some 41), (.len 0), [.t 40], none⟩,
   ⟨(some 42), (.binI .lss), [.t 39, .t 41], none⟩] [5, 6, 7, 9, 42])
 (.cond (.t 42)
  .skip
  (.exit 0)))
 (.seq (.block 1
  (.seq (.reg [⟨(some 10), .mv, [.c (.i .i64 0)], none⟩] [5, 6, 7, 9, 10])
  (.block 2
   l13_1)))
 (.reg [⟨(some 43), .mv, [.t 9], none⟩,
   ⟨(some 44), (.binI .add), [.t 43, .c (.i .i64 1)], none⟩,
   ⟨(some 9), .mv, [.t 44], none⟩] [5, 6, 7, 9])))

def l13_3 : DC :=
 (.loop [5, 6, 7, 9] b13_2)

def c13 : DC :=
 (.seq (.reg [⟨(some 4), .mv, [.c (.b false)], none⟩] [0, 1])
 (.seq (.reg [⟨(some 20), .mv, [.t 0], none⟩,
   ⟨(some 21), .mv, [.t 1], none⟩,
   ⟨(some 22), (.call (.pu [])), [.c (.fn 17 [] []), .t 20, .t 21, .c (.i .i64 5)], none⟩,
   ⟨(some 5), .mv, [.t 22], none⟩] [5])
 (.seq (.reg [⟨(some 23), .mv, [.t 5], none⟩,
   ⟨(some 24), (.call (.pu [])), [.c (.fn 18 [] []), .t 23], none⟩,
   ⟨(some 6), .mv, [.t 24], none⟩] [5, 6])
 (.seq (.reg [⟨(some 26), .mv, [.t 6], none⟩,
   ⟨(some 27), (.call (.pu [])), [.c (.fn 38 [] []), .t 26], none⟩,
   ⟨(some 25), .mv, [.t 27], none⟩,
   ⟨(some 28), (.ext 0), [.t 25], none⟩,
   ⟨(some 29), (.ext 1), [.t 25], none⟩,
   ⟨(some 7), .mv, [.t 28], none⟩,
   ⟨(some 8), .mv, [.t 29], none⟩] [5, 6, 7, 8])
 (.seq (.seq (.reg [⟨(some 30), .mv, [.t 8], none⟩,
   ⟨(some 31), (.binI .neq), [.t 30, .c (.i .i64 0)], none⟩,
   ⟨(some 32), .mv, [.t 31], none⟩,
   ⟨(some 33), .mv, [.t 7], (some (32, false))⟩,
   ⟨(some 34), (.len 0), [.t 33], (some (32, false))⟩,
   ⟨(some 35), .mv, [.t 5], (some (32, false))⟩,
   ⟨(some 36), (.len 0), [.t 35], (some (32, false))⟩,
   ⟨(some 37), (.binI .neq), [.t 34, .t 36], (some (32, false))⟩,
   ⟨(some 38), .pick, [.t 32, .c (.b true), .t 37], none⟩] [5, 6, 7, 38])
 (.cond (.t 38)
  (.seq (.reg [⟨(some 4), .mv, [.c (.b false)], none⟩] [4])
  .ret)
  .skip))
 (.seq (.seq (.reg [⟨(some 9), .mv, [.c (.i .i64 0)], none⟩] [5, 6, 7, 9])
 (.block 0
  l13_3))
 (.seq (.reg [⟨(some 140), .mv, [.t 6], none⟩,
   ⟨(some 141), (.call (.pu [])), [.c (.fn 25 [] []), .t 140], none⟩,
   ⟨(some 139), .mv, [.t 141], none⟩,
   ⟨(some 142), (.ext 0), [.t 139], none⟩,
   ⟨(some 143), (.ext 1), [.t 139], none⟩,
   ⟨(some 144), (.ext 2), [.t 139], none⟩,
   ⟨(some 15), .mv, [.t 142], none⟩,
   ⟨(some 16), .mv, [.t 143], none⟩,
   ⟨(some 17), .mv, [.t 144], none⟩] [6, 15, 16, 17])
 (.seq (.seq (.reg [⟨(some 145), .mv, [.t 17], none⟩,
   ⟨(some 146), (.binI .neq), [.t 145, .c (.i .i64 0)], none⟩,
   ⟨(some 147), .mv, [.t 146], none⟩,
   ⟨(some 148), .mv, [.t 16], (some (147, false))⟩,
   ⟨(some 149), .notB, [.t 148], (some (147, false))⟩,
   ⟨(some 150), .pick, [.t 147, .c (.b true), .t 149], none⟩] [6, 15, 17, 150])
 (.cond (.t 150)
  (.seq (.reg [⟨(some 151), .mv, [.t 17], none⟩,
    ⟨(some 152), (.binI .eql), [.t 151, .c (.i .i64 0)], none⟩,
    ⟨(some 153), .mv, [.t 152], none⟩,
    ⟨(some 154), (.call (.pu [])), [.c (.fn 24 [] [])], (some (153, true))⟩,
    ⟨(some 155), .pick, [.t 153, .t 154, .c (.b false)], none⟩,
    ⟨(some 4), .mv, [.t 155], none⟩] [4])
  .ret)
  .skip))
 (.seq (.reg [⟨(some 157), .mv, [.t 6], none⟩,
   ⟨(some 158), .mv, [.t 15], none⟩,
   ⟨(some 159), (.call (.pu [])), [.c (.fn 31 [] []), .t 157, .t 158], none⟩,
   ⟨(some 156), .mv, [.t 159], none⟩,
   ⟨(some 160), (.ext 0), [.t 156], none⟩,
   ⟨(some 161), (.ext 1), [.t 156], none⟩,
   ⟨(some 18), .mv, [.t 160], none⟩,
   ⟨(some 19), .mv, [.t 161], none⟩] [18, 19])
 (.seq (.reg [⟨(some 162), .mv, [.t 19], none⟩,
   ⟨(some 163), (.binI .eql), [.t 162, .c (.i .i64 0)], none⟩,
   ⟨(some 164), .mv, [.t 163], none⟩,
   ⟨(some 165), .mv, [.t 18], (some (164, true))⟩,
   ⟨(some 166), (.binI .geq), [.t 165, .c (.i .i64 1)], (some (164, true))⟩,
   ⟨(some 167), .pick, [.t 164, .t 166, .c (.b false)], none⟩,
   ⟨(some 168), .mv, [.t 167], none⟩,
   ⟨(some 169), (.call (.pu [])), [.c (.fn 24 [] [])], (some (168, true))⟩,
   ⟨(some 170), .pick, [.t 168, .t 169, .c (.b false)], none⟩,
   ⟨(some 4), .mv, [.t 170], none⟩] [4])
 .ret))))))))))

def d13 : DFun := ⟨2, 171, c13, [.t 4]⟩

theorem ok13 : Fok Tryd.prog 13 d13 := ⟨Tryd.f13, Tryd.func13, by kernel_rfl, by kernel_rfl⟩

-- bibelot/bibelotlaw09.PriceAfriat
def b14_0 : DC :=
 (.seq (.seq (.reg [⟨(some 73), .mv, [.t 17], none⟩,
   ⟨(some 74), .mv, [.t 7], none⟩,
   ⟨(some 75), (.ixS 2 true), [.t 74, .c (.i .i64 0)], none⟩,
   ⟨(some 76), (.fadr 0 1 false), [.t 75], none⟩,
   ⟨(some 77), (.ld 1 false), [.t 76], none⟩,
   ⟨(some 78), (.len 0), [.t 77], none⟩,
   ⟨(some 79), (.binI .lss), [.t 73, .t 78], none⟩] [2, 7, 8, 9, 10, 16, 17, 79])
 (.cond (.t 79)
  .skip
  (.exit 0)))
 (.seq (.block 1
  (.seq (.reg [⟨(some 18), .mv, [.c (.i .i64 1)], none⟩] [2, 7, 8, 9, 10, 16, 17, 18])
  (.seq (.seq (.reg [⟨(some 82), .mv, [.t 17], none⟩,
    ⟨(some 83), .mv, [.t 2], none⟩,
    ⟨(some 84), (.len 0), [.t 83], none⟩,
    ⟨(some 85), (.binI .lss), [.t 82, .t 84], none⟩] [2, 7, 8, 9, 10, 16, 17, 18, 85])
  (.cond (.t 85)
   (.reg [⟨(some 86), .mv, [.t 2], none⟩,
     ⟨(some 87), .mv, [.t 17], none⟩,
     ⟨(some 88), (.ixS 1 false), [.t 86, .t 87], none⟩,
     ⟨(some 89), (.ld 1 false), [.t 88], none⟩,
     ⟨(some 90), (.conv .u64), [.t 89], none⟩,
     ⟨(some 91), (.binI .rem), [.t 90, .c (.i .u64 21)], none⟩,
     ⟨(some 92), (.conv .i64), [.t 91], none⟩,
     ⟨(some 18), .mv, [.t 92], none⟩] [2, 7, 8, 9, 10, 16, 17, 18])
   .skip))
  (.reg [⟨(some 93), .mv, [.t 16], none⟩,
    ⟨(some 94), .mv, [.t 18], none⟩,
    ⟨(some 95), (.bsl false [(.i .i64 0)] false 1 [0]), [.t 94], none⟩,
    ⟨(some 96), (.app 1 false 8), [.t 93, .t 95], none⟩,
    ⟨(some 16), .mv, [.t 96], none⟩] [2, 7, 8, 9, 10, 16, 17]))))
 (.reg [⟨(some 80), .mv, [.t 17], none⟩,
   ⟨(some 81), (.binI .add), [.t 80, .c (.i .i64 1)], none⟩,
   ⟨(some 17), .mv, [.t 81], none⟩] [2, 7, 8, 9, 10, 16, 17])))

def l14_1 : DC :=
 (.loop [2, 7, 8, 9, 10, 16, 17] b14_0)

def b14_2 : DC :=
 (.seq (.seq (.reg [⟨(some 107), .mv, [.t 21], none⟩,
   ⟨(some 108), .mv, [.t 7], none⟩,
   ⟨(some 109), (.len 0), [.t 108], none⟩,
   ⟨(some 110), (.binI .lss), [.t 107, .t 109], none⟩] [7, 8, 9, 10, 16, 19, 21, 110])
 (.cond (.t 110)
  .skip
  (.exit 2)))
 (.seq (.block 3
  (.seq (.reg [⟨(some 114), .mv, [.t 8], none⟩,
    ⟨(some 115), .mv, [.t 9], none⟩,
    ⟨(some 116), .mv, [.t 10], none⟩,
    ⟨(some 117), .mv, [.t 7], none⟩,
    ⟨(some 118), .mv, [.t 21], none⟩,
    ⟨(some 119), (.ixS 2 true), [.t 117, .t 118], none⟩,
    ⟨(some 120), (.fadr 1 1 false), [.t 119], none⟩,
    ⟨(some 121), (.ld 1 false), [.t 120], none⟩,
    ⟨(some 122), (.call (.pu [])), [.c (.fn 29 [] []), .t 121, .c (.i .i64 4)], none⟩,
    ⟨(some 123), (.call (.pu [])), [.c (.fn 45 [] []), .t 114, .t 115, .t 116, .t 122], none⟩,
    ⟨(some 113), .mv, [.t 123], none⟩,
    ⟨(some 124), (.ext 0), [.t 113], none⟩,
    ⟨(some 125), (.ext 1), [.t 113], none⟩,
    ⟨(some 22), .mv, [.t 124], none⟩,
    ⟨(some 23), .mv, [.t 125], none⟩] [7, 8, 9, 10, 16, 19, 21, 22, 23])
  (.seq (.reg [⟨(some 126), .mv, [.t 23], none⟩,
    ⟨(some 127), (.binI .neq), [.t 126, .c (.i .i64 0)], none⟩,
    ⟨(some 128), .mv, [.t 127], none⟩,
    ⟨(some 129), .mv, [.t 22], (some (128, false))⟩,
    ⟨(some 130), .mv, [.t 9], (some (128, false))⟩,
    ⟨(some 131), .mv, [.t 21], (some (128, false))⟩,
    ⟨(some 132), (.ixS 1 false), [.t 130, .t 131], (some (128, false))⟩,
    ⟨(some 133), (.ld 1 false), [.t 132], (some (128, false))⟩,
    ⟨(some 134), (.binI .neq), [.t 129, .t 133], (some (128, false))⟩,
    ⟨(some 135), .pick, [.t 128, .c (.b true), .t 134], none⟩,
    ⟨(some 136), .mv, [.t 135], none⟩,
    ⟨(some 137), .mv, [.t 7], (some (136, false))⟩,
    ⟨(some 138), .mv, [.t 21], (some (136, false))⟩,
    ⟨(some 139), (.ixS 2 true), [.t 137, .t 138], (some (136, false))⟩,
    ⟨(some 140), (.fadr 0 1 false), [.t 139], (some (136, false))⟩,
    ⟨(some 141), (.ld 1 false), [.t 140], (some (136, false))⟩,
    ⟨(some 142), .mv, [.t 16], (some (136, false))⟩,
    ⟨(some 143), (.call (.pu [])), [.c (.fn 46 [] []), .t 141, .t 142], (some (136, false))⟩,
    ⟨(some 144), .mv, [.t 7], (some (136, false))⟩,
    ⟨(some 145), .mv, [.t 21], (some (136, false))⟩,
    ⟨(some 146), (.ixS 2 true), [.t 144, .t 145], (some (136, false))⟩,
    ⟨(some 147), (.fadr 0 1 false), [.t 146], (some (136, false))⟩,
    ⟨(some 148), (.ld 1 false), [.t 147], (some (136, false))⟩,
    ⟨(some 149), .mv, [.t 7], (some (136, false))⟩,
    ⟨(some 150), .mv, [.t 21], (some (136, false))⟩,
    ⟨(some 151), (.ixS 2 true), [.t 149, .t 150], (some (136, false))⟩,
    ⟨(some 152), (.fadr 1 1 false), [.t 151], (some (136, false))⟩,
    ⟨(some 153), (.ld 1 false), [.t 152], (some (136, false))⟩,
    ⟨(some 154), (.call (.pu [])), [.c (.fn 46 [] []), .t 148, .t 153], (some (136, false))⟩,
    ⟨(some 155), (.binI .leq), [.t 143, .t 154], (some (136, false))⟩,
    ⟨(some 156), .mv, [.t 155], (some (136, false))⟩,
    ⟨(some 157), .mv, [.t 19], (some (156, true))⟩,
    ⟨(some 158), .mv, [.t 22], (some (156, true))⟩,
    ⟨(some 159), (.binI .gtr), [.t 157, .t 158], (some (156, true))⟩,
    ⟨(some 160), .pick, [.t 156, .t 159, .c (.b false)], (some (136, false))⟩,
    ⟨(some 161), .pick, [.t 136, .c (.b true), .t 160], none⟩] [7, 8, 9, 10, 16, 19, 21, 161])
  (.cond (.t 161)
   (.seq (.reg [⟨(some 6), .mv, [.c (.b false)], none⟩] [6])
   .ret)
   .skip))))
 (.reg [⟨(some 111), .mv, [.t 21], none⟩,
   ⟨(some 112), (.binI .add), [.t 111, .c (.i .i64 1)], none⟩,
   ⟨(some 21), .mv, [.t 112], none⟩] [7, 8, 9, 10, 16, 19, 21])))

def l14_3 : DC :=
 (.loop [7, 8, 9, 10, 16, 19, 21] b14_2)

def c14 : DC :=
 (.seq (.reg [⟨(some 6), .mv, [.c (.b false)], none⟩] [0, 1, 2])
 (.seq (.reg [⟨(some 24), .mv, [.t 0], none⟩,
   ⟨(some 25), .mv, [.t 1], none⟩,
   ⟨(some 26), (.call (.pu [])), [.c (.fn 17 [] []), .t 24, .t 25, .c (.i .i64 5)], none⟩,
   ⟨(some 7), .mv, [.t 26], none⟩] [2, 7])
 (.seq (.reg [⟨(some 27), .mv, [.t 7], none⟩,
   ⟨(some 28), (.call (.pu [])), [.c (.fn 18 [] []), .t 27], none⟩,
   ⟨(some 8), .mv, [.t 28], none⟩] [2, 7, 8])
 (.seq (.reg [⟨(some 30), .mv, [.t 8], none⟩,
   ⟨(some 31), (.call (.pu [])), [.c (.fn 35 [] []), .t 30], none⟩,
   ⟨(some 29), .mv, [.t 31], none⟩,
   ⟨(some 32), (.ext 0), [.t 29], none⟩,
   ⟨(some 33), (.ext 1), [.t 29], none⟩,
   ⟨(some 34), (.ext 2), [.t 29], none⟩,
   ⟨(some 35), (.ext 3), [.t 29], none⟩,
   ⟨(some 9), .mv, [.t 32], none⟩,
   ⟨(some 10), .mv, [.t 33], none⟩,
   ⟨(some 11), .mv, [.t 34], none⟩,
   ⟨(some 12), .mv, [.t 35], none⟩] [2, 7, 8, 9, 10, 11, 12])
 (.seq (.reg [⟨(some 37), .mv, [.t 8], none⟩,
   ⟨(some 38), (.call (.pu [])), [.c (.fn 25 [] []), .t 37], none⟩,
   ⟨(some 36), .mv, [.t 38], none⟩,
   ⟨(some 39), (.ext 0), [.t 36], none⟩,
   ⟨(some 40), (.ext 1), [.t 36], none⟩,
   ⟨(some 41), (.ext 2), [.t 36], none⟩,
   ⟨(some 13), .mv, [.t 39], none⟩,
   ⟨(some 14), .mv, [.t 40], none⟩,
   ⟨(some 15), .mv, [.t 41], none⟩] [2, 7, 8, 9, 10, 11, 12, 14, 15])
 (.seq (.seq (.reg [⟨(some 42), .mv, [.t 12], none⟩,
   ⟨(some 43), (.binI .neq), [.t 42, .c (.i .i64 0)], none⟩,
   ⟨(some 44), .mv, [.t 43], none⟩,
   ⟨(some 45), .mv, [.t 15], (some (44, false))⟩,
   ⟨(some 46), (.binI .neq), [.t 45, .c (.i .i64 0)], (some (44, false))⟩,
   ⟨(some 47), .pick, [.t 44, .c (.b true), .t 46], none⟩,
   ⟨(some 48), .mv, [.t 47], none⟩,
   ⟨(some 49), .mv, [.t 11], (some (48, false))⟩,
   ⟨(some 50), .mv, [.t 14], (some (48, false))⟩,
   ⟨(some 51), (.eqB false), [.t 49, .t 50], (some (48, false))⟩,
   ⟨(some 52), .pick, [.t 48, .c (.b true), .t 51], none⟩,
   ⟨(some 53), .mv, [.t 52], none⟩,
   ⟨(some 54), .mv, [.t 11], (some (53, false))⟩,
   ⟨(some 55), .mv, [.t 54], (some (53, false))⟩,
   ⟨(some 56), .mv, [.t 9], (some (55, true))⟩,
   ⟨(some 57), (.len 0), [.t 56], (some (55, true))⟩,
   ⟨(some 58), .mv, [.t 7], (some (55, true))⟩,
   ⟨(some 59), (.len 0), [.t 58], (some (55, true))⟩,
   ⟨(some 60), (.binI .neq), [.t 57, .t 59], (some (55, true))⟩,
   ⟨(some 61), .mv, [.t 60], (some (55, true))⟩,
   ⟨(some 62), .mv, [.t 10], (some (61, false))⟩,
   ⟨(some 63), (.len 0), [.t 62], (some (61, false))⟩,
   ⟨(some 64), .mv, [.t 7], (some (61, false))⟩,
   ⟨(some 65), (.len 0), [.t 64], (some (61, false))⟩,
   ⟨(some 66), (.binI .neq), [.t 63, .t 65], (some (61, false))⟩,
   ⟨(some 67), .pick, [.t 61, .c (.b true), .t 66], (some (55, true))⟩,
   ⟨(some 68), .pick, [.t 55, .t 67, .c (.b false)], (some (53, false))⟩,
   ⟨(some 69), .pick, [.t 53, .c (.b true), .t 68], none⟩] [2, 7, 8, 9, 10, 11, 69])
 (.cond (.t 69)
  (.seq (.reg [⟨(some 6), .mv, [.c (.b false)], none⟩] [6])
  .ret)
  .skip))
 (.seq (.seq (.reg [⟨(some 70), .mv, [.t 11], none⟩,
   ⟨(some 71), .notB, [.t 70], none⟩] [2, 7, 8, 9, 10, 71])
 (.cond (.t 71)
  (.seq (.reg [⟨(some 72), (.call (.pu [])), [.c (.fn 24 [] [])], none⟩,
    ⟨(some 6), .mv, [.t 72], none⟩] [6])
  .ret)
  .skip))
 (.seq (.reg [⟨(some 16), .mv, [.c .nilsl], none⟩] [2, 7, 8, 9, 10, 16])
 (.seq (.seq (.reg [⟨(some 17), .mv, [.c (.i .i64 0)], none⟩] [2, 7, 8, 9, 10, 16, 17])
 (.block 0
  l14_1))
 (.seq (.reg [⟨(some 98), .mv, [.t 8], none⟩,
   ⟨(some 99), .mv, [.t 9], none⟩,
   ⟨(some 100), .mv, [.t 10], none⟩,
   ⟨(some 101), .mv, [.t 16], none⟩,
   ⟨(some 102), (.call (.pu [])), [.c (.fn 45 [] []), .t 98, .t 99, .t 100, .t 101], none⟩,
   ⟨(some 97), .mv, [.t 102], none⟩,
   ⟨(some 103), (.ext 0), [.t 97], none⟩,
   ⟨(some 104), (.ext 1), [.t 97], none⟩,
   ⟨(some 19), .mv, [.t 103], none⟩,
   ⟨(some 20), .mv, [.t 104], none⟩] [7, 8, 9, 10, 16, 19, 20])
 (.seq (.seq (.reg [⟨(some 105), .mv, [.t 20], none⟩,
   ⟨(some 106), (.binI .neq), [.t 105, .c (.i .i64 0)], none⟩] [7, 8, 9, 10, 16, 19, 106])
 (.cond (.t 106)
  (.seq (.reg [⟨(some 6), .mv, [.c (.b false)], none⟩] [6])
  .ret)
  .skip))
 (.seq (.seq (.reg [⟨(some 21), .mv, [.c (.i .i64 0)], none⟩] [7, 8, 9, 10, 16, 19, 21])
 (.block 2
  l14_3))
 (.seq (.reg [⟨(some 162), (.call (.pu [])), [.c (.fn 24 [] [])], none⟩,
   ⟨(some 6), .mv, [.t 162], none⟩] [6])
 .ret)))))))))))))

def d14 : DFun := ⟨3, 163, c14, [.t 6]⟩

theorem ok14 : Fok Tryd.prog 14 d14 := ⟨Tryd.f14, Tryd.func14, by kernel_rfl, by kernel_rfl⟩

-- bibelot/bibelotlaw09.PriceValues
def b15_0 : DC :=
 (.seq (.seq (.reg [⟨(some 117), .mv, [.t 23], none⟩,
   ⟨(some 118), .mv, [.t 7], none⟩,
   ⟨(some 119), (.ixS 2 true), [.t 118, .c (.i .i64 0)], none⟩,
   ⟨(some 120), (.fadr 0 1 false), [.t 119], none⟩,
   ⟨(some 121), (.ld 1 false), [.t 120], none⟩,
   ⟨(some 122), (.len 0), [.t 121], none⟩,
   ⟨(some 123), (.binI .lss), [.t 117, .t 122], none⟩] [7, 8, 9, 10, 11, 12, 22, 23, 123])
 (.cond (.t 123)
  .skip
  (.exit 2)))
 (.seq (.block 3
  (.seq (.reg [⟨(some 24), .mv, [.c (.i .i64 0)], none⟩] [7, 8, 9, 10, 11, 12, 22, 23, 24])
  (.seq (.seq (.reg [⟨(some 126), .mv, [.t 23], none⟩,
    ⟨(some 127), .mv, [.t 11], none⟩,
    ⟨(some 128), (.len 0), [.t 127], none⟩,
    ⟨(some 129), (.binI .lss), [.t 126, .t 128], none⟩] [7, 8, 9, 10, 11, 12, 22, 23, 24, 129])
  (.cond (.t 129)
   (.reg [⟨(some 130), .mv, [.t 11], none⟩,
     ⟨(some 131), .mv, [.t 23], none⟩,
     ⟨(some 132), (.ixS 1 false), [.t 130, .t 131], none⟩,
     ⟨(some 133), (.ld 1 false), [.t 132], none⟩,
     ⟨(some 134), (.conv .u64), [.t 133], none⟩,
     ⟨(some 135), (.binI .rem), [.t 134, .c (.i .u64 21)], none⟩,
     ⟨(some 136), (.conv .i64), [.t 135], none⟩,
     ⟨(some 24), .mv, [.t 136], none⟩] [7, 8, 9, 10, 11, 12, 22, 23, 24])
   .skip))
  (.reg [⟨(some 137), .mv, [.t 22], none⟩,
    ⟨(some 138), .mv, [.t 24], none⟩,
    ⟨(some 139), (.bsl false [(.i .i64 0)] false 1 [0]), [.t 138], none⟩,
    ⟨(some 140), (.app 1 false 8), [.t 137, .t 139], none⟩,
    ⟨(some 22), .mv, [.t 140], none⟩] [7, 8, 9, 10, 11, 12, 22, 23]))))
 (.reg [⟨(some 124), .mv, [.t 23], none⟩,
   ⟨(some 125), (.binI .add), [.t 124, .c (.i .i64 1)], none⟩,
   ⟨(some 23), .mv, [.t 125], none⟩] [7, 8, 9, 10, 11, 12, 22, 23])))

def l15_1 : DC :=
 (.loop [7, 8, 9, 10, 11, 12, 22, 23] b15_0)

def b15_2 : DC :=
 (.seq (.seq (.reg [⟨(some 39), .mv, [.t 12], none⟩,
   ⟨(some 40), (.binI .lss), [.t 39, .c (.i .i64 3)], none⟩] [7, 8, 9, 10, 11, 12, 40])
 (.cond (.t 40)
  .skip
  (.exit 0)))
 (.seq (.block 1
  (.seq (.reg [⟨(some 44), .mv, [.t 8], none⟩,
    ⟨(some 45), .mv, [.t 9], none⟩,
    ⟨(some 46), .mv, [.t 10], none⟩,
    ⟨(some 47), (.call (.pu [])), [.c (.fn 43 [] []), .t 44, .t 45, .t 46], none⟩,
    ⟨(some 43), .mv, [.t 47], none⟩,
    ⟨(some 48), (.ext 0), [.t 43], none⟩,
    ⟨(some 49), (.ext 1), [.t 43], none⟩,
    ⟨(some 13), .mv, [.t 48], none⟩,
    ⟨(some 14), .mv, [.t 49], none⟩] [7, 8, 9, 10, 11, 12, 13, 14])
  (.seq (.reg [⟨(some 51), .mv, [.t 8], none⟩,
    ⟨(some 52), .mv, [.t 9], none⟩,
    ⟨(some 53), .mv, [.t 10], none⟩,
    ⟨(some 54), .mv, [.t 11], none⟩,
    ⟨(some 55), (.call (.pu [])), [.c (.fn 45 [] []), .t 51, .t 52, .t 53, .t 54], none⟩,
    ⟨(some 50), .mv, [.t 55], none⟩,
    ⟨(some 56), (.ext 0), [.t 50], none⟩,
    ⟨(some 57), (.ext 1), [.t 50], none⟩,
    ⟨(some 15), .mv, [.t 56], none⟩,
    ⟨(some 16), .mv, [.t 57], none⟩] [7, 8, 9, 10, 11, 12, 13, 14, 15, 16])
  (.seq (.reg [⟨(some 58), .mv, [.t 7], none⟩,
    ⟨(some 59), .mv, [.t 9], none⟩,
    ⟨(some 60), .mv, [.t 10], none⟩,
    ⟨(some 61), (.call (.pu [])), [.c (.fn 44 [] []), .t 58, .t 59, .t 60], none⟩,
    ⟨(some 17), .mv, [.t 61], none⟩] [7, 8, 9, 10, 11, 12, 13, 14, 15, 16, 17])
  (.seq (.seq (.reg [⟨(some 62), .mv, [.t 14], none⟩,
    ⟨(some 63), (.binI .neq), [.t 62, .c (.i .i64 0)], none⟩,
    ⟨(some 64), .mv, [.t 63], none⟩,
    ⟨(some 65), .mv, [.t 13], (some (64, false))⟩,
    ⟨(some 66), .mv, [.t 17], (some (64, false))⟩,
    ⟨(some 67), (.eqB true), [.t 65, .t 66], (some (64, false))⟩,
    ⟨(some 68), .pick, [.t 64, .c (.b true), .t 67], none⟩] [7, 8, 9, 10, 11, 12, 15, 16, 17, 68])
  (.cond (.t 68)
   (.seq (.reg [⟨(some 6), .mv, [.c (.b false)], none⟩] [6])
   .ret)
   .skip))
  (.seq (.seq (.reg [⟨(some 69), .mv, [.t 17], none⟩,
    ⟨(some 70), .notB, [.t 69], none⟩,
    ⟨(some 71), .mv, [.t 70], none⟩,
    ⟨(some 72), .mv, [.t 7], (some (71, false))⟩,
    ⟨(some 73), .mv, [.t 11], (some (71, false))⟩,
    ⟨(some 74), (.call (.pu [])), [.c (.fn 48 [] []), .t 72, .t 73], (some (71, false))⟩,
    ⟨(some 75), .notB, [.t 74], (some (71, false))⟩,
    ⟨(some 76), .pick, [.t 71, .c (.b true), .t 75], none⟩] [7, 8, 9, 10, 11, 12, 15, 16, 76])
  (.cond (.t 76)
   (.seq (.reg [⟨(some 77), .mv, [.t 16], none⟩,
     ⟨(some 78), (.binI .neq), [.t 77, .c (.i .i64 1)], none⟩,
     ⟨(some 79), .mv, [.t 78], none⟩,
     ⟨(some 80), .mv, [.t 15], (some (79, false))⟩,
     ⟨(some 81), (.binI .neq), [.t 80, .c (.i .i64 0)], (some (79, false))⟩,
     ⟨(some 82), .pick, [.t 79, .c (.b true), .t 81], none⟩] [7, 8, 9, 10, 11, 12, 82])
   (.cond (.t 82)
    (.seq (.reg [⟨(some 6), .mv, [.c (.b false)], none⟩] [6])
    .ret)
    .skip))
   (.seq (.reg [⟨(some 83), .mv, [.t 16], none⟩,
     ⟨(some 84), (.binI .neq), [.t 83, .c (.i .i64 0)], none⟩,
     ⟨(some 85), .mv, [.t 84], none⟩,
     ⟨(some 86), .mv, [.t 15], (some (85, false))⟩,
     ⟨(some 87), .mv, [.t 7], (some (85, false))⟩,
     ⟨(some 88), .mv, [.t 9], (some (85, false))⟩,
     ⟨(some 89), .mv, [.t 10], (some (85, false))⟩,
     ⟨(some 90), .mv, [.t 11], (some (85, false))⟩,
     ⟨(some 91), (.call (.pu [])), [.c (.fn 49 [] []), .t 87, .t 88, .t 89, .t 90], (some (85, false))⟩,
     ⟨(some 92), (.binI .neq), [.t 86, .t 91], (some (85, false))⟩,
     ⟨(some 93), .pick, [.t 85, .c (.b true), .t 92], none⟩] [7, 8, 9, 10, 11, 12, 93])
   (.cond (.t 93)
    (.seq (.reg [⟨(some 6), .mv, [.c (.b false)], none⟩] [6])
    .ret)
    .skip))))
  (.seq (.seq (.reg [⟨(some 94), .mv, [.t 12], none⟩,
    ⟨(some 95), (.binI .eql), [.t 94, .c (.i .i64 0)], none⟩] [7, 8, 9, 10, 11, 12, 95])
  (.cond (.t 95)
   (.seq (.reg [⟨(some 97), .mv, [.t 8], none⟩,
     ⟨(some 98), (.call (.pu [])), [.c (.fn 35 [] []), .t 97], none⟩,
     ⟨(some 96), .mv, [.t 98], none⟩,
     ⟨(some 99), (.ext 0), [.t 96], none⟩,
     ⟨(some 100), (.ext 1), [.t 96], none⟩,
     ⟨(some 101), (.ext 2), [.t 96], none⟩,
     ⟨(some 102), (.ext 3), [.t 96], none⟩,
     ⟨(some 18), .mv, [.t 99], none⟩,
     ⟨(some 19), .mv, [.t 100], none⟩,
     ⟨(some 20), .mv, [.t 101], none⟩,
     ⟨(some 21), .mv, [.t 102], none⟩] [7, 8, 11, 12, 18, 19, 20, 21])
   (.seq (.seq (.reg [⟨(some 103), .mv, [.t 21], none⟩,
     ⟨(some 104), (.binI .neq), [.t 103, .c (.i .i64 0)], none⟩,
     ⟨(some 105), .mv, [.t 104], none⟩,
     ⟨(some 106), .mv, [.t 20], (some (105, false))⟩,
     ⟨(some 107), .mv, [.t 106], (some (105, false))⟩,
     ⟨(some 108), .mv, [.t 7], (some (107, true))⟩,
     ⟨(some 109), .mv, [.t 18], (some (107, true))⟩,
     ⟨(some 110), .mv, [.t 19], (some (107, true))⟩,
     ⟨(some 111), (.call (.pu [])), [.c (.fn 44 [] []), .t 108, .t 109, .t 110], (some (107, true))⟩,
     ⟨(some 112), .notB, [.t 111], (some (107, true))⟩,
     ⟨(some 113), .pick, [.t 107, .t 112, .c (.b false)], (some (105, false))⟩,
     ⟨(some 114), .pick, [.t 105, .c (.b true), .t 113], none⟩] [7, 8, 11, 12, 18, 19, 114])
   (.cond (.t 114)
    (.seq (.reg [⟨(some 6), .mv, [.c (.b false)], none⟩] [6])
    .ret)
    .skip))
   (.seq (.reg [⟨(some 115), .mv, [.t 18], none⟩,
     ⟨(some 9), .mv, [.t 115], none⟩] [7, 8, 9, 11, 12, 19])
   (.seq (.reg [⟨(some 116), .mv, [.t 19], none⟩,
     ⟨(some 10), .mv, [.t 116], none⟩] [7, 8, 9, 10, 11, 12])
   (.exit 1)))))
   .skip))
  (.seq (.reg [⟨(some 22), .mv, [.c .nilsl], none⟩] [7, 8, 9, 10, 11, 12, 22])
  (.seq (.seq (.reg [⟨(some 23), .mv, [.c (.i .i64 0)], none⟩] [7, 8, 9, 10, 11, 12, 22, 23])
  (.block 2
   l15_1))
  (.reg [⟨(some 141), .mv, [.t 22], none⟩,
    ⟨(some 11), .mv, [.t 141], none⟩] [7, 8, 9, 10, 11, 12]))))))))))
 (.reg [⟨(some 41), .mv, [.t 12], none⟩,
   ⟨(some 42), (.binI .add), [.t 41, .c (.i .i64 1)], none⟩,
   ⟨(some 12), .mv, [.t 42], none⟩] [7, 8, 9, 10, 11, 12])))

def l15_3 : DC :=
 (.loop [7, 8, 9, 10, 11, 12] b15_2)

def c15 : DC :=
 (.seq (.reg [⟨(some 5), (.box true), [.t 2], none⟩,
   ⟨(some 6), .mv, [.c (.b false)], none⟩] [0, 1, 5])
 (.seq (.reg [⟨(some 25), .mv, [.t 0], none⟩,
   ⟨(some 26), .mv, [.t 1], none⟩,
   ⟨(some 27), (.call (.pu [])), [.c (.fn 17 [] []), .t 25, .t 26, .c (.i .i64 5)], none⟩,
   ⟨(some 7), .mv, [.t 27], none⟩] [5, 7])
 (.seq (.reg [⟨(some 28), .mv, [.t 7], none⟩,
   ⟨(some 29), (.call (.pu [])), [.c (.fn 18 [] []), .t 28], none⟩,
   ⟨(some 8), .mv, [.t 29], none⟩] [5, 7, 8])
 (.seq (.reg [⟨(some 30), (.fadr 0 1 false), [.t 5], none⟩,
   ⟨(some 31), (.ld 1 false), [.t 30], none⟩,
   ⟨(some 32), (.call (.pu [])), [.c (.fn 47 [] []), .t 31, .c (.i .i64 8)], none⟩,
   ⟨(some 33), (.fadr 1 1 false), [.t 5], none⟩,
   ⟨(some 34), (.ld 1 false), [.t 33], none⟩,
   ⟨(some 35), (.call (.pu [])), [.c (.fn 47 [] []), .t 34, .c (.i .i64 8)], none⟩,
   ⟨(some 36), (.fadr 2 1 false), [.t 5], none⟩,
   ⟨(some 37), (.ld 1 false), [.t 36], none⟩,
   ⟨(some 38), (.call (.pu [])), [.c (.fn 29 [] []), .t 37, .c (.i .i64 4)], none⟩,
   ⟨(some 9), .mv, [.t 32], none⟩,
   ⟨(some 10), .mv, [.t 35], none⟩,
   ⟨(some 11), .mv, [.t 38], none⟩] [7, 8, 9, 10, 11])
 (.seq (.seq (.reg [⟨(some 12), .mv, [.c (.i .i64 0)], none⟩] [7, 8, 9, 10, 11, 12])
 (.block 0
  l15_3))
 (.seq (.reg [⟨(some 142), (.call (.pu [])), [.c (.fn 24 [] [])], none⟩,
   ⟨(some 6), .mv, [.t 142], none⟩] [6])
 .ret))))))

def d15 : DFun := ⟨3, 143, c15, [.t 6]⟩

theorem ok15 : Fok Tryd.prog 15 d15 := ⟨Tryd.f15, Tryd.func15, by kernel_rfl, by kernel_rfl⟩

-- bibelot/bibelotlaw09.PriceChecks
def c16 : DC :=
 (.seq (.reg [⟨(some 2), .mv, [.c (.b false)], none⟩] [0])
 (.seq (.reg [⟨(some 38), .mv, [.t 0], none⟩,
   ⟨(some 39), (.call (.pu [])), [.c (.fn 50 [] []), .t 38], none⟩,
   ⟨(some 3), .mv, [.t 39], none⟩] [3])
 (.seq (.reg [⟨(some 40), .mv, [.t 3], none⟩,
   ⟨(some 41), (.call (.pu [])), [.c (.fn 18 [] []), .t 40], none⟩,
   ⟨(some 4), .mv, [.t 41], none⟩] [3, 4])
 (.seq (.reg [⟨(some 42), .mv, [.t 3], none⟩,
   ⟨(some 43), (.call (.pu [])), [.c (.fn 51 [] []), .t 42], none⟩,
   ⟨(some 5), .mv, [.t 43], none⟩] [4, 5])
 (.seq (.seq (.reg [⟨(some 44), .mv, [.t 4], none⟩,
   ⟨(some 45), (.call (.pu [])), [.c (.fn 52 [] []), .t 44], none⟩,
   ⟨(some 46), (.binI .eql), [.t 45, .c (.i .i64 0)], none⟩,
   ⟨(some 47), .mv, [.t 5], none⟩,
   ⟨(some 48), (.eqB true), [.t 46, .t 47], none⟩] [4, 5, 48])
 (.cond (.t 48)
  (.seq (.reg [⟨(some 2), .mv, [.c (.b false)], none⟩] [2])
  .ret)
  .skip))
 (.seq (.seq (.reg [⟨(some 49), .mv, [.t 5], none⟩] [4, 49])
 (.cond (.t 49)
  (.seq (.reg [⟨(some 50), (.call (.pu [])), [.c (.fn 24 [] [])], none⟩,
    ⟨(some 2), .mv, [.t 50], none⟩] [2])
  .ret)
  .skip))
 (.seq (.reg [⟨(some 52), .mv, [.t 4], none⟩,
   ⟨(some 53), (.call (.pu [])), [.c (.fn 34 [] []), .t 52], none⟩,
   ⟨(some 51), .mv, [.t 53], none⟩,
   ⟨(some 54), (.ext 0), [.t 51], none⟩,
   ⟨(some 55), (.ext 1), [.t 51], none⟩,
   ⟨(some 6), .mv, [.t 54], none⟩,
   ⟨(some 7), .mv, [.t 55], none⟩] [4, 6, 7])
 (.seq (.reg [⟨(some 57), .mv, [.t 4], none⟩,
   ⟨(some 58), (.call (.pu [])), [.c (.fn 38 [] []), .t 57], none⟩,
   ⟨(some 56), .mv, [.t 58], none⟩,
   ⟨(some 59), (.ext 0), [.t 56], none⟩,
   ⟨(some 60), (.ext 1), [.t 56], none⟩,
   ⟨(some 8), .mv, [.t 59], none⟩,
   ⟨(some 9), .mv, [.t 60], none⟩] [4, 6, 7, 8, 9])
 (.seq (.reg [⟨(some 62), .mv, [.t 4], none⟩,
   ⟨(some 63), (.call (.pu [])), [.c (.fn 25 [] []), .t 62], none⟩,
   ⟨(some 61), .mv, [.t 63], none⟩,
   ⟨(some 64), (.ext 0), [.t 61], none⟩,
   ⟨(some 65), (.ext 1), [.t 61], none⟩,
   ⟨(some 66), (.ext 2), [.t 61], none⟩,
   ⟨(some 10), .mv, [.t 64], none⟩,
   ⟨(some 11), .mv, [.t 65], none⟩,
   ⟨(some 12), .mv, [.t 66], none⟩] [4, 6, 7, 8, 9, 10, 11, 12])
 (.seq (.reg [⟨(some 68), .mv, [.t 4], none⟩,
   ⟨(some 69), (.bsl false [(.i .i64 0)] false 2 [0, 1]), [.c (.i .i64 0), .c (.i .i64 1)], none⟩,
   ⟨(some 70), (.call (.pu [])), [.c (.fn 30 [] []), .t 68, .t 69], none⟩,
   ⟨(some 67), .mv, [.t 70], none⟩,
   ⟨(some 71), (.ext 0), [.t 67], none⟩,
   ⟨(some 72), (.ext 1), [.t 67], none⟩,
   ⟨(some 13), .mv, [.t 71], none⟩,
   ⟨(some 14), .mv, [.t 72], none⟩] [4, 6, 7, 8, 9, 10, 11, 12, 13, 14])
 (.seq (.reg [⟨(some 74), .mv, [.t 4], none⟩,
   ⟨(some 75), (.call (.pu [])), [.c (.fn 35 [] []), .t 74], none⟩,
   ⟨(some 73), .mv, [.t 75], none⟩,
   ⟨(some 76), (.ext 0), [.t 73], none⟩,
   ⟨(some 77), (.ext 1), [.t 73], none⟩,
   ⟨(some 78), (.ext 2), [.t 73], none⟩,
   ⟨(some 79), (.ext 3), [.t 73], none⟩,
   ⟨(some 15), .mv, [.t 76], none⟩,
   ⟨(some 16), .mv, [.t 77], none⟩,
   ⟨(some 17), .mv, [.t 78], none⟩,
   ⟨(some 18), .mv, [.t 79], none⟩] [4, 6, 7, 8, 9, 10, 11, 12, 13, 14, 15, 16, 17, 18])
 (.seq (.reg [⟨(some 81), .mv, [.t 4], none⟩,
   ⟨(some 82), (.call (.pu [])), [.c (.fn 43 [] []), .t 81, .c .nilsl, .c .nilsl], none⟩,
   ⟨(some 80), .mv, [.t 82], none⟩,
   ⟨(some 83), (.ext 0), [.t 80], none⟩,
   ⟨(some 84), (.ext 1), [.t 80], none⟩,
   ⟨(some 19), .mv, [.t 83], none⟩,
   ⟨(some 20), .mv, [.t 84], none⟩] [4, 6, 7, 8, 9, 10, 11, 12, 13, 14, 15, 16, 17, 18, 19, 20])
 (.seq (.reg [⟨(some 86), .mv, [.t 4], none⟩,
   ⟨(some 87), (.call (.pu [])), [.c (.fn 45 [] []), .t 86, .c .nilsl, .c .nilsl, .c .nilsl], none⟩,
   ⟨(some 85), .mv, [.t 87], none⟩,
   ⟨(some 88), (.ext 0), [.t 85], none⟩,
   ⟨(some 89), (.ext 1), [.t 85], none⟩,
   ⟨(some 21), .mv, [.t 88], none⟩,
   ⟨(some 22), .mv, [.t 89], none⟩] [4, 6, 7, 8, 9, 10, 11, 12, 13, 14, 15, 16, 17, 18, 19, 20, 21, 22])
 (.seq (.reg [⟨(some 91), .mv, [.t 4], none⟩,
   ⟨(some 92), (.bsl false [(.i .i64 0)] false 2 [0, 1]), [.c (.i .i64 0), .c (.i .i64 1)], none⟩,
   ⟨(some 93), (.call (.pu [])), [.c (.fn 31 [] []), .t 91, .t 92], none⟩,
   ⟨(some 90), .mv, [.t 93], none⟩,
   ⟨(some 94), (.ext 0), [.t 90], none⟩,
   ⟨(some 95), (.ext 1), [.t 90], none⟩,
   ⟨(some 23), .mv, [.t 94], none⟩,
   ⟨(some 24), .mv, [.t 95], none⟩] [4, 6, 7, 8, 9, 10, 11, 12, 13, 14, 15, 16, 17, 18, 19, 20, 21, 22, 23, 24])
 (.seq (.reg [⟨(some 97), .mv, [.t 4], none⟩,
   ⟨(some 98), (.call (.pu [])), [.c (.fn 33 [] []), .t 97, .c (.i .i64 1), .c (.i .i64 2)], none⟩,
   ⟨(some 96), .mv, [.t 98], none⟩,
   ⟨(some 99), (.ext 0), [.t 96], none⟩,
   ⟨(some 100), (.ext 1), [.t 96], none⟩,
   ⟨(some 101), (.ext 2), [.t 96], none⟩,
   ⟨(some 25), .mv, [.t 99], none⟩,
   ⟨(some 26), .mv, [.t 100], none⟩,
   ⟨(some 27), .mv, [.t 101], none⟩] [4, 6, 7, 8, 9, 10, 11, 12, 13, 14, 15, 16, 17, 18, 19, 20, 21, 22, 23, 24, 25, 26, 27])
 (.seq (.reg [⟨(some 103), .mv, [.t 4], none⟩,
   ⟨(some 104), (.call (.pu [])), [.c (.fn 19 [] []), .t 103], none⟩,
   ⟨(some 102), .mv, [.t 104], none⟩,
   ⟨(some 105), (.ext 0), [.t 102], none⟩,
   ⟨(some 106), (.ext 1), [.t 102], none⟩,
   ⟨(some 107), (.ext 2), [.t 102], none⟩,
   ⟨(some 28), .mv, [.t 105], none⟩,
   ⟨(some 29), .mv, [.t 106], none⟩,
   ⟨(some 30), .mv, [.t 107], none⟩] [4, 6, 7, 8, 9, 10, 11, 12, 13, 14, 15, 16, 17, 18, 19, 20, 21, 22, 23, 24, 25, 26, 27, 28, 29, 30])
 (.seq (.reg [⟨(some 109), .mv, [.t 4], none⟩,
   ⟨(some 110), (.call (.pu [])), [.c (.fn 20 [] []), .t 109], none⟩,
   ⟨(some 108), .mv, [.t 110], none⟩,
   ⟨(some 111), (.ext 0), [.t 108], none⟩,
   ⟨(some 112), (.ext 1), [.t 108], none⟩,
   ⟨(some 31), .mv, [.t 111], none⟩,
   ⟨(some 32), .mv, [.t 112], none⟩] [4, 6, 7, 8, 9, 10, 11, 12, 13, 14, 15, 16, 17, 18, 19, 20, 21, 22, 23, 24, 25, 26, 27, 28, 29, 30, 31, 32])
 (.seq (.reg [⟨(some 114), .mv, [.t 4], none⟩,
   ⟨(some 115), (.call (.pu [])), [.c (.fn 39 [] []), .t 114, .c (.i .i64 0), .c (.i .i64 0)], none⟩,
   ⟨(some 113), .mv, [.t 115], none⟩,
   ⟨(some 116), (.ext 0), [.t 113], none⟩,
   ⟨(some 117), (.ext 1), [.t 113], none⟩,
   ⟨(some 33), (.alloc [(.i .i64 0), (.i .i64 0), (.i .i64 0), (.i .i64 0)] true), [], none⟩,
   ⟨none, (.st 4), [.t 33, .t 116], none⟩,
   ⟨(some 34), .mv, [.t 117], none⟩] [4, 6, 7, 8, 9, 10, 11, 12, 13, 14, 15, 16, 17, 18, 19, 20, 21, 22, 23, 24, 25, 26, 27, 28, 29, 30, 31, 32, 33, 34])
 (.seq (.reg [⟨(some 119), .mv, [.t 4], none⟩,
   ⟨(some 120), (.call (.pu [])), [.c (.fn 40 [] []), .t 119, .c (.i .i64 0), .c (.i .i64 0)], none⟩,
   ⟨(some 118), .mv, [.t 120], none⟩,
   ⟨(some 121), (.ext 0), [.t 118], none⟩,
   ⟨(some 122), (.ext 1), [.t 118], none⟩,
   ⟨(some 35), .mv, [.t 121], none⟩,
   ⟨(some 36), .mv, [.t 122], none⟩] [4, 6, 7, 8, 9, 10, 11, 12, 13, 14, 15, 16, 17, 18, 19, 20, 21, 22, 23, 24, 25, 26, 27, 28, 29, 30, 31, 32, 33, 34, 35, 36])
 (.seq (.reg [⟨(some 37), .mv, [.c (.i .i64 90)], none⟩] [4, 6, 7, 8, 9, 10, 11, 12, 13, 14, 15, 16, 17, 18, 19, 20, 21, 22, 23, 24, 25, 26, 27, 28, 29, 30, 31, 32, 33, 34, 35, 36, 37])
 (.seq (.reg [⟨(some 123), .mv, [.t 4], none⟩,
   ⟨(some 124), (.call (.pu [])), [.c (.fn 52 [] []), .t 123], none⟩,
   ⟨(some 125), .mv, [.t 37], none⟩,
   ⟨(some 126), (.binI .eql), [.t 124, .t 125], none⟩,
   ⟨(some 127), .mv, [.t 126], none⟩,
   ⟨(some 128), .mv, [.t 7], (some (127, true))⟩,
   ⟨(some 129), .mv, [.t 37], (some (127, true))⟩,
   ⟨(some 130), (.binI .eql), [.t 128, .t 129], (some (127, true))⟩,
   ⟨(some 131), .pick, [.t 127, .t 130, .c (.b false)], none⟩,
   ⟨(some 132), .mv, [.t 131], none⟩,
   ⟨(some 133), .mv, [.t 9], (some (132, true))⟩,
   ⟨(some 134), .mv, [.t 37], (some (132, true))⟩,
   ⟨(some 135), (.binI .eql), [.t 133, .t 134], (some (132, true))⟩,
   ⟨(some 136), .pick, [.t 132, .t 135, .c (.b false)], none⟩,
   ⟨(some 137), .mv, [.t 136], none⟩,
   ⟨(some 138), .mv, [.t 12], (some (137, true))⟩,
   ⟨(some 139), .mv, [.t 37], (some (137, true))⟩,
   ⟨(some 140), (.binI .eql), [.t 138, .t 139], (some (137, true))⟩,
   ⟨(some 141), .pick, [.t 137, .t 140, .c (.b false)], none⟩,
   ⟨(some 142), .mv, [.t 141], none⟩,
   ⟨(some 143), .mv, [.t 14], (some (142, true))⟩,
   ⟨(some 144), .mv, [.t 37], (some (142, true))⟩,
   ⟨(some 145), (.binI .eql), [.t 143, .t 144], (some (142, true))⟩,
   ⟨(some 146), .pick, [.t 142, .t 145, .c (.b false)], none⟩,
   ⟨(some 147), .mv, [.t 146], none⟩,
   ⟨(some 148), .mv, [.t 18], (some (147, true))⟩,
   ⟨(some 149), .mv, [.t 37], (some (147, true))⟩,
   ⟨(some 150), (.binI .eql), [.t 148, .t 149], (some (147, true))⟩,
   ⟨(some 151), .pick, [.t 147, .t 150, .c (.b false)], none⟩,
   ⟨(some 152), .mv, [.t 151], none⟩,
   ⟨(some 153), .mv, [.t 20], (some (152, true))⟩,
   ⟨(some 154), .mv, [.t 37], (some (152, true))⟩,
   ⟨(some 155), (.binI .eql), [.t 153, .t 154], (some (152, true))⟩,
   ⟨(some 156), .pick, [.t 152, .t 155, .c (.b false)], none⟩,
   ⟨(some 157), .mv, [.t 156], none⟩,
   ⟨(some 158), .mv, [.t 22], (some (157, true))⟩,
   ⟨(some 159), .mv, [.t 37], (some (157, true))⟩,
   ⟨(some 160), (.binI .eql), [.t 158, .t 159], (some (157, true))⟩,
   ⟨(some 161), .pick, [.t 157, .t 160, .c (.b false)], none⟩,
   ⟨(some 162), .mv, [.t 161], none⟩,
   ⟨(some 163), .mv, [.t 24], (some (162, true))⟩,
   ⟨(some 164), .mv, [.t 37], (some (162, true))⟩,
   ⟨(some 165), (.binI .eql), [.t 163, .t 164], (some (162, true))⟩,
   ⟨(some 166), .pick, [.t 162, .t 165, .c (.b false)], none⟩,
   ⟨(some 167), .mv, [.t 166], none⟩,
   ⟨(some 168), .mv, [.t 27], (some (167, true))⟩,
   ⟨(some 169), .mv, [.t 37], (some (167, true))⟩,
   ⟨(some 170), (.binI .eql), [.t 168, .t 169], (some (167, true))⟩,
   ⟨(some 171), .pick, [.t 167, .t 170, .c (.b false)], none⟩,
   ⟨(some 172), .mv, [.t 171], none⟩,
   ⟨(some 173), .mv, [.t 30], (some (172, true))⟩,
   ⟨(some 174), .mv, [.t 37], (some (172, true))⟩,
   ⟨(some 175), (.binI .eql), [.t 173, .t 174], (some (172, true))⟩,
   ⟨(some 176), .pick, [.t 172, .t 175, .c (.b false)], none⟩,
   ⟨(some 177), .mv, [.t 176], none⟩,
   ⟨(some 178), .mv, [.t 32], (some (177, true))⟩,
   ⟨(some 179), .mv, [.t 37], (some (177, true))⟩,
   ⟨(some 180), (.binI .eql), [.t 178, .t 179], (some (177, true))⟩,
   ⟨(some 181), .pick, [.t 177, .t 180, .c (.b false)], none⟩,
   ⟨(some 182), .mv, [.t 181], none⟩,
   ⟨(some 183), .mv, [.t 34], (some (182, true))⟩,
   ⟨(some 184), .mv, [.t 37], (some (182, true))⟩,
   ⟨(some 185), (.binI .eql), [.t 183, .t 184], (some (182, true))⟩,
   ⟨(some 186), .pick, [.t 182, .t 185, .c (.b false)], none⟩,
   ⟨(some 187), .mv, [.t 186], none⟩,
   ⟨(some 188), .mv, [.t 36], (some (187, true))⟩,
   ⟨(some 189), .mv, [.t 37], (some (187, true))⟩,
   ⟨(some 190), (.binI .eql), [.t 188, .t 189], (some (187, true))⟩,
   ⟨(some 191), .pick, [.t 187, .t 190, .c (.b false)], none⟩,
   ⟨(some 192), .mv, [.t 191], none⟩,
   ⟨(some 193), .mv, [.t 11], (some (192, true))⟩,
   ⟨(some 194), .notB, [.t 193], (some (192, true))⟩,
   ⟨(some 195), .pick, [.t 192, .t 194, .c (.b false)], none⟩,
   ⟨(some 196), .mv, [.t 195], none⟩,
   ⟨(some 197), .mv, [.t 13], (some (196, true))⟩,
   ⟨(some 198), .notB, [.t 197], (some (196, true))⟩,
   ⟨(some 199), .pick, [.t 196, .t 198, .c (.b false)], none⟩,
   ⟨(some 200), .mv, [.t 199], none⟩,
   ⟨(some 201), .mv, [.t 17], (some (200, true))⟩,
   ⟨(some 202), .notB, [.t 201], (some (200, true))⟩,
   ⟨(some 203), .pick, [.t 200, .t 202, .c (.b false)], none⟩,
   ⟨(some 204), .mv, [.t 203], none⟩,
   ⟨(some 205), .mv, [.t 19], (some (204, true))⟩,
   ⟨(some 206), .notB, [.t 205], (some (204, true))⟩,
   ⟨(some 207), .pick, [.t 204, .t 206, .c (.b false)], none⟩,
   ⟨(some 208), .mv, [.t 207], none⟩,
   ⟨(some 209), .mv, [.t 26], (some (208, true))⟩,
   ⟨(some 210), .notB, [.t 209], (some (208, true))⟩,
   ⟨(some 211), .pick, [.t 208, .t 210, .c (.b false)], none⟩,
   ⟨(some 212), .mv, [.t 211], none⟩,
   ⟨(some 213), .mv, [.t 21], (some (212, true))⟩,
   ⟨(some 214), (.binI .eql), [.t 213, .c (.i .i64 0)], (some (212, true))⟩,
   ⟨(some 215), .pick, [.t 212, .t 214, .c (.b false)], none⟩,
   ⟨(some 216), .mv, [.t 215], none⟩,
   ⟨(some 217), .mv, [.t 23], (some (216, true))⟩,
   ⟨(some 218), .mv, [.t 28], (some (216, true))⟩,
   ⟨(some 219), (.binI .add), [.t 217, .t 218], (some (216, true))⟩,
   ⟨(some 220), .mv, [.t 29], (some (216, true))⟩,
   ⟨(some 221), (.binI .add), [.t 219, .t 220], (some (216, true))⟩,
   ⟨(some 222), .mv, [.t 35], (some (216, true))⟩,
   ⟨(some 223), (.binI .add), [.t 221, .t 222], (some (216, true))⟩,
   ⟨(some 224), (.binI .eql), [.t 223, .c (.i .i64 0)], (some (216, true))⟩,
   ⟨(some 225), .pick, [.t 216, .t 224, .c (.b false)], none⟩,
   ⟨(some 226), .mv, [.t 225], none⟩,
   ⟨(some 227), (.ld 4 true), [.t 33], (some (226, true))⟩,
   ⟨(some 228), (.build [(.i .i64 0), (.i .i64 0), (.i .i64 0), (.i .i64 0)] []), [], (some (226, true))⟩,
   ⟨(some 229), (.eqA false [true, true, true, true]), [.t 227, .t 228], (some (226, true))⟩,
   ⟨(some 230), .pick, [.t 226, .t 229, .c (.b false)], none⟩,
   ⟨(some 231), .mv, [.t 230], none⟩,
   ⟨(some 232), .mv, [.t 6], (some (231, true))⟩,
   ⟨(some 233), (.len 0), [.t 232], (some (231, true))⟩,
   ⟨(some 234), .mv, [.t 8], (some (231, true))⟩,
   ⟨(some 235), (.len 0), [.t 234], (some (231, true))⟩,
   ⟨(some 236), (.binI .add), [.t 233, .t 235], (some (231, true))⟩,
   ⟨(some 237), .mv, [.t 10], (some (231, true))⟩,
   ⟨(some 238), (.len 0), [.t 237], (some (231, true))⟩,
   ⟨(some 239), (.binI .add), [.t 236, .t 238], (some (231, true))⟩,
   ⟨(some 240), .mv, [.t 15], (some (231, true))⟩,
   ⟨(some 241), (.len 0), [.t 240], (some (231, true))⟩,
   ⟨(some 242), (.binI .add), [.t 239, .t 241], (some (231, true))⟩,
   ⟨(some 243), .mv, [.t 16], (some (231, true))⟩,
   ⟨(some 244), (.len 0), [.t 243], (some (231, true))⟩,
   ⟨(some 245), (.binI .add), [.t 242, .t 244], (some (231, true))⟩,
   ⟨(some 246), .mv, [.t 25], (some (231, true))⟩,
   ⟨(some 247), (.len 0), [.t 246], (some (231, true))⟩,
   ⟨(some 248), (.binI .add), [.t 245, .t 247], (some (231, true))⟩,
   ⟨(some 249), .mv, [.t 31], (some (231, true))⟩,
   ⟨(some 250), (.len 0), [.t 249], (some (231, true))⟩,
   ⟨(some 251), (.binI .add), [.t 248, .t 250], (some (231, true))⟩,
   ⟨(some 252), (.binI .eql), [.t 251, .c (.i .i64 0)], (some (231, true))⟩,
   ⟨(some 253), .pick, [.t 231, .t 252, .c (.b false)], none⟩,
   ⟨(some 254), .mv, [.t 253], none⟩,
   ⟨(some 255), (.call (.pu [])), [.c (.fn 24 [] [])], (some (254, true))⟩,
   ⟨(some 256), .pick, [.t 254, .t 255, .c (.b false)], none⟩,
   ⟨(some 2), .mv, [.t 256], none⟩] [2])
 .ret)))))))))))))))))))))

def d16 : DFun := ⟨1, 257, c16, [.t 2]⟩

theorem ok16 : Fok Tryd.prog 16 d16 := ⟨Tryd.f16, Tryd.func16, by kernel_rfl, by kernel_rfl⟩

-- bibelot/bibelotlaw09.tame
def q17_1 : DC :=
 (.seq (.reg [⟨(some 39), .mv, [.t 8], none⟩,
    ⟨(some 40), .mv, [.t 0], none⟩,
    ⟨(some 41), (.len 0), [.t 40], none⟩,
    ⟨(some 42), (.binI .lss), [.t 39, .t 41], none⟩,
    ⟨(some 43), .mv, [.t 42], none⟩,
    ⟨(some 44), .mv, [.t 11], (some (43, true))⟩,
    ⟨(some 45), .mv, [.t 0], (some (43, true))⟩,
    ⟨(some 46), .mv, [.t 8], (some (43, true))⟩,
    ⟨(some 47), (.ixS 2 true), [.t 45, .t 46], (some (43, true))⟩,
    ⟨(some 48), (.fadr 0 1 false), [.t 47], (some (43, true))⟩,
    ⟨(some 49), (.ld 1 false), [.t 48], (some (43, true))⟩,
    ⟨(some 50), (.len 0), [.t 49], (some (43, true))⟩,
    ⟨(some 51), (.binI .lss), [.t 44, .t 50], (some (43, true))⟩,
    ⟨(some 52), .pick, [.t 43, .t 51, .c (.b false)], none⟩] [0, 1, 2, 7, 8, 9, 10, 11, 12, 13, 52])
  (.cond (.t 52)
   (.reg [⟨(some 53), .mv, [.t 0], none⟩,
     ⟨(some 54), .mv, [.t 8], none⟩,
     ⟨(some 55), (.ixS 2 true), [.t 53, .t 54], none⟩,
     ⟨(some 56), (.fadr 0 1 false), [.t 55], none⟩,
     ⟨(some 57), (.ld 1 false), [.t 56], none⟩,
     ⟨(some 58), .mv, [.t 11], none⟩,
     ⟨(some 59), (.ixS 1 false), [.t 57, .t 58], none⟩,
     ⟨(some 60), (.ld 1 false), [.t 59], none⟩,
     ⟨(some 61), (.conv .u64), [.t 60], none⟩,
     ⟨(some 62), (.binI .rem), [.t 61, .c (.i .u64 20)], none⟩,
     ⟨(some 63), (.conv .i64), [.t 62], none⟩,
     ⟨(some 64), (.binI .add), [.c (.i .i64 1), .t 63], none⟩,
     ⟨(some 12), .mv, [.t 64], none⟩] [0, 1, 2, 7, 8, 9, 10, 11, 12, 13])
   .skip))
def q17_2 : DC :=
 (.seq (.reg [⟨(some 65), .mv, [.t 8], none⟩,
    ⟨(some 66), .mv, [.t 0], none⟩,
    ⟨(some 67), (.len 0), [.t 66], none⟩,
    ⟨(some 68), (.binI .lss), [.t 65, .t 67], none⟩,
    ⟨(some 69), .mv, [.t 68], none⟩,
    ⟨(some 70), .mv, [.t 11], (some (69, true))⟩,
    ⟨(some 71), .mv, [.t 0], (some (69, true))⟩,
    ⟨(some 72), .mv, [.t 8], (some (69, true))⟩,
    ⟨(some 73), (.ixS 2 true), [.t 71, .t 72], (some (69, true))⟩,
    ⟨(some 74), (.fadr 1 1 false), [.t 73], (some (69, true))⟩,
    ⟨(some 75), (.ld 1 false), [.t 74], (some (69, true))⟩,
    ⟨(some 76), (.len 0), [.t 75], (some (69, true))⟩,
    ⟨(some 77), (.binI .lss), [.t 70, .t 76], (some (69, true))⟩,
    ⟨(some 78), .pick, [.t 69, .t 77, .c (.b false)], none⟩] [0, 1, 2, 7, 8, 9, 10, 11, 12, 13, 78])
  (.cond (.t 78)
   (.reg [⟨(some 79), .mv, [.t 0], none⟩,
     ⟨(some 80), .mv, [.t 8], none⟩,
     ⟨(some 81), (.ixS 2 true), [.t 79, .t 80], none⟩,
     ⟨(some 82), (.fadr 1 1 false), [.t 81], none⟩,
     ⟨(some 83), (.ld 1 false), [.t 82], none⟩,
     ⟨(some 84), .mv, [.t 11], none⟩,
     ⟨(some 85), (.ixS 1 false), [.t 83, .t 84], none⟩,
     ⟨(some 86), (.ld 1 false), [.t 85], none⟩,
     ⟨(some 87), (.conv .u64), [.t 86], none⟩,
     ⟨(some 88), (.binI .rem), [.t 87, .c (.i .u64 21)], none⟩,
     ⟨(some 89), (.conv .i64), [.t 88], none⟩,
     ⟨(some 13), .mv, [.t 89], none⟩] [0, 1, 2, 7, 8, 9, 10, 11, 12, 13])
   .skip))
def q17_3 : DC :=
 (.seq (.reg [⟨(some 93), .mv, [.t 11], none⟩,
    ⟨(some 94), .mv, [.t 1], none⟩,
    ⟨(some 95), (.binI .sub), [.t 94, .c (.i .i64 1)], none⟩,
    ⟨(some 96), (.binI .eql), [.t 93, .t 95], none⟩,
    ⟨(some 97), .mv, [.t 96], none⟩,
    ⟨(some 98), .mv, [.t 10], (some (97, true))⟩,
    ⟨(some 99), (.binI .eql), [.t 98, .c (.i .i64 0)], (some (97, true))⟩,
    ⟨(some 100), .pick, [.t 97, .t 99, .c (.b false)], none⟩] [0, 1, 2, 7, 8, 9, 10, 11, 12, 13, 100])
  (.cond (.t 100)
   (.reg [⟨(some 13), .mv, [.c (.i .i64 1)], none⟩] [0, 1, 2, 7, 8, 9, 10, 11, 12, 13])
   .skip))
def b17_0 : DC :=
 (.seq (.seq (.reg [⟨(some 34), .mv, [.t 11], none⟩,
   ⟨(some 35), .mv, [.t 1], none⟩,
   ⟨(some 36), (.binI .lss), [.t 34, .t 35], none⟩] [0, 1, 2, 7, 8, 9, 10, 11, 36])
 (.cond (.t 36)
  .skip
  (.exit 2)))
 (.seq (.block 3
  (.seq (.reg [⟨(some 12), .mv, [.c (.i .i64 1)], none⟩,
    ⟨(some 13), .mv, [.c (.i .i64 0)], none⟩] [0, 1, 2, 7, 8, 9, 10, 11, 12, 13])
  (.seq q17_1
  (.seq q17_2
  (.seq (.reg [⟨(some 90), .mv, [.t 10], none⟩,
    ⟨(some 91), .mv, [.t 13], none⟩,
    ⟨(some 92), (.binI .add), [.t 90, .t 91], none⟩,
    ⟨(some 10), .mv, [.t 92], none⟩] [0, 1, 2, 7, 8, 9, 10, 11, 12, 13])
  (.seq q17_3
  (.seq (.reg [⟨(some 101), (.fadr 0 1 false), [.t 9], none⟩,
    ⟨(some 102), (.ld 1 false), [.t 101], none⟩,
    ⟨(some 103), (.fadr 1 1 false), [.t 9], none⟩,
    ⟨(some 104), (.ld 1 false), [.t 103], none⟩,
    ⟨(some 14), .mv, [.t 102], none⟩,
    ⟨(some 15), .mv, [.t 104], none⟩] [0, 1, 2, 7, 8, 9, 10, 11, 12, 13, 14, 15])
  (.seq (.reg [⟨(some 105), .mv, [.t 14], none⟩,
    ⟨(some 106), .mv, [.t 12], none⟩,
    ⟨(some 107), (.bsl false [(.i .i64 0)] false 1 [0]), [.t 106], none⟩,
    ⟨(some 108), (.app 1 false 8), [.t 105, .t 107], none⟩,
    ⟨(some 109), (.fadr 0 1 false), [.t 9], none⟩,
    ⟨none, (.st 1), [.t 109, .t 108], none⟩] [0, 1, 2, 7, 8, 9, 10, 11, 13, 15])
  (.reg [⟨(some 110), .mv, [.t 15], none⟩,
    ⟨(some 111), .mv, [.t 13], none⟩,
    ⟨(some 112), (.bsl false [(.i .i64 0)] false 1 [0]), [.t 111], none⟩,
    ⟨(some 113), (.app 1 false 8), [.t 110, .t 112], none⟩,
    ⟨(some 114), (.fadr 1 1 false), [.t 9], none⟩,
    ⟨none, (.st 1), [.t 114, .t 113], none⟩] [0, 1, 2, 7, 8, 9, 10, 11])))))))))
 (.reg [⟨(some 37), .mv, [.t 11], none⟩,
   ⟨(some 38), (.binI .add), [.t 37, .c (.i .i64 1)], none⟩,
   ⟨(some 11), .mv, [.t 38], none⟩] [0, 1, 2, 7, 8, 9, 10, 11])))

def l17_1 : DC :=
 (.loop [0, 1, 2, 7, 8, 9, 10, 11] b17_0)

def b17_2 : DC :=
 (.seq (.seq (.reg [⟨(some 21), .mv, [.t 8], none⟩,
   ⟨(some 22), .mv, [.t 0], none⟩,
   ⟨(some 23), (.len 0), [.t 22], none⟩,
   ⟨(some 24), .mxI, [.c (.i .i64 1), .t 23], none⟩,
   ⟨(some 25), (.binI .lss), [.t 21, .t 24], none⟩,
   ⟨(some 26), .mv, [.t 25], none⟩,
   ⟨(some 27), .mv, [.t 8], (some (26, true))⟩,
   ⟨(some 28), .mv, [.t 2], (some (26, true))⟩,
   ⟨(some 29), (.binI .lss), [.t 27, .t 28], (some (26, true))⟩,
   ⟨(some 30), .pick, [.t 26, .t 29, .c (.b false)], none⟩] [0, 1, 2, 7, 8, 30])
 (.cond (.t 30)
  .skip
  (.exit 0)))
 (.seq (.block 1
  (.seq (.reg [⟨(some 33), (.build [.nilsl, .nilsl] []), [], none⟩,
    ⟨(some 9), (.alloc [.nilsl, .nilsl] true), [], none⟩,
    ⟨none, (.st 2), [.t 9, .t 33], none⟩] [0, 1, 2, 7, 8, 9])
  (.seq (.reg [⟨(some 10), .mv, [.c (.i .i64 0)], none⟩] [0, 1, 2, 7, 8, 9, 10])
  (.seq (.seq (.reg [⟨(some 11), .mv, [.c (.i .i64 0)], none⟩] [0, 1, 2, 7, 8, 9, 10, 11])
  (.block 2
   l17_1))
  (.reg [⟨(some 115), .mv, [.t 7], none⟩,
    ⟨(some 116), (.ld 2 true), [.t 9], none⟩,
    ⟨(some 117), (.bsl false [.nilsl, .nilsl] true 1 [0]), [.t 116], none⟩,
    ⟨(some 118), (.app 2 true 48), [.t 115, .t 117], none⟩,
    ⟨(some 7), .mv, [.t 118], none⟩] [0, 1, 2, 7, 8])))))
 (.reg [⟨(some 31), .mv, [.t 8], none⟩,
   ⟨(some 32), (.binI .add), [.t 31, .c (.i .i64 1)], none⟩,
   ⟨(some 8), .mv, [.t 32], none⟩] [0, 1, 2, 7, 8])))

def l17_3 : DC :=
 (.loop [0, 1, 2, 7, 8] b17_2)

def c17 : DC :=
 (.seq (.reg [⟨(some 6), .mv, [.c .nilsl], none⟩] [0, 1, 2])
 (.seq (.reg [⟨(some 16), .mv, [.t 1], none⟩,
   ⟨(some 17), (.conv .u64), [.t 16], none⟩,
   ⟨(some 18), (.binI .rem), [.t 17, .c (.i .u64 3)], none⟩,
   ⟨(some 19), (.conv .i64), [.t 18], none⟩,
   ⟨(some 20), (.binI .add), [.c (.i .i64 1), .t 19], none⟩,
   ⟨(some 1), .mv, [.t 20], none⟩] [0, 1, 2])
 (.seq (.reg [⟨(some 7), .mv, [.c .nilsl], none⟩] [0, 1, 2, 7])
 (.seq (.seq (.reg [⟨(some 8), .mv, [.c (.i .i64 0)], none⟩] [0, 1, 2, 7, 8])
 (.block 0
  l17_3))
 (.seq (.reg [⟨(some 119), .mv, [.t 7], none⟩,
   ⟨(some 6), .mv, [.t 119], none⟩] [6])
 .ret)))))

def d17 : DFun := ⟨3, 120, c17, [.t 6]⟩

theorem ok17 : Fok Tryd.prog 17 d17 := ⟨Tryd.f17, Tryd.func17, by kernel_rfl, by kernel_rfl⟩

-- bibelot/bibelotlaw09.given
def b18_0 : DC :=
 (.seq (.seq (.reg [⟨(some 5), .mv, [.t 4], none⟩,
   ⟨(some 6), .mv, [.t 0], none⟩,
   ⟨(some 7), (.len 0), [.t 6], none⟩,
   ⟨(some 8), (.binI .lss), [.t 5, .t 7], none⟩] [0, 3, 4, 8])
 (.cond (.t 8)
  .skip
  (.exit 0)))
 (.seq (.block 1
  (.reg [⟨(some 11), .mv, [.t 3], none⟩,
    ⟨(some 12), .mv, [.t 0], none⟩,
    ⟨(some 13), .mv, [.t 4], none⟩,
    ⟨(some 14), (.ixS 2 true), [.t 12, .t 13], none⟩,
    ⟨(some 15), (.fadr 0 1 false), [.t 14], none⟩,
    ⟨(some 16), (.ld 1 false), [.t 15], none⟩,
    ⟨(some 17), (.call (.pu [])), [.c (.fn 29 [] []), .t 16, .c (.i .i64 4)], none⟩,
    ⟨(some 18), .mv, [.t 0], none⟩,
    ⟨(some 19), .mv, [.t 4], none⟩,
    ⟨(some 20), (.ixS 2 true), [.t 18, .t 19], none⟩,
    ⟨(some 21), (.fadr 1 1 false), [.t 20], none⟩,
    ⟨(some 22), (.ld 1 false), [.t 21], none⟩,
    ⟨(some 23), (.call (.pu [])), [.c (.fn 29 [] []), .t 22, .c (.i .i64 4)], none⟩,
    ⟨(some 24), (.build [.nilsl, .nilsl] [(0, 1), (1, 1)]), [.t 17, .t 23], none⟩,
    ⟨(some 25), (.bsl false [.nilsl, .nilsl] true 1 [0]), [.t 24], none⟩,
    ⟨(some 26), (.app 2 true 48), [.t 11, .t 25], none⟩,
    ⟨(some 3), .mv, [.t 26], none⟩] [0, 3, 4]))
 (.reg [⟨(some 9), .mv, [.t 4], none⟩,
   ⟨(some 10), (.binI .add), [.t 9, .c (.i .i64 1)], none⟩,
   ⟨(some 4), .mv, [.t 10], none⟩] [0, 3, 4])))

def l18_1 : DC :=
 (.loop [0, 3, 4] b18_0)

def c18 : DC :=
 (.seq (.reg [⟨(some 2), .mv, [.c .nilsl], none⟩] [0])
 (.seq (.reg [⟨(some 3), .mv, [.c .nilsl], none⟩] [0, 3])
 (.seq (.seq (.reg [⟨(some 4), .mv, [.c (.i .i64 0)], none⟩] [0, 3, 4])
 (.block 0
  l18_1))
 (.seq (.reg [⟨(some 27), .mv, [.t 3], none⟩,
   ⟨(some 2), .mv, [.t 27], none⟩] [2])
 .ret))))

def d18 : DFun := ⟨1, 28, c18, [.t 2]⟩

theorem ok18 : Fok Tryd.prog 18 d18 := ⟨Tryd.f18, Tryd.func18, by kernel_rfl, by kernel_rfl⟩

-- bibelot/price.Share
def b19_0 : DC :=
 (.seq (.reg [⟨(some 32), (.binI .lss), [.t 31, .t 30], none⟩] [5, 7, 8, 23, 24, 30, 31, 32])
 (.seq (.cond (.t 32)
  .skip
  (.exit 2))
 (.seq (.block 3
  (.seq (.reg [⟨(some 33), .mv, [.t 31], none⟩,
    ⟨(some 9), .mv, [.t 33], none⟩] [5, 7, 8, 9, 23, 24, 30, 31])
  (.seq (.reg [⟨(some 34), .mv, [.t 5], none⟩,
    ⟨(some 35), .mv, [.t 8], none⟩,
    ⟨(some 36), .mv, [.t 9], none⟩,
    ⟨(some 37), .nilck, [.t 34], none⟩,
    ⟨(some 38), (.fadr 1 25 true), [.t 37], none⟩,
    ⟨(some 39), (.ixA 5 5 true), [.t 38, .t 35], none⟩,
    ⟨(some 40), (.ixA 5 1 false), [.t 39, .t 36], none⟩,
    ⟨(some 41), (.ld 1 false), [.t 40], none⟩,
    ⟨(some 42), .mv, [.t 5], none⟩,
    ⟨(some 43), .mv, [.t 8], none⟩,
    ⟨(some 44), .mv, [.t 8], none⟩,
    ⟨(some 45), .nilck, [.t 42], none⟩,
    ⟨(some 46), (.fadr 1 25 true), [.t 45], none⟩,
    ⟨(some 47), (.ixA 5 5 true), [.t 46, .t 43], none⟩,
    ⟨(some 48), (.ixA 5 1 false), [.t 47, .t 44], none⟩,
    ⟨(some 49), (.ld 1 false), [.t 48], none⟩,
    ⟨(some 50), (.build [(.i .i64 0), (.i .i64 0)] [(0, 1), (1, 1)]), [.t 41, .t 49], none⟩,
    ⟨(some 51), (.call (.pu [])), [.c (.fn 54 [] []), .t 50], none⟩,
    ⟨(some 10), (.alloc [(.i .i64 0), (.i .i64 0)] true), [], none⟩,
    ⟨none, (.st 2), [.t 10, .t 51], none⟩] [5, 7, 8, 9, 10, 23, 24, 30, 31])
  (.seq (.reg [⟨(some 52), .mv, [.t 8], none⟩,
    ⟨(some 53), .mv, [.t 9], none⟩,
    ⟨(some 54), (.binI .neq), [.t 52, .t 53], none⟩,
    ⟨(some 55), .mv, [.t 54], none⟩,
    ⟨(some 56), (.ld 2 true), [.t 10], (some (55, true))⟩,
    ⟨(some 57), (.ld 2 true), [.t 7], (some (55, true))⟩,
    ⟨(some 58), (.call (.pu [])), [.c (.fn 55 [] []), .t 56, .t 57], (some (55, true))⟩,
    ⟨(some 59), .pick, [.t 55, .t 58, .c (.b false)], none⟩,
    ⟨(some 60), .mv, [.t 59], none⟩,
    ⟨(some 61), .mv, [.t 5], (some (60, true))⟩,
    ⟨(some 62), .mv, [.t 9], (some (60, true))⟩,
    ⟨(some 63), .mv, [.t 8], (some (60, true))⟩,
    ⟨(some 64), .mv, [.t 5], (some (60, true))⟩,
    ⟨(some 65), (.call (.pu [])), [.c (.fn 57 [] []), .t 64], (some (60, true))⟩,
    ⟨(some 66), (.ld 2 true), [.t 10], (some (60, true))⟩,
    ⟨(some 67), (.call (.pu [])), [.c (.fn 56 [] []), .t 61, .t 62, .t 63, .t 65, .t 66], (some (60, true))⟩,
    ⟨(some 68), (.eqN 0 true), [.t 67, .c .nilsl], (some (60, true))⟩,
    ⟨(some 69), .pick, [.t 60, .t 68, .c (.b false)], none⟩] [5, 7, 8, 10, 23, 24, 30, 31, 69])
  (.cond (.t 69)
   (.reg [⟨(some 70), (.ld 2 true), [.t 10], none⟩,
     ⟨none, (.st 2), [.t 7, .t 70], none⟩] [5, 7, 8, 23, 24, 30, 31])
   .skip)))))
 (.reg [⟨(some 71), (.binI .add), [.t 31, .c (.i .i64 1)], none⟩,
   ⟨(some 31), .mv, [.t 71], none⟩] [5, 7, 8, 23, 24, 30, 31]))))

def l19_1 : DC :=
 (.loop [5, 7, 8, 23, 24, 30, 31] b19_0)

def b19_2 : DC :=
 (.seq (.reg [⟨(some 25), (.binI .lss), [.t 24, .t 23], none⟩] [5, 7, 23, 24, 25])
 (.seq (.cond (.t 25)
  .skip
  (.exit 0))
 (.seq (.block 1
  (.seq (.reg [⟨(some 26), .mv, [.t 24], none⟩,
    ⟨(some 8), .mv, [.t 26], none⟩] [5, 7, 8, 23, 24])
  (.seq (.reg [⟨(some 27), .mv, [.t 5], none⟩,
    ⟨(some 28), .nilck, [.t 27], none⟩,
    ⟨(some 29), (.fadr 0 1 false), [.t 28], none⟩,
    ⟨(some 30), (.ld 1 false), [.t 29], none⟩,
    ⟨(some 31), .mv, [.c (.i .i64 0)], none⟩] [5, 7, 8, 23, 24, 30, 31])
  (.block 2
   l19_1))))
 (.reg [⟨(some 72), (.binI .add), [.t 24, .c (.i .i64 1)], none⟩,
   ⟨(some 24), .mv, [.t 72], none⟩] [5, 7, 23, 24]))))

def l19_3 : DC :=
 (.loop [5, 7, 23, 24] b19_2)

def c19 : DC :=
 (.seq (.reg [⟨(some 2), .mv, [.c (.i .i64 0)], none⟩,
   ⟨(some 3), .mv, [.c (.i .i64 0)], none⟩,
   ⟨(some 4), .mv, [.c (.i .i64 0)], none⟩] [0])
 (.seq (.reg [⟨(some 12), .mv, [.t 0], none⟩,
   ⟨(some 13), (.call .sh), [.c (.fn 53 [] []), .t 12, .c .nilsl], none⟩,
   ⟨(some 11), .mv, [.t 13], none⟩,
   ⟨(some 14), (.ext 0), [.t 11], none⟩,
   ⟨(some 15), (.ext 1), [.t 11], none⟩,
   ⟨(some 5), .mv, [.t 14], none⟩,
   ⟨(some 6), .mv, [.t 15], none⟩] [5, 6])
 (.seq (.seq (.reg [⟨(some 16), .mv, [.t 6], none⟩,
   ⟨(some 17), (.binI .neq), [.t 16, .c (.i .i64 0)], none⟩] [5, 6, 17])
 (.cond (.t 17)
  (.seq (.reg [⟨(some 18), .mv, [.t 6], none⟩,
    ⟨(some 2), .mv, [.c (.i .i64 0)], none⟩,
    ⟨(some 3), .mv, [.c (.i .i64 0)], none⟩,
    ⟨(some 4), .mv, [.t 18], none⟩] [2, 3, 4])
  .ret)
  .skip))
 (.seq (.reg [⟨(some 19), (.ld 2 true), [.g 0], none⟩,
   ⟨(some 7), (.alloc [(.i .i64 0), (.i .i64 0)] true), [], none⟩,
   ⟨none, (.st 2), [.t 7, .t 19], none⟩] [5, 7])
 (.seq (.seq (.reg [⟨(some 20), .mv, [.t 5], none⟩,
   ⟨(some 21), .nilck, [.t 20], none⟩,
   ⟨(some 22), (.fadr 0 1 false), [.t 21], none⟩,
   ⟨(some 23), (.ld 1 false), [.t 22], none⟩,
   ⟨(some 24), .mv, [.c (.i .i64 0)], none⟩] [5, 7, 23, 24])
 (.block 0
  l19_3))
 (.seq (.reg [⟨(some 73), (.fadr 0 1 false), [.t 7], none⟩,
   ⟨(some 74), (.ld 1 false), [.t 73], none⟩,
   ⟨(some 75), (.fadr 1 1 false), [.t 7], none⟩,
   ⟨(some 76), (.ld 1 false), [.t 75], none⟩,
   ⟨(some 2), .mv, [.t 74], none⟩,
   ⟨(some 3), .mv, [.t 76], none⟩,
   ⟨(some 4), .mv, [.c (.i .i64 0)], none⟩] [2, 3, 4])
 .ret))))))

def d19 : DFun := ⟨1, 77, c19, [.t 2, .t 3, .t 4]⟩

theorem ok19 : Fok Tryd.prog 19 d19 := ⟨Tryd.f19, Tryd.func19, by kernel_rfl, by kernel_rfl⟩

-- bibelot/price.Most
def a20_0 : DC :=
 (.reg [⟨(some 7), .mv, [.t 20], none⟩] [4, 6, 7])

def b20_1 : DC :=
 (.block 1
  (.seq (.reg [⟨(some 21), .mv, [.t 7], none⟩,
    ⟨(some 22), (.conv .u64), [.t 21], none⟩,
    ⟨(some 23), (.call (.pu [])), [.c (.fn 59 [] []), .t 22], none⟩,
    ⟨(some 8), .mv, [.t 23], none⟩] [4, 6, 7, 8])
  (.seq (.seq (.reg [⟨(some 24), .mv, [.t 8], none⟩,
    ⟨(some 25), (.ld 1 false), [.t 6], none⟩,
    ⟨(some 26), (.len 0), [.t 25], none⟩,
    ⟨(some 27), (.binI .lss), [.t 24, .t 26], none⟩,
    ⟨(some 28), .mv, [.t 27], none⟩,
    ⟨(some 29), (.ld 1 false), [.t 4], (some (28, false))⟩,
    ⟨(some 30), .mv, [.t 7], (some (28, false))⟩,
    ⟨(some 31), (.ld 2 true), [.g 0], (some (28, false))⟩,
    ⟨(some 32), (.call (.pu [])), [.c (.fn 60 [] []), .t 29, .t 30, .t 31], (some (28, false))⟩,
    ⟨(some 33), (.eqN 0 true), [.t 32, .c .nilsl], (some (28, false))⟩,
    ⟨(some 34), .pick, [.t 28, .c (.b true), .t 33], none⟩] [6, 7, 8, 34])
  (.cond (.t 34)
   (.exit 1)
   .skip))
  (.seq (.reg [⟨(some 35), .mv, [.t 7], none⟩,
    ⟨(some 36), (.call (.pu [])), [.c (.fn 61 [] []), .t 35], none⟩,
    ⟨(some 9), .mv, [.t 36], none⟩] [6, 8, 9])
  (.seq (.reg [⟨(some 37), .mv, [.t 8], none⟩,
    ⟨(some 38), (.ld 1 false), [.t 6], none⟩,
    ⟨(some 39), (.len 0), [.t 38], none⟩,
    ⟨(some 40), (.binI .gtr), [.t 37, .t 39], none⟩,
    ⟨(some 41), .mv, [.t 40], none⟩,
    ⟨(some 42), .mv, [.t 9], (some (41, false))⟩,
    ⟨(some 43), (.ld 1 false), [.t 6], (some (41, false))⟩,
    ⟨(some 44), (.call (.pu [])), [.c (.fn 62 [] []), .t 42, .t 43], (some (41, false))⟩,
    ⟨(some 45), (.binI .lss), [.t 44, .c (.i .i64 0)], (some (41, false))⟩,
    ⟨(some 46), .pick, [.t 41, .c (.b true), .t 45], none⟩] [6, 9, 46])
  (.cond (.t 46)
   (.reg [⟨(some 47), .mv, [.t 9], none⟩,
     ⟨none, (.st 1), [.t 6, .t 47], none⟩] [])
   .skip))))))

def c20 : DC :=
 (.seq (.reg [⟨(some 2), .mv, [.c .nilsl], none⟩,
   ⟨(some 3), .mv, [.c (.i .i64 0)], none⟩] [0])
 (.seq (.reg [⟨(some 11), .mv, [.t 0], none⟩,
   ⟨(some 12), (.call .sh), [.c (.fn 53 [] []), .t 11, .c .nilsl], none⟩,
   ⟨(some 10), .mv, [.t 12], none⟩,
   ⟨(some 13), (.ext 0), [.t 10], none⟩,
   ⟨(some 14), (.ext 1), [.t 10], none⟩,
   ⟨(some 4), (.alloc [.nilp] false), [], none⟩,
   ⟨none, (.st 1), [.t 4, .t 13], none⟩,
   ⟨(some 5), .mv, [.t 14], none⟩] [4, 5])
 (.seq (.seq (.reg [⟨(some 15), .mv, [.t 5], none⟩,
   ⟨(some 16), (.binI .neq), [.t 15, .c (.i .i64 0)], none⟩] [4, 5, 16])
 (.cond (.t 16)
  (.seq (.reg [⟨(some 17), .mv, [.t 5], none⟩,
    ⟨(some 2), .mv, [.c .nilsl], none⟩,
    ⟨(some 3), .mv, [.t 17], none⟩] [2, 3])
  .ret)
  .skip))
 (.seq (.reg [⟨(some 6), (.alloc [.nilsl] false), [], none⟩] [4, 6])
 (.seq (.seq (.reg [⟨(some 18), (.ld 1 false), [.t 4], none⟩,
   ⟨(some 19), (.call .sh), [.c (.fn 58 [] []), .t 18], none⟩] [4, 6, 19])
 (.block 0
  (.rfunc (.t 19) [20] a20_0
   b20_1 [4, 6])))
 (.seq (.reg [⟨(some 48), (.ld 1 false), [.t 6], none⟩,
   ⟨(some 2), .mv, [.t 48], none⟩,
   ⟨(some 3), .mv, [.c (.i .i64 0)], none⟩] [2, 3])
 .ret))))))

def d20 : DFun := ⟨1, 49, c20, [.t 2, .t 3]⟩

theorem ok20 : Fok Tryd.prog 20 d20 := ⟨Tryd.f20, Tryd.func20, by kernel_rfl, by kernel_rfl⟩

end Go.Proofs.Tryd.Dn

