import Derived.Test.YtgmlmmgpcbollaaDoorProg
import Derived.Test.YtgmlmmgpcbollaaDoorDc
set_option linter.unusedVariables false
set_option maxRecDepth 100000
namespace Go.Proofs.Tryd.Dn
open Go.Dn

-- bibelot/bibelotref09.Share
def b22_0 : DC :=
 (.seq (.seq (.reg [⟨(some 11), .mv, [.t 5], none⟩,
   ⟨(some 12), .mv, [.t 0], none⟩,
   ⟨(some 13), (.len 0), [.t 12], none⟩,
   ⟨(some 14), (.binI .lss), [.t 11, .t 13], none⟩] [0, 1, 5, 14])
 (.cond (.t 14)
  .skip
  (.exit 0)))
 (.seq (.block 1
  (.seq (.reg [⟨(some 17), .mv, [.t 0], none⟩,
    ⟨(some 18), .mv, [.t 5], none⟩,
    ⟨(some 19), (.ixS 1 false), [.t 17, .t 18], none⟩,
    ⟨(some 20), (.ld 1 false), [.t 19], none⟩,
    ⟨(some 21), .mv, [.t 1], none⟩,
    ⟨(some 22), .mv, [.t 5], none⟩,
    ⟨(some 23), (.ixS 1 false), [.t 21, .t 22], none⟩,
    ⟨(some 24), (.ld 1 false), [.t 23], none⟩,
    ⟨(some 25), (.binI .neq), [.t 20, .t 24], none⟩] [0, 1, 5, 25])
  (.cond (.t 25)
   (.seq (.reg [⟨(some 4), .mv, [.c (.b false)], none⟩] [4])
   .ret)
   .skip)))
 (.reg [⟨(some 15), .mv, [.t 5], none⟩,
   ⟨(some 16), (.binI .add), [.t 15, .c (.i .i64 1)], none⟩,
   ⟨(some 5), .mv, [.t 16], none⟩] [0, 1, 5])))

def l22_1 : DC :=
 (.loop [0, 1, 5] b22_0)

def c22 : DC :=
 (.seq (.reg [⟨(some 4), .mv, [.c (.b false)], none⟩] [0, 1])
 (.seq (.seq (.reg [⟨(some 6), .mv, [.t 0], none⟩,
   ⟨(some 7), (.len 0), [.t 6], none⟩,
   ⟨(some 8), .mv, [.t 1], none⟩,
   ⟨(some 9), (.len 0), [.t 8], none⟩,
   ⟨(some 10), (.binI .neq), [.t 7, .t 9], none⟩] [0, 1, 10])
 (.cond (.t 10)
  (.seq (.reg [⟨(some 4), .mv, [.c (.b false)], none⟩] [4])
  .ret)
  .skip))
 (.seq (.seq (.reg [⟨(some 5), .mv, [.c (.i .i64 0)], none⟩] [0, 1, 5])
 (.block 0
  l22_1))
 (.seq (.reg [⟨(some 4), .mv, [.c (.b true)], none⟩] [4])
 .ret))))

def d22 : DFun := ⟨2, 26, c22, [.t 4]⟩

theorem ok22 : Fok Tryd.prog 22 d22 := ⟨Tryd.f22, Tryd.func22, by kernel_rfl, by kernel_rfl⟩

-- bibelot/bibelotref09.Most
def b23_0 : DC :=
 (.seq (.seq (.reg [⟨(some 14), .mv, [.t 6], none⟩,
   ⟨(some 15), .mv, [.t 0], none⟩,
   ⟨(some 16), (.len 0), [.t 15], none⟩,
   ⟨(some 17), (.binI .lss), [.t 14, .t 16], none⟩] [0, 3, 4, 5, 6, 17])
 (.cond (.t 17)
  .skip
  (.exit 2)))
 (.seq (.block 3
  (.seq (.reg [⟨(some 20), .mv, [.t 4], none⟩,
    ⟨(some 21), .mv, [.t 6], none⟩,
    ⟨(some 22), (.binI .shr), [.t 20, .t 21], none⟩,
    ⟨(some 23), (.binI .rem), [.t 22, .c (.i .i64 2)], none⟩,
    ⟨(some 24), (.binI .eql), [.t 23, .c (.i .i64 1)], none⟩] [0, 3, 4, 5, 6, 24])
  (.cond (.t 24)
   (.reg [⟨(some 25), .mv, [.t 5], none⟩,
     ⟨(some 26), .mv, [.t 6], none⟩,
     ⟨(some 27), (.bsl false [(.i .i64 0)] false 1 [0]), [.t 26], none⟩,
     ⟨(some 28), (.app 1 false 8), [.t 25, .t 27], none⟩,
     ⟨(some 5), .mv, [.t 28], none⟩] [0, 3, 4, 5, 6])
   .skip)))
 (.reg [⟨(some 18), .mv, [.t 6], none⟩,
   ⟨(some 19), (.binI .add), [.t 18, .c (.i .i64 1)], none⟩,
   ⟨(some 6), .mv, [.t 19], none⟩] [0, 3, 4, 5, 6])))

def l23_1 : DC :=
 (.loop [0, 3, 4, 5, 6] b23_0)

def b23_2 : DC :=
 (.seq (.seq (.reg [⟨(some 7), .mv, [.t 4], none⟩,
   ⟨(some 8), .mv, [.t 0], none⟩,
   ⟨(some 9), (.len 0), [.t 8], none⟩,
   ⟨(some 10), (.binI .shl), [.c (.i .i64 1), .t 9], none⟩,
   ⟨(some 11), (.binI .lss), [.t 7, .t 10], none⟩] [0, 3, 4, 11])
 (.cond (.t 11)
  .skip
  (.exit 0)))
 (.seq (.block 1
  (.seq (.reg [⟨(some 5), .mv, [.c .nilsl], none⟩] [0, 3, 4, 5])
  (.seq (.seq (.reg [⟨(some 6), .mv, [.c (.i .i64 0)], none⟩] [0, 3, 4, 5, 6])
  (.block 2
   l23_1))
  (.seq (.reg [⟨(some 29), .mv, [.t 0], none⟩,
    ⟨(some 30), .mv, [.t 5], none⟩,
    ⟨(some 31), (.call .sh), [.c (.fn 66 [] []), .t 29, .t 30], none⟩,
    ⟨(some 32), (.call (.pu [])), [.c (.fn 26 [] []), .t 31, .c (.i .i64 1), .c (.i .i64 1)], none⟩,
    ⟨(some 33), (.call (.pu [])), [.c (.fn 27 [] []), .t 32], none⟩,
    ⟨(some 34), .notB, [.t 33], none⟩,
    ⟨(some 35), .mv, [.t 34], none⟩,
    ⟨(some 36), .mv, [.t 5], (some (35, true))⟩,
    ⟨(some 37), (.len 0), [.t 36], (some (35, true))⟩,
    ⟨(some 38), .mv, [.t 3], (some (35, true))⟩,
    ⟨(some 39), (.len 0), [.t 38], (some (35, true))⟩,
    ⟨(some 40), (.binI .gtr), [.t 37, .t 39], (some (35, true))⟩,
    ⟨(some 41), .mv, [.t 40], (some (35, true))⟩,
    ⟨(some 42), .mv, [.t 5], (some (41, false))⟩,
    ⟨(some 43), (.len 0), [.t 42], (some (41, false))⟩,
    ⟨(some 44), .mv, [.t 3], (some (41, false))⟩,
    ⟨(some 45), (.len 0), [.t 44], (some (41, false))⟩,
    ⟨(some 46), (.binI .eql), [.t 43, .t 45], (some (41, false))⟩,
    ⟨(some 47), .mv, [.t 46], (some (41, false))⟩,
    ⟨(some 48), .mv, [.t 5], (some (47, true))⟩,
    ⟨(some 49), .mv, [.t 3], (some (47, true))⟩,
    ⟨(some 50), (.call (.pu [])), [.c (.fn 67 [] []), .t 48, .t 49], (some (47, true))⟩,
    ⟨(some 51), .pick, [.t 47, .t 50, .c (.b false)], (some (41, false))⟩,
    ⟨(some 52), .pick, [.t 41, .c (.b true), .t 51], (some (35, true))⟩,
    ⟨(some 53), .pick, [.t 35, .t 52, .c (.b false)], none⟩] [0, 3, 4, 5, 53])
  (.cond (.t 53)
   (.reg [⟨(some 54), .mv, [.t 5], none⟩,
     ⟨(some 3), .mv, [.t 54], none⟩] [0, 3, 4])
   .skip)))))
 (.reg [⟨(some 12), .mv, [.t 4], none⟩,
   ⟨(some 13), (.binI .add), [.t 12, .c (.i .i64 1)], none⟩,
   ⟨(some 4), .mv, [.t 13], none⟩] [0, 3, 4])))

def l23_3 : DC :=
 (.loop [0, 3, 4] b23_2)

def c23 : DC :=
 (.seq (.reg [⟨(some 2), .mv, [.c .nilsl], none⟩] [0])
 (.seq (.reg [⟨(some 3), .mv, [.c .nilsl], none⟩] [0, 3])
 (.seq (.seq (.reg [⟨(some 4), .mv, [.c (.i .i64 1)], none⟩] [0, 3, 4])
 (.block 0
  l23_3))
 (.seq (.reg [⟨(some 55), .mv, [.t 3], none⟩,
   ⟨(some 2), .mv, [.t 55], none⟩] [2])
 .ret))))

def d23 : DFun := ⟨1, 56, c23, [.t 2]⟩

theorem ok23 : Fok Tryd.prog 23 d23 := ⟨Tryd.f23, Tryd.func23, by kernel_rfl, by kernel_rfl⟩

-- bibelot/bibelotlaw09.awake
def c24 : DC :=
 (.seq (.reg [⟨(some 0), .mv, [.c (.b false)], none⟩] [])
 (.seq (.reg [⟨(some 22), (.bsl false [(.i .i64 0)] false 2 [0, 1]), [.c (.i .i64 1), .c (.i .i64 2)], none⟩,
   ⟨(some 23), (.bsl false [(.i .i64 0)] false 2 [0, 1]), [.c (.i .i64 2), .c (.i .i64 0)], none⟩,
   ⟨(some 24), (.build [.nilsl, .nilsl] [(0, 1), (1, 1)]), [.t 22, .t 23], none⟩,
   ⟨(some 25), (.bsl false [(.i .i64 0)] false 2 [0, 1]), [.c (.i .i64 2), .c (.i .i64 1)], none⟩,
   ⟨(some 26), (.bsl false [(.i .i64 0)] false 2 [0, 1]), [.c (.i .i64 0), .c (.i .i64 2)], none⟩,
   ⟨(some 27), (.build [.nilsl, .nilsl] [(0, 1), (1, 1)]), [.t 25, .t 26], none⟩,
   ⟨(some 28), (.bsl false [.nilsl, .nilsl] true 2 [0, 1]), [.t 24, .t 27], none⟩,
   ⟨(some 1), .mv, [.t 28], none⟩] [1])
 (.seq (.reg [⟨(some 29), (.bsl false [(.i .i64 0)] false 2 [0, 1]), [.c (.i .i64 1), .c (.i .i64 2)], none⟩,
   ⟨(some 30), (.bsl false [(.i .i64 0)] false 2 [0, 1]), [.c (.i .i64 0), .c (.i .i64 2)], none⟩,
   ⟨(some 31), (.build [.nilsl, .nilsl] [(0, 1), (1, 1)]), [.t 29, .t 30], none⟩,
   ⟨(some 32), (.bsl false [(.i .i64 0)] false 2 [0, 1]), [.c (.i .i64 2), .c (.i .i64 1)], none⟩,
   ⟨(some 33), (.bsl false [(.i .i64 0)] false 2 [0, 1]), [.c (.i .i64 2), .c (.i .i64 0)], none⟩,
   ⟨(some 34), (.build [.nilsl, .nilsl] [(0, 1), (1, 1)]), [.t 32, .t 33], none⟩,
   ⟨(some 35), (.bsl false [.nilsl, .nilsl] true 2 [0, 1]), [.t 31, .t 34], none⟩,
   ⟨(some 2), .mv, [.t 35], none⟩] [1, 2])
 (.seq (.reg [⟨(some 37), .mv, [.t 1], none⟩,
   ⟨(some 38), (.call (.pu [])), [.c (.fn 25 [] []), .t 37], none⟩,
   ⟨(some 36), .mv, [.t 38], none⟩,
   ⟨(some 39), (.ext 0), [.t 36], none⟩,
   ⟨(some 40), (.ext 1), [.t 36], none⟩,
   ⟨(some 41), (.ext 2), [.t 36], none⟩,
   ⟨(some 3), .mv, [.t 39], none⟩,
   ⟨(some 4), .mv, [.t 40], none⟩,
   ⟨(some 5), .mv, [.t 41], none⟩] [1, 2, 4, 5])
 (.seq (.reg [⟨(some 43), .mv, [.t 2], none⟩,
   ⟨(some 44), (.call (.pu [])), [.c (.fn 25 [] []), .t 43], none⟩,
   ⟨(some 42), .mv, [.t 44], none⟩,
   ⟨(some 45), (.ext 0), [.t 42], none⟩,
   ⟨(some 46), (.ext 1), [.t 42], none⟩,
   ⟨(some 47), (.ext 2), [.t 42], none⟩,
   ⟨(some 6), .mv, [.t 45], none⟩,
   ⟨(some 7), .mv, [.t 46], none⟩,
   ⟨(some 8), .mv, [.t 47], none⟩] [1, 2, 4, 5, 6, 7, 8])
 (.seq (.reg [⟨(some 49), .mv, [.t 2], none⟩,
   ⟨(some 50), (.bsl false [(.i .i64 0)] false 2 [0, 1]), [.c (.i .i64 0), .c (.i .i64 1)], none⟩,
   ⟨(some 51), (.call (.pu [])), [.c (.fn 31 [] []), .t 49, .t 50], none⟩,
   ⟨(some 48), .mv, [.t 51], none⟩,
   ⟨(some 52), (.ext 0), [.t 48], none⟩,
   ⟨(some 53), (.ext 1), [.t 48], none⟩,
   ⟨(some 9), .mv, [.t 52], none⟩,
   ⟨(some 10), .mv, [.t 53], none⟩] [1, 2, 4, 5, 6, 7, 8, 9, 10])
 (.seq (.reg [⟨(some 55), .mv, [.t 2], none⟩,
   ⟨(some 56), (.call (.pu [])), [.c (.fn 19 [] []), .t 55], none⟩,
   ⟨(some 54), .mv, [.t 56], none⟩,
   ⟨(some 57), (.ext 0), [.t 54], none⟩,
   ⟨(some 58), (.ext 1), [.t 54], none⟩,
   ⟨(some 59), (.ext 2), [.t 54], none⟩,
   ⟨(some 11), .mv, [.t 57], none⟩,
   ⟨(some 12), .mv, [.t 58], none⟩,
   ⟨(some 13), .mv, [.t 59], none⟩] [1, 2, 4, 5, 6, 7, 8, 9, 10, 11, 12, 13])
 (.seq (.reg [⟨(some 61), .mv, [.t 1], none⟩,
   ⟨(some 62), (.call (.pu [])), [.c (.fn 39 [] []), .t 61, .c (.i .i64 0), .c (.i .i64 1)], none⟩,
   ⟨(some 60), .mv, [.t 62], none⟩,
   ⟨(some 63), (.ext 0), [.t 60], none⟩,
   ⟨(some 64), (.ext 1), [.t 60], none⟩,
   ⟨(some 14), (.alloc [(.i .i64 0), (.i .i64 0), (.i .i64 0), (.i .i64 0)] true), [], none⟩,
   ⟨none, (.st 4), [.t 14, .t 63], none⟩,
   ⟨(some 15), .mv, [.t 64], none⟩] [1, 2, 4, 5, 6, 7, 8, 9, 10, 11, 12, 13, 14, 15])
 (.seq (.reg [⟨(some 66), .mv, [.t 1], none⟩,
   ⟨(some 67), (.call (.pu [])), [.c (.fn 35 [] []), .t 66], none⟩,
   ⟨(some 65), .mv, [.t 67], none⟩,
   ⟨(some 68), (.ext 0), [.t 65], none⟩,
   ⟨(some 69), (.ext 1), [.t 65], none⟩,
   ⟨(some 70), (.ext 2), [.t 65], none⟩,
   ⟨(some 71), (.ext 3), [.t 65], none⟩,
   ⟨(some 16), .mv, [.t 68], none⟩,
   ⟨(some 17), .mv, [.t 69], none⟩,
   ⟨(some 18), .mv, [.t 70], none⟩,
   ⟨(some 19), .mv, [.t 71], none⟩] [2, 4, 5, 6, 7, 8, 9, 10, 11, 12, 13, 14, 15, 18, 19])
 (.seq (.reg [⟨(some 73), .mv, [.t 2], none⟩,
   ⟨(some 74), (.call (.pu [])), [.c (.fn 20 [] []), .t 73], none⟩,
   ⟨(some 72), .mv, [.t 74], none⟩,
   ⟨(some 75), (.ext 0), [.t 72], none⟩,
   ⟨(some 76), (.ext 1), [.t 72], none⟩,
   ⟨(some 20), .mv, [.t 75], none⟩,
   ⟨(some 21), .mv, [.t 76], none⟩] [4, 5, 6, 7, 8, 9, 10, 11, 12, 13, 14, 15, 18, 19, 20, 21])
 (.seq (.reg [⟨(some 77), .mv, [.t 5], none⟩,
   ⟨(some 78), (.binI .eql), [.t 77, .c (.i .i64 0)], none⟩,
   ⟨(some 79), .mv, [.t 78], none⟩,
   ⟨(some 80), .mv, [.t 4], (some (79, true))⟩,
   ⟨(some 81), .notB, [.t 80], (some (79, true))⟩,
   ⟨(some 82), .pick, [.t 79, .t 81, .c (.b false)], none⟩,
   ⟨(some 83), .mv, [.t 82], none⟩,
   ⟨(some 84), .mv, [.t 8], (some (83, true))⟩,
   ⟨(some 85), (.binI .eql), [.t 84, .c (.i .i64 0)], (some (83, true))⟩,
   ⟨(some 86), .pick, [.t 83, .t 85, .c (.b false)], none⟩,
   ⟨(some 87), .mv, [.t 86], none⟩,
   ⟨(some 88), .mv, [.t 7], (some (87, true))⟩,
   ⟨(some 89), .pick, [.t 87, .t 88, .c (.b false)], none⟩,
   ⟨(some 90), .mv, [.t 89], none⟩,
   ⟨(some 91), .mv, [.t 6], (some (90, true))⟩,
   ⟨(some 92), (.len 0), [.t 91], (some (90, true))⟩,
   ⟨(some 93), (.binI .eql), [.t 92, .c (.i .i64 2)], (some (90, true))⟩,
   ⟨(some 94), .pick, [.t 90, .t 93, .c (.b false)], none⟩,
   ⟨(some 95), .mv, [.t 94], none⟩,
   ⟨(some 96), .mv, [.t 10], (some (95, true))⟩,
   ⟨(some 97), (.binI .eql), [.t 96, .c (.i .i64 0)], (some (95, true))⟩,
   ⟨(some 98), .pick, [.t 95, .t 97, .c (.b false)], none⟩,
   ⟨(some 99), .mv, [.t 98], none⟩,
   ⟨(some 100), .mv, [.t 9], (some (99, true))⟩,
   ⟨(some 101), (.binI .eql), [.t 100, .c (.i .i64 4)], (some (99, true))⟩,
   ⟨(some 102), .pick, [.t 99, .t 101, .c (.b false)], none⟩,
   ⟨(some 103), .mv, [.t 102], none⟩,
   ⟨(some 104), .mv, [.t 13], (some (103, true))⟩,
   ⟨(some 105), (.binI .eql), [.t 104, .c (.i .i64 0)], (some (103, true))⟩,
   ⟨(some 106), .pick, [.t 103, .t 105, .c (.b false)], none⟩,
   ⟨(some 107), .mv, [.t 106], none⟩,
   ⟨(some 108), .mv, [.t 11], (some (107, true))⟩,
   ⟨(some 109), (.binI .eql), [.t 108, .c (.i .i64 1)], (some (107, true))⟩,
   ⟨(some 110), .pick, [.t 107, .t 109, .c (.b false)], none⟩,
   ⟨(some 111), .mv, [.t 110], none⟩,
   ⟨(some 112), .mv, [.t 12], (some (111, true))⟩,
   ⟨(some 113), (.binI .eql), [.t 112, .c (.i .i64 2)], (some (111, true))⟩,
   ⟨(some 114), .pick, [.t 111, .t 113, .c (.b false)], none⟩,
   ⟨(some 115), .mv, [.t 114], none⟩,
   ⟨(some 116), .mv, [.t 15], (some (115, true))⟩,
   ⟨(some 117), (.binI .eql), [.t 116, .c (.i .i64 0)], (some (115, true))⟩,
   ⟨(some 118), .pick, [.t 115, .t 117, .c (.b false)], none⟩,
   ⟨(some 119), .mv, [.t 118], none⟩,
   ⟨(some 120), (.ld 4 true), [.t 14], (some (119, true))⟩,
   ⟨(some 121), (.build [(.i .i64 0), (.i .i64 0), (.i .i64 0), (.i .i64 0)] [(0, 1), (1, 1), (2, 1), (3, 1)]), [.c (.i .i64 2), .c (.i .i64 1), .c (.i .i64 1), .c (.i .i64 2)], (some (119, true))⟩,
   ⟨(some 122), (.eqA false [true, true, true, true]), [.t 120, .t 121], (some (119, true))⟩,
   ⟨(some 123), .pick, [.t 119, .t 122, .c (.b false)], none⟩,
   ⟨(some 124), .mv, [.t 123], none⟩,
   ⟨(some 125), .mv, [.t 19], (some (124, true))⟩,
   ⟨(some 126), (.binI .eql), [.t 125, .c (.i .i64 0)], (some (124, true))⟩,
   ⟨(some 127), .pick, [.t 124, .t 126, .c (.b false)], none⟩,
   ⟨(some 128), .mv, [.t 127], none⟩,
   ⟨(some 129), .mv, [.t 18], (some (128, true))⟩,
   ⟨(some 130), .pick, [.t 128, .t 129, .c (.b false)], none⟩,
   ⟨(some 131), .mv, [.t 130], none⟩,
   ⟨(some 132), .mv, [.t 21], (some (131, true))⟩,
   ⟨(some 133), (.binI .eql), [.t 132, .c (.i .i64 0)], (some (131, true))⟩,
   ⟨(some 134), .pick, [.t 131, .t 133, .c (.b false)], none⟩,
   ⟨(some 135), .mv, [.t 134], none⟩,
   ⟨(some 136), .mv, [.t 20], (some (135, true))⟩,
   ⟨(some 137), (.len 0), [.t 136], (some (135, true))⟩,
   ⟨(some 138), (.binI .eql), [.t 137, .c (.i .i64 1)], (some (135, true))⟩,
   ⟨(some 139), .pick, [.t 135, .t 138, .c (.b false)], none⟩,
   ⟨(some 140), .mv, [.t 139], none⟩,
   ⟨(some 141), .mv, [.t 20], (some (140, true))⟩,
   ⟨(some 142), (.ixS 1 false), [.t 141, .c (.i .i64 0)], (some (140, true))⟩,
   ⟨(some 143), (.ld 1 false), [.t 142], (some (140, true))⟩,
   ⟨(some 144), (.binI .eql), [.t 143, .c (.i .i64 0)], (some (140, true))⟩,
   ⟨(some 145), .pick, [.t 140, .t 144, .c (.b false)], none⟩,
   ⟨(some 146), .mv, [.t 145], none⟩,
   ⟨(some 147), (.call (.pu [])), [.c (.fn 52 [] []), .c .nilsl], (some (146, true))⟩,
   ⟨(some 148), (.binI .eql), [.t 147, .c (.i .i64 90)], (some (146, true))⟩,
   ⟨(some 149), .pick, [.t 146, .t 148, .c (.b false)], none⟩,
   ⟨(some 0), .mv, [.t 149], none⟩] [0])
 .ret)))))))))))

def d24 : DFun := ⟨0, 150, c24, [.t 0]⟩

theorem ok24 : Fok Tryd.prog 24 d24 := ⟨Tryd.f24, Tryd.func24, by kernel_rfl, by kernel_rfl⟩

-- bibelot/price.Ring
def c25 : DC :=
 (.seq (.reg [⟨(some 2), .mv, [.c .nilsl], none⟩,
   ⟨(some 3), .mv, [.c (.b false)], none⟩,
   ⟨(some 4), .mv, [.c (.i .i64 0)], none⟩] [0])
 (.seq (.reg [⟨(some 9), .mv, [.t 0], none⟩,
   ⟨(some 10), (.call .sh), [.c (.fn 53 [] []), .t 9, .c .nilsl], none⟩,
   ⟨(some 8), .mv, [.t 10], none⟩,
   ⟨(some 11), (.ext 0), [.t 8], none⟩,
   ⟨(some 12), (.ext 1), [.t 8], none⟩,
   ⟨(some 5), .mv, [.t 11], none⟩,
   ⟨(some 6), .mv, [.t 12], none⟩] [5, 6])
 (.seq (.seq (.reg [⟨(some 13), .mv, [.t 6], none⟩,
   ⟨(some 14), (.binI .neq), [.t 13, .c (.i .i64 0)], none⟩] [5, 6, 14])
 (.cond (.t 14)
  (.seq (.reg [⟨(some 15), .mv, [.t 6], none⟩,
    ⟨(some 2), .mv, [.c .nilsl], none⟩,
    ⟨(some 3), .mv, [.c (.b false)], none⟩,
    ⟨(some 4), .mv, [.t 15], none⟩] [2, 3, 4])
  .ret)
  .skip))
 (.seq (.reg [⟨(some 16), .mv, [.t 5], none⟩,
   ⟨(some 17), .mv, [.t 5], none⟩,
   ⟨(some 18), (.call (.pu [])), [.c (.fn 57 [] []), .t 17], none⟩,
   ⟨(some 19), (.ld 2 true), [.g 0], none⟩,
   ⟨(some 20), (.call (.pu [])), [.c (.fn 60 [] []), .t 16, .t 18, .t 19], none⟩,
   ⟨(some 7), .mv, [.t 20], none⟩] [7])
 (.seq (.reg [⟨(some 21), .mv, [.t 7], none⟩,
   ⟨(some 22), .mv, [.t 7], none⟩,
   ⟨(some 23), (.eqN 0 true), [.t 22, .c .nilsl], none⟩,
   ⟨(some 2), .mv, [.t 21], none⟩,
   ⟨(some 3), .mv, [.t 23], none⟩,
   ⟨(some 4), .mv, [.c (.i .i64 0)], none⟩] [2, 3, 4])
 .ret)))))

def d25 : DFun := ⟨1, 24, c25, [.t 2, .t 3, .t 4]⟩

theorem ok25 : Fok Tryd.prog 25 d25 := ⟨Tryd.f25, Tryd.func25, by kernel_rfl, by kernel_rfl⟩

-- bibelot/bibelotref09.Prefers
def b26_0 : DC :=
 (.seq (.seq (.reg [⟨(some 21), .mv, [.t 11], none⟩,
   ⟨(some 22), .mv, [.t 0], none⟩,
   ⟨(some 23), (.len 0), [.t 22], none⟩,
   ⟨(some 24), (.binI .lss), [.t 21, .t 23], none⟩] [0, 1, 2, 7, 8, 9, 10, 11, 24])
 (.cond (.t 24)
  .skip
  (.exit 2)))
 (.seq (.block 3
  (.seq (.reg [⟨(some 12), .mv, [.c (.i .i64 0)], none⟩] [0, 1, 2, 7, 8, 9, 10, 11, 12])
  (.seq (.seq (.reg [⟨(some 27), .mv, [.t 2], none⟩,
    ⟨(some 28), .mv, [.t 7], none⟩,
    ⟨(some 29), .mv, [.t 9], none⟩,
    ⟨(some 30), (.ixS 1 false), [.t 28, .t 29], none⟩,
    ⟨(some 31), (.ld 1 false), [.t 30], none⟩,
    ⟨(some 32), .mv, [.t 11], none⟩,
    ⟨(some 33), (.ixS 1 false), [.t 31, .t 32], none⟩,
    ⟨(some 34), (.ld 1 false), [.t 33], none⟩,
    ⟨(some 35), (.binI .mul), [.t 27, .t 34], none⟩,
    ⟨(some 36), .mv, [.t 1], none⟩,
    ⟨(some 37), .mv, [.t 7], none⟩,
    ⟨(some 38), .mv, [.t 9], none⟩,
    ⟨(some 39), (.ixS 1 false), [.t 37, .t 38], none⟩,
    ⟨(some 40), (.ld 1 false), [.t 39], none⟩,
    ⟨(some 41), .mv, [.t 9], none⟩,
    ⟨(some 42), (.ixS 1 false), [.t 40, .t 41], none⟩,
    ⟨(some 43), (.ld 1 false), [.t 42], none⟩,
    ⟨(some 44), (.binI .mul), [.t 36, .t 43], none⟩,
    ⟨(some 45), (.binI .leq), [.t 35, .t 44], none⟩] [0, 1, 2, 7, 8, 9, 10, 11, 12, 45])
  (.cond (.t 45)
   (.reg [⟨(some 12), .mv, [.c (.i .i64 1)], none⟩] [0, 1, 2, 7, 8, 9, 10, 11, 12])
   .skip))
  (.seq (.seq (.reg [⟨(some 46), .mv, [.t 2], none⟩,
    ⟨(some 47), .mv, [.t 7], none⟩,
    ⟨(some 48), .mv, [.t 9], none⟩,
    ⟨(some 49), (.ixS 1 false), [.t 47, .t 48], none⟩,
    ⟨(some 50), (.ld 1 false), [.t 49], none⟩,
    ⟨(some 51), .mv, [.t 11], none⟩,
    ⟨(some 52), (.ixS 1 false), [.t 50, .t 51], none⟩,
    ⟨(some 53), (.ld 1 false), [.t 52], none⟩,
    ⟨(some 54), (.binI .mul), [.t 46, .t 53], none⟩,
    ⟨(some 55), .mv, [.t 1], none⟩,
    ⟨(some 56), .mv, [.t 7], none⟩,
    ⟨(some 57), .mv, [.t 9], none⟩,
    ⟨(some 58), (.ixS 1 false), [.t 56, .t 57], none⟩,
    ⟨(some 59), (.ld 1 false), [.t 58], none⟩,
    ⟨(some 60), .mv, [.t 9], none⟩,
    ⟨(some 61), (.ixS 1 false), [.t 59, .t 60], none⟩,
    ⟨(some 62), (.ld 1 false), [.t 61], none⟩,
    ⟨(some 63), (.binI .mul), [.t 55, .t 62], none⟩,
    ⟨(some 64), (.binI .lss), [.t 54, .t 63], none⟩] [0, 1, 2, 7, 8, 9, 10, 11, 12, 64])
  (.cond (.t 64)
   (.reg [⟨(some 12), .mv, [.c (.i .i64 2)], none⟩] [0, 1, 2, 7, 8, 9, 10, 11, 12])
   .skip))
  (.reg [⟨(some 65), .mv, [.t 10], none⟩,
    ⟨(some 66), .mv, [.t 12], none⟩,
    ⟨(some 67), (.bsl false [(.i .i64 0)] false 1 [0]), [.t 66], none⟩,
    ⟨(some 68), (.app 1 false 8), [.t 65, .t 67], none⟩,
    ⟨(some 10), .mv, [.t 68], none⟩] [0, 1, 2, 7, 8, 9, 10, 11])))))
 (.reg [⟨(some 25), .mv, [.t 11], none⟩,
   ⟨(some 26), (.binI .add), [.t 25, .c (.i .i64 1)], none⟩,
   ⟨(some 11), .mv, [.t 26], none⟩] [0, 1, 2, 7, 8, 9, 10, 11])))

def l26_1 : DC :=
 (.loop [0, 1, 2, 7, 8, 9, 10, 11] b26_0)

def b26_2 : DC :=
 (.seq (.seq (.reg [⟨(some 15), .mv, [.t 9], none⟩,
   ⟨(some 16), .mv, [.t 0], none⟩,
   ⟨(some 17), (.len 0), [.t 16], none⟩,
   ⟨(some 18), (.binI .lss), [.t 15, .t 17], none⟩] [0, 1, 2, 7, 8, 9, 18])
 (.cond (.t 18)
  .skip
  (.exit 0)))
 (.seq (.block 1
  (.seq (.reg [⟨(some 10), .mv, [.c .nilsl], none⟩] [0, 1, 2, 7, 8, 9, 10])
  (.seq (.seq (.reg [⟨(some 11), .mv, [.c (.i .i64 0)], none⟩] [0, 1, 2, 7, 8, 9, 10, 11])
  (.block 2
   l26_1))
  (.reg [⟨(some 69), .mv, [.t 8], none⟩,
    ⟨(some 70), .mv, [.t 10], none⟩,
    ⟨(some 71), (.bsl false [.nilsl] false 1 [0]), [.t 70], none⟩,
    ⟨(some 72), (.app 1 false 24), [.t 69, .t 71], none⟩,
    ⟨(some 8), .mv, [.t 72], none⟩] [0, 1, 2, 7, 8, 9]))))
 (.reg [⟨(some 19), .mv, [.t 9], none⟩,
   ⟨(some 20), (.binI .add), [.t 19, .c (.i .i64 1)], none⟩,
   ⟨(some 9), .mv, [.t 20], none⟩] [0, 1, 2, 7, 8, 9])))

def l26_3 : DC :=
 (.loop [0, 1, 2, 7, 8, 9] b26_2)

def c26 : DC :=
 (.seq (.reg [⟨(some 6), .mv, [.c .nilsl], none⟩] [0, 1, 2])
 (.seq (.reg [⟨(some 13), .mv, [.t 0], none⟩,
   ⟨(some 14), (.call (.pu [])), [.c (.fn 37 [] []), .t 13], none⟩,
   ⟨(some 7), .mv, [.t 14], none⟩] [0, 1, 2, 7])
 (.seq (.reg [⟨(some 8), .mv, [.c .nilsl], none⟩] [0, 1, 2, 7, 8])
 (.seq (.seq (.reg [⟨(some 9), .mv, [.c (.i .i64 0)], none⟩] [0, 1, 2, 7, 8, 9])
 (.block 0
  l26_3))
 (.seq (.reg [⟨(some 73), .mv, [.t 8], none⟩,
   ⟨(some 6), .mv, [.t 73], none⟩] [6])
 .ret)))))

def d26 : DFun := ⟨3, 74, c26, [.t 6]⟩

theorem ok26 : Fok Tryd.prog 26 d26 := ⟨Tryd.f26, Tryd.func26, by kernel_rfl, by kernel_rfl⟩

-- bibelot/bibelotref09.HasRing
def b27_0 : DC :=
 (.seq (.seq (.reg [⟨(some 14), .mv, [.t 5], none⟩,
   ⟨(some 15), .mv, [.t 0], none⟩,
   ⟨(some 16), (.len 0), [.t 15], none⟩,
   ⟨(some 17), (.binI .lss), [.t 14, .t 16], none⟩] [0, 3, 4, 5, 17])
 (.cond (.t 17)
  .skip
  (.exit 2)))
 (.seq (.block 3
  (.seq (.reg [⟨(some 20), .mv, [.t 4], none⟩,
    ⟨(some 21), .mv, [.t 5], none⟩,
    ⟨(some 22), (.binI .neq), [.t 20, .t 21], none⟩,
    ⟨(some 23), .mv, [.t 22], none⟩,
    ⟨(some 24), .mv, [.t 0], (some (23, true))⟩,
    ⟨(some 25), .mv, [.t 4], (some (23, true))⟩,
    ⟨(some 26), (.ixS 1 false), [.t 24, .t 25], (some (23, true))⟩,
    ⟨(some 27), (.ld 1 false), [.t 26], (some (23, true))⟩,
    ⟨(some 28), .mv, [.t 5], (some (23, true))⟩,
    ⟨(some 29), (.ixS 1 false), [.t 27, .t 28], (some (23, true))⟩,
    ⟨(some 30), (.ld 1 false), [.t 29], (some (23, true))⟩,
    ⟨(some 31), (.binI .eql), [.t 30, .c (.i .i64 2)], (some (23, true))⟩,
    ⟨(some 32), .pick, [.t 23, .t 31, .c (.b false)], none⟩,
    ⟨(some 33), .mv, [.t 32], none⟩,
    ⟨(some 34), .mv, [.t 3], (some (33, true))⟩,
    ⟨(some 35), .mv, [.t 5], (some (33, true))⟩,
    ⟨(some 36), (.ixS 1 false), [.t 34, .t 35], (some (33, true))⟩,
    ⟨(some 37), (.ld 1 false), [.t 36], (some (33, true))⟩,
    ⟨(some 38), .mv, [.t 4], (some (33, true))⟩,
    ⟨(some 39), (.ixS 1 false), [.t 37, .t 38], (some (33, true))⟩,
    ⟨(some 40), (.ld 1 false), [.t 39], (some (33, true))⟩,
    ⟨(some 41), .pick, [.t 33, .t 40, .c (.b false)], none⟩] [0, 3, 4, 5, 41])
  (.cond (.t 41)
   (.seq (.reg [⟨(some 2), .mv, [.c (.b true)], none⟩] [2])
   .ret)
   .skip)))
 (.reg [⟨(some 18), .mv, [.t 5], none⟩,
   ⟨(some 19), (.binI .add), [.t 18, .c (.i .i64 1)], none⟩,
   ⟨(some 5), .mv, [.t 19], none⟩] [0, 3, 4, 5])))

def l27_1 : DC :=
 (.loop [0, 3, 4, 5] b27_0)

def b27_2 : DC :=
 (.seq (.seq (.reg [⟨(some 8), .mv, [.t 4], none⟩,
   ⟨(some 9), .mv, [.t 0], none⟩,
   ⟨(some 10), (.len 0), [.t 9], none⟩,
   ⟨(some 11), (.binI .lss), [.t 8, .t 10], none⟩] [0, 3, 4, 11])
 (.cond (.t 11)
  .skip
  (.exit 0)))
 (.seq (.block 1
  (.seq (.reg [⟨(some 5), .mv, [.c (.i .i64 0)], none⟩] [0, 3, 4, 5])
  (.block 2
   l27_1)))
 (.reg [⟨(some 12), .mv, [.t 4], none⟩,
   ⟨(some 13), (.binI .add), [.t 12, .c (.i .i64 1)], none⟩,
   ⟨(some 4), .mv, [.t 13], none⟩] [0, 3, 4])))

def l27_3 : DC :=
 (.loop [0, 3, 4] b27_2)

def c27 : DC :=
 (.seq (.reg [⟨(some 2), .mv, [.c (.b false)], none⟩] [0])
 (.seq (.reg [⟨(some 6), .mv, [.t 0], none⟩,
   ⟨(some 7), (.call (.pu [])), [.c (.fn 68 [] []), .t 6], none⟩,
   ⟨(some 3), .mv, [.t 7], none⟩] [0, 3])
 (.seq (.seq (.reg [⟨(some 4), .mv, [.c (.i .i64 0)], none⟩] [0, 3, 4])
 (.block 0
  l27_3))
 (.seq (.reg [⟨(some 2), .mv, [.c (.b false)], none⟩] [2])
 .ret))))

def d27 : DFun := ⟨1, 42, c27, [.t 2]⟩

theorem ok27 : Fok Tryd.prog 27 d27 := ⟨Tryd.f27, Tryd.func27, by kernel_rfl, by kernel_rfl⟩

-- bibelot/bibelotref09.IsRing
def c29 : DC :=
 (.seq (.reg [⟨(some 4), .mv, [.c .nilsl], none⟩] [0, 1])
 (.seq (.reg [⟨(some 5), .mv, [.c .nilsl], none⟩] [0, 1, 5])
 (.seq (.reg [⟨(some 6), .mv, [.t 5], none⟩,
   ⟨(some 7), .mv, [.t 0], none⟩,
   ⟨(some 8), .mv, [.t 0], none⟩,
   ⟨(some 9), (.len 0), [.t 8], none⟩,
   ⟨(some 10), .mv, [.t 1], none⟩,
   ⟨(some 11), .mnI, [.t 9, .t 10], none⟩,
   ⟨(some 12), (.slc false true false 1 false), [.t 7, .t 11], none⟩,
   ⟨(some 13), (.app 1 false 8), [.t 6, .t 12], none⟩,
   ⟨(some 4), .mv, [.t 13], none⟩] [4])
 .ret)))

def d29 : DFun := ⟨2, 14, c29, [.t 4]⟩

theorem ok29 : Fok Tryd.prog 29 d29 := ⟨Tryd.f29, Tryd.func29, by kernel_rfl, by kernel_rfl⟩

-- bibelot/price.IsRing
def b31_0 : DC :=
 (.seq (.reg [⟨(some 26), (.binI .lss), [.t 25, .t 24], none⟩] [1, 6, 8, 23, 24, 25, 26])
 (.seq (.cond (.t 26)
  .skip
  (.exit 0))
 (.seq (.block 1
  (.seq (.reg [⟨(some 27), .mv, [.t 25], none⟩,
    ⟨(some 28), (.ixS 1 false), [.t 23, .t 25], none⟩,
    ⟨(some 29), (.ld 1 false), [.t 28], none⟩,
    ⟨(some 9), .mv, [.t 27], none⟩,
    ⟨(some 10), .mv, [.t 29], none⟩] [1, 6, 8, 9, 10, 23, 24, 25])
  (.reg [⟨(some 30), .mv, [.t 8], none⟩,
    ⟨(some 31), .mv, [.t 6], none⟩,
    ⟨(some 32), .mv, [.t 10], none⟩,
    ⟨(some 33), .mv, [.t 10], none⟩,
    ⟨(some 34), .nilck, [.t 31], none⟩,
    ⟨(some 35), (.fadr 1 25 true), [.t 34], none⟩,
    ⟨(some 36), (.ixA 5 5 true), [.t 35, .t 32], none⟩,
    ⟨(some 37), (.ixA 5 1 false), [.t 36, .t 33], none⟩,
    ⟨(some 38), (.ld 1 false), [.t 37], none⟩,
    ⟨(some 39), .mv, [.t 6], none⟩,
    ⟨(some 40), .mv, [.t 10], none⟩,
    ⟨(some 41), .mv, [.t 1], none⟩,
    ⟨(some 42), .mv, [.t 9], none⟩,
    ⟨(some 43), (.binI .add), [.t 42, .c (.i .i64 1)], none⟩,
    ⟨(some 44), .mv, [.t 1], none⟩,
    ⟨(some 45), (.len 0), [.t 44], none⟩,
    ⟨(some 46), (.binI .rem), [.t 43, .t 45], none⟩,
    ⟨(some 47), (.ixS 1 false), [.t 41, .t 46], none⟩,
    ⟨(some 48), (.ld 1 false), [.t 47], none⟩,
    ⟨(some 49), .nilck, [.t 39], none⟩,
    ⟨(some 50), (.fadr 1 25 true), [.t 49], none⟩,
    ⟨(some 51), (.ixA 5 5 true), [.t 50, .t 40], none⟩,
    ⟨(some 52), (.ixA 5 1 false), [.t 51, .t 48], none⟩,
    ⟨(some 53), (.ld 1 false), [.t 52], none⟩,
    ⟨(some 54), (.binI .sub), [.t 38, .t 53], none⟩,
    ⟨(some 55), (.bsl false [(.i .i64 0)] false 1 [0]), [.t 54], none⟩,
    ⟨(some 56), (.app 1 false 8), [.t 30, .t 55], none⟩,
    ⟨(some 8), .mv, [.t 56], none⟩] [1, 6, 8, 23, 24, 25])))
 (.reg [⟨(some 57), (.binI .add), [.t 25, .c (.i .i64 1)], none⟩,
   ⟨(some 25), .mv, [.t 57], none⟩] [1, 6, 8, 23, 24, 25]))))

def l31_1 : DC :=
 (.loop [1, 6, 8, 23, 24, 25] b31_0)

def c31 : DC :=
 (.seq (.reg [⟨(some 4), .mv, [.c (.i .i64 0)], none⟩,
   ⟨(some 5), .mv, [.c (.i .i64 0)], none⟩] [0, 1])
 (.seq (.reg [⟨(some 12), .mv, [.t 0], none⟩,
   ⟨(some 13), (.call .sh), [.c (.fn 53 [] []), .t 12, .c .nilsl], none⟩,
   ⟨(some 11), .mv, [.t 13], none⟩,
   ⟨(some 14), (.ext 0), [.t 11], none⟩,
   ⟨(some 15), (.ext 1), [.t 11], none⟩,
   ⟨(some 6), .mv, [.t 14], none⟩,
   ⟨(some 7), .mv, [.t 15], none⟩] [1, 6, 7])
 (.seq (.seq (.reg [⟨(some 16), .mv, [.t 7], none⟩,
   ⟨(some 17), (.binI .neq), [.t 16, .c (.i .i64 0)], none⟩] [1, 6, 7, 17])
 (.cond (.t 17)
  (.seq (.reg [⟨(some 18), .mv, [.t 7], none⟩,
    ⟨(some 4), .mv, [.c (.i .i64 0)], none⟩,
    ⟨(some 5), .mv, [.t 18], none⟩] [4, 5])
  .ret)
  .skip))
 (.seq (.seq (.reg [⟨(some 19), .mv, [.t 6], none⟩,
   ⟨(some 20), .mv, [.t 1], none⟩,
   ⟨(some 21), (.call (.pu [])), [.c (.fn 69 [] []), .t 19, .t 20], none⟩,
   ⟨(some 22), .notB, [.t 21], none⟩] [1, 6, 22])
 (.cond (.t 22)
  (.seq (.reg [⟨(some 4), .mv, [.c (.i .i64 0)], none⟩,
    ⟨(some 5), .mv, [.c (.i .i64 1)], none⟩] [4, 5])
  .ret)
  .skip))
 (.seq (.reg [⟨(some 8), .mv, [.c .nilsl], none⟩] [1, 6, 8])
 (.seq (.seq (.reg [⟨(some 23), .mv, [.t 1], none⟩,
   ⟨(some 24), (.len 0), [.t 23], none⟩,
   ⟨(some 25), .mv, [.c (.i .i64 0)], none⟩] [1, 6, 8, 23, 24, 25])
 (.block 0
  l31_1))
 (.seq (.reg [⟨(some 58), .mv, [.t 8], none⟩,
   ⟨(some 59), (.call (.pu [])), [.c (.fn 70 [] []), .t 58], none⟩,
   ⟨(some 4), .mv, [.t 59], none⟩,
   ⟨(some 5), .mv, [.c (.i .i64 0)], none⟩] [4, 5])
 .ret)))))))

def d31 : DFun := ⟨2, 60, c31, [.t 4, .t 5]⟩

theorem ok31 : Fok Tryd.prog 31 d31 := ⟨Tryd.f31, Tryd.func31, by kernel_rfl, by kernel_rfl⟩

-- bibelot/bibelotref09.Waste
def b34_0 : DC :=
 (.seq (.reg [⟨(some 21), (.binI .lss), [.t 20, .t 19], none⟩] [4, 6, 19, 20, 21])
 (.seq (.cond (.t 21)
  .skip
  (.exit 0))
 (.seq (.block 1
  (.seq (.reg [⟨(some 22), .mv, [.t 20], none⟩,
    ⟨(some 7), .mv, [.t 22], none⟩] [4, 6, 7, 19, 20])
  (.reg [⟨(some 23), .mv, [.t 6], none⟩,
    ⟨(some 24), .mv, [.t 4], none⟩,
    ⟨(some 25), .mv, [.t 7], none⟩,
    ⟨(some 26), .nilck, [.t 24], none⟩,
    ⟨(some 27), (.fadr 1 25 true), [.t 26], none⟩,
    ⟨(some 28), (.ixA 5 5 true), [.t 27, .t 25], none⟩,
    ⟨(some 29), .mv, [.t 4], none⟩,
    ⟨(some 30), .nilck, [.t 29], none⟩,
    ⟨(some 31), (.fadr 0 1 false), [.t 30], none⟩,
    ⟨(some 32), (.ld 1 false), [.t 31], none⟩,
    ⟨(some 33), (.slcA false true false 5 1 false), [.t 28, .t 32], none⟩,
    ⟨(some 34), (.call .sh), [.c (.fn 71 [] []), .t 33], none⟩,
    ⟨(some 35), (.bsl false [.nilsl] false 1 [0]), [.t 34], none⟩,
    ⟨(some 36), (.app 1 false 24), [.t 23, .t 35], none⟩,
    ⟨(some 6), .mv, [.t 36], none⟩] [4, 6, 19, 20])))
 (.reg [⟨(some 37), (.binI .add), [.t 20, .c (.i .i64 1)], none⟩,
   ⟨(some 20), .mv, [.t 37], none⟩] [4, 6, 19, 20]))))

def l34_1 : DC :=
 (.loop [4, 6, 19, 20] b34_0)

def c34 : DC :=
 (.seq (.reg [⟨(some 2), .mv, [.c .nilsl], none⟩,
   ⟨(some 3), .mv, [.c (.i .i64 0)], none⟩] [0])
 (.seq (.reg [⟨(some 9), .mv, [.t 0], none⟩,
   ⟨(some 10), (.call .sh), [.c (.fn 53 [] []), .t 9, .c .nilsl], none⟩,
   ⟨(some 8), .mv, [.t 10], none⟩,
   ⟨(some 11), (.ext 0), [.t 8], none⟩,
   ⟨(some 12), (.ext 1), [.t 8], none⟩,
   ⟨(some 4), .mv, [.t 11], none⟩,
   ⟨(some 5), .mv, [.t 12], none⟩] [4, 5])
 (.seq (.seq (.reg [⟨(some 13), .mv, [.t 5], none⟩,
   ⟨(some 14), (.binI .neq), [.t 13, .c (.i .i64 0)], none⟩] [4, 5, 14])
 (.cond (.t 14)
  (.seq (.reg [⟨(some 15), .mv, [.t 5], none⟩,
    ⟨(some 2), .mv, [.c .nilsl], none⟩,
    ⟨(some 3), .mv, [.t 15], none⟩] [2, 3])
  .ret)
  .skip))
 (.seq (.reg [⟨(some 6), .mv, [.c .nilsl], none⟩] [4, 6])
 (.seq (.seq (.reg [⟨(some 16), .mv, [.t 4], none⟩,
   ⟨(some 17), .nilck, [.t 16], none⟩,
   ⟨(some 18), (.fadr 0 1 false), [.t 17], none⟩,
   ⟨(some 19), (.ld 1 false), [.t 18], none⟩,
   ⟨(some 20), .mv, [.c (.i .i64 0)], none⟩] [4, 6, 19, 20])
 (.block 0
  l34_1))
 (.seq (.reg [⟨(some 38), .mv, [.t 6], none⟩,
   ⟨(some 2), .mv, [.t 38], none⟩,
   ⟨(some 3), .mv, [.c (.i .i64 0)], none⟩] [2, 3])
 .ret))))))

def d34 : DFun := ⟨1, 39, c34, [.t 2, .t 3]⟩

theorem ok34 : Fok Tryd.prog 34 d34 := ⟨Tryd.f34, Tryd.func34, by kernel_rfl, by kernel_rfl⟩

-- bibelot/price.Numbers
def c35 : DC :=
 (.seq (.reg [⟨(some 2), .mv, [.c .nilsl], none⟩,
   ⟨(some 3), .mv, [.c .nilsl], none⟩,
   ⟨(some 4), .mv, [.c (.b false)], none⟩,
   ⟨(some 5), .mv, [.c (.i .i64 0)], none⟩] [0])
 (.seq (.reg [⟨(some 10), .mv, [.t 0], none⟩,
   ⟨(some 11), (.call .sh), [.c (.fn 53 [] []), .t 10, .c .nilsl], none⟩,
   ⟨(some 9), .mv, [.t 11], none⟩,
   ⟨(some 12), (.ext 0), [.t 9], none⟩,
   ⟨(some 13), (.ext 1), [.t 9], none⟩,
   ⟨(some 6), .mv, [.t 12], none⟩,
   ⟨(some 7), .mv, [.t 13], none⟩] [6, 7])
 (.seq (.seq (.reg [⟨(some 14), .mv, [.t 7], none⟩,
   ⟨(some 15), (.binI .neq), [.t 14, .c (.i .i64 0)], none⟩] [6, 7, 15])
 (.cond (.t 15)
  (.seq (.reg [⟨(some 16), .mv, [.t 7], none⟩,
    ⟨(some 2), .mv, [.c .nilsl], none⟩,
    ⟨(some 3), .mv, [.c .nilsl], none⟩,
    ⟨(some 4), .mv, [.c (.b false)], none⟩,
    ⟨(some 5), .mv, [.t 16], none⟩] [2, 3, 4, 5])
  .ret)
  .skip))
 (.seq (.seq (.reg [⟨(some 17), .mv, [.t 6], none⟩,
   ⟨(some 18), .mv, [.t 6], none⟩,
   ⟨(some 19), (.call (.pu [])), [.c (.fn 57 [] []), .t 18], none⟩,
   ⟨(some 20), (.ld 2 true), [.g 0], none⟩,
   ⟨(some 21), (.call (.pu [])), [.c (.fn 60 [] []), .t 17, .t 19, .t 20], none⟩,
   ⟨(some 22), (.eqN 0 true), [.t 21, .c .nilsl], none⟩] [6, 22])
 (.cond (.t 22)
  (.seq (.reg [⟨(some 2), .mv, [.c .nilsl], none⟩,
    ⟨(some 3), .mv, [.c .nilsl], none⟩,
    ⟨(some 4), .mv, [.c (.b false)], none⟩,
    ⟨(some 5), .mv, [.c (.i .i64 0)], none⟩] [2, 3, 4, 5])
  .ret)
  .skip))
 (.seq (.reg [⟨(some 23), .mv, [.t 6], none⟩,
   ⟨(some 24), (.call (.pu [])), [.c (.fn 72 [] []), .t 23], none⟩,
   ⟨(some 8), (.alloc (List.replicate 10 (.i .i64 0)) true), [], none⟩,
   ⟨none, (.st 10), [.t 8, .t 24], none⟩] [6, 8])
 (.seq (.regd [⟨(some 25), (.fadr 0 5 true), [.t 8], none⟩,
   ⟨(some 26), .mv, [.t 6], none⟩,
   ⟨(some 27), .nilck, [.t 26], none⟩,
   ⟨(some 28), (.fadr 0 1 false), [.t 27], none⟩,
   ⟨(some 29), (.ld 1 false), [.t 28], none⟩,
   ⟨(some 30), (.slcA false true false 5 1 false), [.t 25, .t 29], none⟩,
   ⟨(some 31), (.call .sh), [.c (.fn 73 [] []), .t 30], none⟩,
   ⟨(some 32), (.fadr 5 5 true), [.t 8], none⟩,
   ⟨(some 33), .mv, [.t 6], none⟩,
   ⟨(some 34), .nilck, [.t 33], none⟩,
   ⟨(some 35), (.fadr 0 1 false), [.t 34], none⟩,
   ⟨(some 36), (.ld 1 false), [.t 35], none⟩,
   ⟨(some 37), (.slcA false true false 5 1 false), [.t 32, .t 36], none⟩,
   ⟨(some 38), (.call .sh), [.c (.fn 73 [] []), .t 37], none⟩,
   ⟨(some 2), .mv, [.t 31], none⟩,
   ⟨(some 3), .mv, [.t 38], none⟩,
   ⟨(some 4), .mv, [.c (.b true)], none⟩,
   ⟨(some 5), .mv, [.c (.i .i64 0)], none⟩] [2, 3, 4, 5] [(6, 11), (6, 12)])
 .ret))))))

def d35 : DFun := ⟨1, 39, c35, [.t 2, .t 3, .t 4, .t 5]⟩

theorem ok35 : Fok Tryd.prog 35 d35 := ⟨Tryd.f35, Tryd.func35, by kernel_rfl, by kernel_rfl⟩

-- bibelot/bibelotlaw09.tables
def b36_0 : DC :=
 (.seq (.seq (.reg [⟨(some 11), .mv, [.t 5], none⟩,
   ⟨(some 12), .mv, [.t 0], none⟩,
   ⟨(some 13), (.len 0), [.t 12], none⟩,
   ⟨(some 14), (.binI .lss), [.t 11, .t 13], none⟩] [0, 1, 5, 14])
 (.cond (.t 14)
  .skip
  (.exit 0)))
 (.seq (.block 1
  (.seq (.reg [⟨(some 17), .mv, [.t 0], none⟩,
    ⟨(some 18), .mv, [.t 5], none⟩,
    ⟨(some 19), (.ixS 1 false), [.t 17, .t 18], none⟩,
    ⟨(some 20), (.ld 1 false), [.t 19], none⟩,
    ⟨(some 21), .mv, [.t 1], none⟩,
    ⟨(some 22), .mv, [.t 5], none⟩,
    ⟨(some 23), (.ixS 1 false), [.t 21, .t 22], none⟩,
    ⟨(some 24), (.ld 1 false), [.t 23], none⟩,
    ⟨(some 25), (.call (.pu [])), [.c (.fn 22 [] []), .t 20, .t 24], none⟩,
    ⟨(some 26), .notB, [.t 25], none⟩] [0, 1, 5, 26])
  (.cond (.t 26)
   (.seq (.reg [⟨(some 4), .mv, [.c (.b false)], none⟩] [4])
   .ret)
   .skip)))
 (.reg [⟨(some 15), .mv, [.t 5], none⟩,
   ⟨(some 16), (.binI .add), [.t 15, .c (.i .i64 1)], none⟩,
   ⟨(some 5), .mv, [.t 16], none⟩] [0, 1, 5])))

def l36_1 : DC :=
 (.loop [0, 1, 5] b36_0)

def c36 : DC :=
 (.seq (.reg [⟨(some 4), .mv, [.c (.b false)], none⟩] [0, 1])
 (.seq (.seq (.reg [⟨(some 6), .mv, [.t 0], none⟩,
   ⟨(some 7), (.len 0), [.t 6], none⟩,
   ⟨(some 8), .mv, [.t 1], none⟩,
   ⟨(some 9), (.len 0), [.t 8], none⟩,
   ⟨(some 10), (.binI .neq), [.t 7, .t 9], none⟩] [0, 1, 10])
 (.cond (.t 10)
  (.seq (.reg [⟨(some 4), .mv, [.c (.b false)], none⟩] [4])
  .ret)
  .skip))
 (.seq (.seq (.reg [⟨(some 5), .mv, [.c (.i .i64 0)], none⟩] [0, 1, 5])
 (.block 0
  l36_1))
 (.seq (.reg [⟨(some 4), .mv, [.c (.b true)], none⟩] [4])
 .ret))))

def d36 : DFun := ⟨2, 27, c36, [.t 4]⟩

theorem ok36 : Fok Tryd.prog 36 d36 := ⟨Tryd.f36, Tryd.func36, by kernel_rfl, by kernel_rfl⟩

-- bibelot/bibelotref09.Costs
def b37_0 : DC :=
 (.seq (.seq (.reg [⟨(some 13), .mv, [.t 6], none⟩,
   ⟨(some 14), .mv, [.t 0], none⟩,
   ⟨(some 15), (.len 0), [.t 14], none⟩,
   ⟨(some 16), (.binI .lss), [.t 13, .t 15], none⟩] [0, 3, 4, 5, 6, 16])
 (.cond (.t 16)
  .skip
  (.exit 2)))
 (.seq (.block 3
  (.reg [⟨(some 19), .mv, [.t 5], none⟩,
    ⟨(some 20), .mv, [.t 0], none⟩,
    ⟨(some 21), .mv, [.t 4], none⟩,
    ⟨(some 22), (.ixS 2 true), [.t 20, .t 21], none⟩,
    ⟨(some 23), (.fadr 0 1 false), [.t 22], none⟩,
    ⟨(some 24), (.ld 1 false), [.t 23], none⟩,
    ⟨(some 25), .mv, [.t 0], none⟩,
    ⟨(some 26), .mv, [.t 6], none⟩,
    ⟨(some 27), (.ixS 2 true), [.t 25, .t 26], none⟩,
    ⟨(some 28), (.fadr 1 1 false), [.t 27], none⟩,
    ⟨(some 29), (.ld 1 false), [.t 28], none⟩,
    ⟨(some 30), (.call (.pu [])), [.c (.fn 46 [] []), .t 24, .t 29], none⟩,
    ⟨(some 31), (.bsl false [(.i .i64 0)] false 1 [0]), [.t 30], none⟩,
    ⟨(some 32), (.app 1 false 8), [.t 19, .t 31], none⟩,
    ⟨(some 5), .mv, [.t 32], none⟩] [0, 3, 4, 5, 6]))
 (.reg [⟨(some 17), .mv, [.t 6], none⟩,
   ⟨(some 18), (.binI .add), [.t 17, .c (.i .i64 1)], none⟩,
   ⟨(some 6), .mv, [.t 18], none⟩] [0, 3, 4, 5, 6])))

def l37_1 : DC :=
 (.loop [0, 3, 4, 5, 6] b37_0)

def b37_2 : DC :=
 (.seq (.seq (.reg [⟨(some 7), .mv, [.t 4], none⟩,
   ⟨(some 8), .mv, [.t 0], none⟩,
   ⟨(some 9), (.len 0), [.t 8], none⟩,
   ⟨(some 10), (.binI .lss), [.t 7, .t 9], none⟩] [0, 3, 4, 10])
 (.cond (.t 10)
  .skip
  (.exit 0)))
 (.seq (.block 1
  (.seq (.reg [⟨(some 5), .mv, [.c .nilsl], none⟩] [0, 3, 4, 5])
  (.seq (.seq (.reg [⟨(some 6), .mv, [.c (.i .i64 0)], none⟩] [0, 3, 4, 5, 6])
  (.block 2
   l37_1))
  (.reg [⟨(some 33), .mv, [.t 3], none⟩,
    ⟨(some 34), .mv, [.t 5], none⟩,
    ⟨(some 35), (.bsl false [.nilsl] false 1 [0]), [.t 34], none⟩,
    ⟨(some 36), (.app 1 false 24), [.t 33, .t 35], none⟩,
    ⟨(some 3), .mv, [.t 36], none⟩] [0, 3, 4]))))
 (.reg [⟨(some 11), .mv, [.t 4], none⟩,
   ⟨(some 12), (.binI .add), [.t 11, .c (.i .i64 1)], none⟩,
   ⟨(some 4), .mv, [.t 12], none⟩] [0, 3, 4])))

def l37_3 : DC :=
 (.loop [0, 3, 4] b37_2)

def c37 : DC :=
 (.seq (.reg [⟨(some 2), .mv, [.c .nilsl], none⟩] [0])
 (.seq (.reg [⟨(some 3), .mv, [.c .nilsl], none⟩] [0, 3])
 (.seq (.seq (.reg [⟨(some 4), .mv, [.c (.i .i64 0)], none⟩] [0, 3, 4])
 (.block 0
  l37_3))
 (.seq (.reg [⟨(some 37), .mv, [.t 3], none⟩,
   ⟨(some 2), .mv, [.t 37], none⟩] [2])
 .ret))))

def d37 : DFun := ⟨1, 38, c37, [.t 2]⟩

theorem ok37 : Fok Tryd.prog 37 d37 := ⟨Tryd.f37, Tryd.func37, by kernel_rfl, by kernel_rfl⟩

-- bibelot/price.Prefers
def c39 : DC :=
 (.seq (.reg [⟨(some 6), (.alloc [(.i .i64 0), (.i .i64 0), (.i .i64 0), (.i .i64 0)] true), [], none⟩,
   ⟨(some 7), .mv, [.c (.i .i64 0)], none⟩] [0, 1, 2, 6])
 (.seq (.reg [⟨(some 13), .mv, [.t 0], none⟩,
   ⟨(some 14), .mv, [.t 1], none⟩,
   ⟨(some 15), .mv, [.t 2], none⟩,
   ⟨(some 16), (.bsl false [(.i .i64 0)] false 2 [0, 1]), [.t 14, .t 15], none⟩,
   ⟨(some 17), (.call .sh), [.c (.fn 53 [] []), .t 13, .t 16], none⟩,
   ⟨(some 12), .mv, [.t 17], none⟩,
   ⟨(some 18), (.ext 0), [.t 12], none⟩,
   ⟨(some 19), (.ext 1), [.t 12], none⟩,
   ⟨(some 8), .mv, [.t 18], none⟩,
   ⟨(some 9), .mv, [.t 19], none⟩] [1, 2, 6, 8, 9])
 (.seq (.seq (.reg [⟨(some 20), .mv, [.t 9], none⟩,
   ⟨(some 21), (.binI .neq), [.t 20, .c (.i .i64 0)], none⟩] [1, 2, 6, 8, 9, 21])
 (.cond (.t 21)
  (.seq (.reg [⟨(some 22), (.build [(.i .i64 0), (.i .i64 0), (.i .i64 0), (.i .i64 0)] []), [], none⟩,
    ⟨(some 23), .mv, [.t 9], none⟩,
    ⟨none, (.st 4), [.t 6, .t 22], none⟩,
    ⟨(some 7), .mv, [.t 23], none⟩] [6, 7])
  .ret)
  .skip))
 (.seq (.reg [⟨(some 24), .mv, [.t 8], none⟩,
   ⟨(some 25), .mv, [.t 2], none⟩,
   ⟨(some 26), .mv, [.t 1], none⟩,
   ⟨(some 27), .nilck, [.t 24], none⟩,
   ⟨(some 28), (.fadr 1 25 true), [.t 27], none⟩,
   ⟨(some 29), (.ixA 5 5 true), [.t 28, .t 25], none⟩,
   ⟨(some 30), (.ixA 5 1 false), [.t 29, .t 26], none⟩,
   ⟨(some 31), (.ld 1 false), [.t 30], none⟩,
   ⟨(some 32), .mv, [.t 8], none⟩,
   ⟨(some 33), .mv, [.t 1], none⟩,
   ⟨(some 34), .mv, [.t 1], none⟩,
   ⟨(some 35), .nilck, [.t 32], none⟩,
   ⟨(some 36), (.fadr 1 25 true), [.t 35], none⟩,
   ⟨(some 37), (.ixA 5 5 true), [.t 36, .t 33], none⟩,
   ⟨(some 38), (.ixA 5 1 false), [.t 37, .t 34], none⟩,
   ⟨(some 39), (.ld 1 false), [.t 38], none⟩,
   ⟨(some 40), (.build [(.i .i64 0), (.i .i64 0)] [(0, 1), (1, 1)]), [.t 31, .t 39], none⟩,
   ⟨(some 41), (.call (.pu [])), [.c (.fn 54 [] []), .t 40], none⟩,
   ⟨(some 10), (.alloc [(.i .i64 0), (.i .i64 0)] true), [], none⟩,
   ⟨none, (.st 2), [.t 10, .t 41], none⟩] [1, 2, 6, 8, 10])
 (.seq (.reg [⟨(some 42), .mv, [.t 8], none⟩,
   ⟨(some 43), .mv, [.t 2], none⟩,
   ⟨(some 44), .mv, [.t 2], none⟩,
   ⟨(some 45), .nilck, [.t 42], none⟩,
   ⟨(some 46), (.fadr 1 25 true), [.t 45], none⟩,
   ⟨(some 47), (.ixA 5 5 true), [.t 46, .t 43], none⟩,
   ⟨(some 48), (.ixA 5 1 false), [.t 47, .t 44], none⟩,
   ⟨(some 49), (.ld 1 false), [.t 48], none⟩,
   ⟨(some 50), .mv, [.t 8], none⟩,
   ⟨(some 51), .mv, [.t 1], none⟩,
   ⟨(some 52), .mv, [.t 2], none⟩,
   ⟨(some 53), .nilck, [.t 50], none⟩,
   ⟨(some 54), (.fadr 1 25 true), [.t 53], none⟩,
   ⟨(some 55), (.ixA 5 5 true), [.t 54, .t 51], none⟩,
   ⟨(some 56), (.ixA 5 1 false), [.t 55, .t 52], none⟩,
   ⟨(some 57), (.ld 1 false), [.t 56], none⟩,
   ⟨(some 58), (.build [(.i .i64 0), (.i .i64 0)] [(0, 1), (1, 1)]), [.t 49, .t 57], none⟩,
   ⟨(some 59), (.call (.pu [])), [.c (.fn 54 [] []), .t 58], none⟩,
   ⟨(some 11), (.alloc [(.i .i64 0), (.i .i64 0)] true), [], none⟩,
   ⟨none, (.st 2), [.t 11, .t 59], none⟩] [6, 10, 11])
 (.seq (.reg [⟨(some 60), (.fadr 0 1 false), [.t 10], none⟩,
   ⟨(some 61), (.ld 1 false), [.t 60], none⟩,
   ⟨(some 62), (.fadr 1 1 false), [.t 10], none⟩,
   ⟨(some 63), (.ld 1 false), [.t 62], none⟩,
   ⟨(some 64), (.fadr 0 1 false), [.t 11], none⟩,
   ⟨(some 65), (.ld 1 false), [.t 64], none⟩,
   ⟨(some 66), (.fadr 1 1 false), [.t 11], none⟩,
   ⟨(some 67), (.ld 1 false), [.t 66], none⟩,
   ⟨(some 68), (.build [(.i .i64 0), (.i .i64 0), (.i .i64 0), (.i .i64 0)] [(0, 1), (1, 1), (2, 1), (3, 1)]), [.t 61, .t 63, .t 65, .t 67], none⟩,
   ⟨none, (.st 4), [.t 6, .t 68], none⟩,
   ⟨(some 7), .mv, [.c (.i .i64 0)], none⟩] [6, 7])
 .ret))))))

def d39 : DFun := ⟨3, 69, c39, [.c 6 4 true, .t 7]⟩

theorem ok39 : Fok Tryd.prog 39 d39 := ⟨Tryd.f39, Tryd.func39, by kernel_rfl, by kernel_rfl⟩

-- bibelot/price.Better
def b46_0 : DC :=
 (.seq (.seq (.reg [⟨(some 7), .mv, [.t 6], none⟩,
   ⟨(some 8), .mv, [.t 0], none⟩,
   ⟨(some 9), (.len 0), [.t 8], none⟩,
   ⟨(some 10), (.binI .lss), [.t 7, .t 9], none⟩] [0, 1, 5, 6, 10])
 (.cond (.t 10)
  .skip
  (.exit 0)))
 (.seq (.block 1
  (.reg [⟨(some 13), .mv, [.t 5], none⟩,
    ⟨(some 14), .mv, [.t 0], none⟩,
    ⟨(some 15), .mv, [.t 6], none⟩,
    ⟨(some 16), (.ixS 1 false), [.t 14, .t 15], none⟩,
    ⟨(some 17), (.ld 1 false), [.t 16], none⟩,
    ⟨(some 18), .mv, [.t 1], none⟩,
    ⟨(some 19), .mv, [.t 6], none⟩,
    ⟨(some 20), (.ixS 1 false), [.t 18, .t 19], none⟩,
    ⟨(some 21), (.ld 1 false), [.t 20], none⟩,
    ⟨(some 22), (.binI .mul), [.t 17, .t 21], none⟩,
    ⟨(some 23), (.binI .add), [.t 13, .t 22], none⟩,
    ⟨(some 5), .mv, [.t 23], none⟩] [0, 1, 5, 6]))
 (.reg [⟨(some 11), .mv, [.t 6], none⟩,
   ⟨(some 12), (.binI .add), [.t 11, .c (.i .i64 1)], none⟩,
   ⟨(some 6), .mv, [.t 12], none⟩] [0, 1, 5, 6])))

def l46_1 : DC :=
 (.loop [0, 1, 5, 6] b46_0)

def c46 : DC :=
 (.seq (.reg [⟨(some 4), .mv, [.c (.i .i64 0)], none⟩] [0, 1])
 (.seq (.reg [⟨(some 5), .mv, [.c (.i .i64 0)], none⟩] [0, 1, 5])
 (.seq (.seq (.reg [⟨(some 6), .mv, [.c (.i .i64 0)], none⟩] [0, 1, 5, 6])
 (.block 0
  l46_1))
 (.seq (.reg [⟨(some 24), .mv, [.t 5], none⟩,
   ⟨(some 4), .mv, [.t 24], none⟩] [4])
 .ret))))

def d46 : DFun := ⟨2, 25, c46, [.t 4]⟩

theorem ok46 : Fok Tryd.prog 46 d46 := ⟨Tryd.f46, Tryd.func46, by kernel_rfl, by kernel_rfl⟩

-- bibelot/bibelotlaw09.longs
def b52_0 : DC :=
 (.seq (.reg [⟨(some 28), (.binI .lss), [.t 27, .t 26], none⟩] [3, 25, 26, 27, 28])
 (.seq (.cond (.t 28)
  .skip
  (.exit 0))
 (.seq (.block 1
  (.seq (.reg [⟨(some 29), (.ixS 2 true), [.t 25, .t 27], none⟩,
    ⟨(some 30), (.ld 2 true), [.t 29], none⟩,
    ⟨(some 5), (.alloc [.nilsl, .nilsl] true), [], none⟩,
    ⟨none, (.st 2), [.t 5, .t 30], none⟩] [3, 5, 25, 26, 27])
  (.seq (.reg [⟨(some 31), (.fadr 0 1 false), [.t 5], none⟩,
    ⟨(some 32), (.ld 1 false), [.t 31], none⟩,
    ⟨(some 33), (.len 0), [.t 32], none⟩,
    ⟨(some 34), .mv, [.t 3], none⟩,
    ⟨(some 35), (.binI .neq), [.t 33, .t 34], none⟩,
    ⟨(some 36), .mv, [.t 35], none⟩,
    ⟨(some 37), (.fadr 1 1 false), [.t 5], (some (36, false))⟩,
    ⟨(some 38), (.ld 1 false), [.t 37], (some (36, false))⟩,
    ⟨(some 39), (.len 0), [.t 38], (some (36, false))⟩,
    ⟨(some 40), .mv, [.t 3], (some (36, false))⟩,
    ⟨(some 41), (.binI .neq), [.t 39, .t 40], (some (36, false))⟩,
    ⟨(some 42), .pick, [.t 36, .c (.b true), .t 41], none⟩,
    ⟨(some 43), .mv, [.t 42], none⟩,
    ⟨(some 44), (.fadr 0 1 false), [.t 5], (some (43, false))⟩,
    ⟨(some 45), (.ld 1 false), [.t 44], (some (43, false))⟩,
    ⟨(some 46), (.call (.pu [])), [.c (.fn 76 [] []), .t 45, .c (.i .i64 1), .c (.i .i64 20)], (some (43, false))⟩,
    ⟨(some 47), .notB, [.t 46], (some (43, false))⟩,
    ⟨(some 48), .pick, [.t 43, .c (.b true), .t 47], none⟩,
    ⟨(some 49), .mv, [.t 48], none⟩,
    ⟨(some 50), (.fadr 1 1 false), [.t 5], (some (49, false))⟩,
    ⟨(some 51), (.ld 1 false), [.t 50], (some (49, false))⟩,
    ⟨(some 52), (.call (.pu [])), [.c (.fn 76 [] []), .t 51, .c (.i .i64 0), .c (.i .i64 20)], (some (49, false))⟩,
    ⟨(some 53), .notB, [.t 52], (some (49, false))⟩,
    ⟨(some 54), .pick, [.t 49, .c (.b true), .t 53], none⟩,
    ⟨(some 55), .mv, [.t 54], none⟩,
    ⟨(some 56), (.fadr 1 1 false), [.t 5], (some (55, false))⟩,
    ⟨(some 57), (.ld 1 false), [.t 56], (some (55, false))⟩,
    ⟨(some 58), (.call (.pu [])), [.c (.fn 79 [] []), .t 57], (some (55, false))⟩,
    ⟨(some 59), (.binI .eql), [.t 58, .c (.i .i64 0)], (some (55, false))⟩,
    ⟨(some 60), .pick, [.t 55, .c (.b true), .t 59], none⟩] [3, 25, 26, 27, 60])
  (.cond (.t 60)
   (.seq (.reg [⟨(some 2), .mv, [.c (.i .i64 90)], none⟩] [2])
   .ret)
   .skip))))
 (.reg [⟨(some 61), (.binI .add), [.t 27, .c (.i .i64 1)], none⟩,
   ⟨(some 27), .mv, [.t 61], none⟩] [3, 25, 26, 27]))))

def l52_1 : DC :=
 (.loop [3, 25, 26, 27] b52_0)

def c52 : DC :=
 (.seq (.reg [⟨(some 2), .mv, [.c (.i .i64 0)], none⟩] [0])
 (.seq (.seq (.reg [⟨(some 6), .mv, [.t 0], none⟩,
   ⟨(some 7), (.len 0), [.t 6], none⟩,
   ⟨(some 8), (.binI .lss), [.t 7, .c (.i .i64 1)], none⟩,
   ⟨(some 9), .mv, [.t 8], none⟩,
   ⟨(some 10), .mv, [.t 0], (some (9, false))⟩,
   ⟨(some 11), (.len 0), [.t 10], (some (9, false))⟩,
   ⟨(some 12), (.binI .gtr), [.t 11, .c (.i .i64 5)], (some (9, false))⟩,
   ⟨(some 13), .pick, [.t 9, .c (.b true), .t 12], none⟩] [0, 13])
 (.cond (.t 13)
  (.seq (.reg [⟨(some 2), .mv, [.c (.i .i64 90)], none⟩] [2])
  .ret)
  .skip))
 (.seq (.reg [⟨(some 14), .mv, [.t 0], none⟩,
   ⟨(some 15), (.ixS 2 true), [.t 14, .c (.i .i64 0)], none⟩,
   ⟨(some 16), (.fadr 0 1 false), [.t 15], none⟩,
   ⟨(some 17), (.ld 1 false), [.t 16], none⟩,
   ⟨(some 18), (.len 0), [.t 17], none⟩,
   ⟨(some 3), .mv, [.t 18], none⟩] [0, 3])
 (.seq (.seq (.reg [⟨(some 19), .mv, [.t 3], none⟩,
   ⟨(some 20), (.binI .lss), [.t 19, .c (.i .i64 1)], none⟩,
   ⟨(some 21), .mv, [.t 20], none⟩,
   ⟨(some 22), .mv, [.t 3], (some (21, false))⟩,
   ⟨(some 23), (.binI .gtr), [.t 22, .c (.i .i64 3)], (some (21, false))⟩,
   ⟨(some 24), .pick, [.t 21, .c (.b true), .t 23], none⟩] [0, 3, 24])
 (.cond (.t 24)
  (.seq (.reg [⟨(some 2), .mv, [.c (.i .i64 90)], none⟩] [2])
  .ret)
  .skip))
 (.seq (.seq (.reg [⟨(some 25), .mv, [.t 0], none⟩,
   ⟨(some 26), (.len 0), [.t 25], none⟩,
   ⟨(some 27), .mv, [.c (.i .i64 0)], none⟩] [3, 25, 26, 27])
 (.block 0
  l52_1))
 (.seq (.reg [⟨(some 2), .mv, [.c (.i .i64 0)], none⟩] [2])
 .ret))))))

def d52 : DFun := ⟨1, 62, c52, [.t 2]⟩

theorem ok52 : Fok Tryd.prog 52 d52 := ⟨Tryd.f52, Tryd.func52, by kernel_rfl, by kernel_rfl⟩

-- bibelot/price.open
def b53_0 : DC :=
 (.seq (.reg [⟨(some 37), (.binI .lss), [.t 36, .t 35], none⟩] [0, 7, 8, 9, 27, 28, 29, 34, 35, 36, 37])
 (.seq (.cond (.t 37)
  .skip
  (.exit 2))
 (.seq (.block 3
  (.seq (.reg [⟨(some 38), .mv, [.t 36], none⟩,
    ⟨(some 39), (.ixS 2 true), [.t 34, .t 36], none⟩,
    ⟨(some 40), (.ld 2 true), [.t 39], none⟩,
    ⟨(some 11), (.alloc [.nilsl, .nilsl] true), [], none⟩,
    ⟨(some 10), .mv, [.t 38], none⟩,
    ⟨none, (.st 2), [.t 11, .t 40], none⟩] [0, 7, 8, 9, 10, 11, 27, 28, 29, 34, 35, 36])
  (.reg [⟨(some 41), .mv, [.t 7], none⟩,
    ⟨(some 42), .mv, [.t 8], none⟩,
    ⟨(some 43), .mv, [.t 10], none⟩,
    ⟨(some 44), (.fadr 0 1 false), [.t 9], none⟩,
    ⟨(some 45), (.ld 1 false), [.t 44], none⟩,
    ⟨(some 46), (.fadr 1 1 false), [.t 11], none⟩,
    ⟨(some 47), (.ld 1 false), [.t 46], none⟩,
    ⟨(some 48), (.call (.pu [])), [.c (.fn 77 [] []), .t 45, .t 47], none⟩,
    ⟨(some 49), .nilck, [.t 41], none⟩,
    ⟨(some 50), (.fadr 1 25 true), [.t 49], none⟩,
    ⟨(some 51), (.ixA 5 5 true), [.t 50, .t 42], none⟩,
    ⟨(some 52), (.ixA 5 1 false), [.t 51, .t 43], none⟩,
    ⟨none, (.st 1), [.t 52, .t 48], none⟩] [0, 7, 8, 9, 27, 28, 29, 34, 35, 36])))
 (.reg [⟨(some 53), (.binI .add), [.t 36, .c (.i .i64 1)], none⟩,
   ⟨(some 36), .mv, [.t 53], none⟩] [0, 7, 8, 9, 27, 28, 29, 34, 35, 36]))))

def l53_1 : DC :=
 (.loop [0, 7, 8, 9, 27, 28, 29, 34, 35, 36] b53_0)

def b53_2 : DC :=
 (.seq (.reg [⟨(some 30), (.binI .lss), [.t 29, .t 28], none⟩] [0, 7, 27, 28, 29, 30])
 (.seq (.cond (.t 30)
  .skip
  (.exit 0))
 (.seq (.block 1
  (.seq (.reg [⟨(some 31), .mv, [.t 29], none⟩,
    ⟨(some 32), (.ixS 2 true), [.t 27, .t 29], none⟩,
    ⟨(some 33), (.ld 2 true), [.t 32], none⟩,
    ⟨(some 9), (.alloc [.nilsl, .nilsl] true), [], none⟩,
    ⟨(some 8), .mv, [.t 31], none⟩,
    ⟨none, (.st 2), [.t 9, .t 33], none⟩] [0, 7, 8, 9, 27, 28, 29])
  (.seq (.reg [⟨(some 34), .mv, [.t 0], none⟩,
    ⟨(some 35), (.len 0), [.t 34], none⟩,
    ⟨(some 36), .mv, [.c (.i .i64 0)], none⟩] [0, 7, 8, 9, 27, 28, 29, 34, 35, 36])
  (.block 2
   l53_1))))
 (.reg [⟨(some 54), (.binI .add), [.t 29, .c (.i .i64 1)], none⟩,
   ⟨(some 29), .mv, [.t 54], none⟩] [0, 7, 27, 28, 29]))))

def l53_3 : DC :=
 (.loop [0, 7, 27, 28, 29] b53_2)

def c53 : DC :=
 (.seq (.reg [⟨(some 4), .mv, [.c .nilp], none⟩,
   ⟨(some 5), .mv, [.c (.i .i64 0)], none⟩] [0, 1])
 (.seq (.seq (.reg [⟨(some 12), .mv, [.t 0], none⟩,
   ⟨(some 13), (.call (.pu [])), [.c (.fn 52 [] []), .t 12], none⟩,
   ⟨(some 6), .mv, [.t 13], none⟩] [0, 1, 6])
 (.seq (.reg [⟨(some 14), .mv, [.t 6], none⟩,
   ⟨(some 15), (.binI .neq), [.t 14, .c (.i .i64 0)], none⟩] [0, 1, 6, 15])
 (.cond (.t 15)
  (.seq (.reg [⟨(some 16), .mv, [.t 6], none⟩,
    ⟨(some 4), .mv, [.c .nilp], none⟩,
    ⟨(some 5), .mv, [.t 16], none⟩] [4, 5])
  .ret)
  .skip)))
 (.seq (.seq (.reg [⟨(some 17), .mv, [.t 1], none⟩,
   ⟨(some 18), .mv, [.t 0], none⟩,
   ⟨(some 19), (.len 0), [.t 18], none⟩,
   ⟨(some 20), (.binI .sub), [.t 19, .c (.i .i64 1)], none⟩,
   ⟨(some 21), (.call (.pu [])), [.c (.fn 76 [] []), .t 17, .c (.i .i64 0), .t 20], none⟩,
   ⟨(some 22), .notB, [.t 21], none⟩] [0, 22])
 (.cond (.t 22)
  (.seq (.reg [⟨(some 4), .mv, [.c .nilp], none⟩,
    ⟨(some 5), .mv, [.c (.i .i64 1)], none⟩] [4, 5])
  .ret)
  .skip))
 (.seq (.reg [⟨(some 23), .mv, [.t 0], none⟩,
   ⟨(some 24), (.len 0), [.t 23], none⟩,
   ⟨(some 25), (.build (List.replicate 26 (.i .i64 0)) [(0, 1)]), [.t 24], none⟩,
   ⟨(some 26), (.box true), [.t 25], none⟩,
   ⟨(some 7), .mv, [.t 26], none⟩] [0, 7])
 (.seq (.seq (.reg [⟨(some 27), .mv, [.t 0], none⟩,
   ⟨(some 28), (.len 0), [.t 27], none⟩,
   ⟨(some 29), .mv, [.c (.i .i64 0)], none⟩] [0, 7, 27, 28, 29])
 (.block 0
  l53_3))
 (.seq (.reg [⟨(some 55), .mv, [.t 7], none⟩,
   ⟨(some 4), .mv, [.t 55], none⟩,
   ⟨(some 5), .mv, [.c (.i .i64 0)], none⟩] [4, 5])
 .ret))))))

def d53 : DFun := ⟨2, 56, c53, [.t 4, .t 5]⟩

theorem ok53 : Fok Tryd.prog 53 d53 := ⟨Tryd.f53, Tryd.func53, by kernel_rfl, by kernel_rfl⟩

-- bibelot/price.lowest
def b54_0 : DC :=
 (.seq (.seq (.reg [⟨(some 9), .mv, [.t 4], none⟩,
   ⟨(some 10), (.binI .neq), [.t 9, .c (.i .i64 0)], none⟩] [1, 2, 3, 4, 10])
 (.cond (.t 10)
  .skip
  (.exit 0)))
 (.block 1
  (.reg [⟨(some 11), .mv, [.t 4], none⟩,
    ⟨(some 12), .mv, [.t 3], none⟩,
    ⟨(some 13), .mv, [.t 4], none⟩,
    ⟨(some 14), (.binI .rem), [.t 12, .t 13], none⟩,
    ⟨(some 3), .mv, [.t 11], none⟩,
    ⟨(some 4), .mv, [.t 14], none⟩] [1, 2, 3, 4])))

def l54_1 : DC :=
 (.loop [1, 2, 3, 4] b54_0)

def c54 : DC :=
 (.seq (.reg [⟨(some 1), (.box true), [.t 0], none⟩,
   ⟨(some 2), (.alloc [(.i .i64 0), (.i .i64 0)] true), [], none⟩] [1, 2])
 (.seq (.reg [⟨(some 5), (.fadr 0 1 false), [.t 1], none⟩,
   ⟨(some 6), (.ld 1 false), [.t 5], none⟩,
   ⟨(some 7), (.fadr 1 1 false), [.t 1], none⟩,
   ⟨(some 8), (.ld 1 false), [.t 7], none⟩,
   ⟨(some 3), .mv, [.t 6], none⟩,
   ⟨(some 4), .mv, [.t 8], none⟩] [1, 2, 3, 4])
 (.seq (.block 0
  l54_1)
 (.seq (.reg [⟨(some 15), (.fadr 0 1 false), [.t 1], none⟩,
   ⟨(some 16), (.ld 1 false), [.t 15], none⟩,
   ⟨(some 17), .mv, [.t 3], none⟩,
   ⟨(some 18), (.binI .quo), [.t 16, .t 17], none⟩,
   ⟨(some 19), (.fadr 1 1 false), [.t 1], none⟩,
   ⟨(some 20), (.ld 1 false), [.t 19], none⟩,
   ⟨(some 21), .mv, [.t 3], none⟩,
   ⟨(some 22), (.binI .quo), [.t 20, .t 21], none⟩,
   ⟨(some 23), (.build [(.i .i64 0), (.i .i64 0)] [(0, 1), (1, 1)]), [.t 18, .t 22], none⟩,
   ⟨none, (.st 2), [.t 2, .t 23], none⟩] [2])
 .ret))))

def d54 : DFun := ⟨1, 24, c54, [.c 2 2 true]⟩

theorem ok54 : Fok Tryd.prog 54 d54 := ⟨Tryd.f54, Tryd.func54, by kernel_rfl, by kernel_rfl⟩

-- bibelot/price.less
def c55 : DC :=
 (.seq (.reg [⟨(some 2), (.box true), [.t 0], none⟩,
   ⟨(some 3), (.box true), [.t 1], none⟩,
   ⟨(some 4), .mv, [.c (.b false)], none⟩] [2, 3])
 (.seq (.reg [⟨(some 5), (.ld 2 true), [.t 2], none⟩,
   ⟨(some 6), (.ld 2 true), [.t 3], none⟩,
   ⟨(some 7), (.eqA true [true, true]), [.t 5, .t 6], none⟩,
   ⟨(some 8), .mv, [.t 7], none⟩,
   ⟨(some 9), (.fadr 0 1 false), [.t 2], (some (8, true))⟩,
   ⟨(some 10), (.ld 1 false), [.t 9], (some (8, true))⟩,
   ⟨(some 11), (.fadr 1 1 false), [.t 3], (some (8, true))⟩,
   ⟨(some 12), (.ld 1 false), [.t 11], (some (8, true))⟩,
   ⟨(some 13), (.binI .mul), [.t 10, .t 12], (some (8, true))⟩,
   ⟨(some 14), (.fadr 0 1 false), [.t 3], (some (8, true))⟩,
   ⟨(some 15), (.ld 1 false), [.t 14], (some (8, true))⟩,
   ⟨(some 16), (.fadr 1 1 false), [.t 2], (some (8, true))⟩,
   ⟨(some 17), (.ld 1 false), [.t 16], (some (8, true))⟩,
   ⟨(some 18), (.binI .mul), [.t 15, .t 17], (some (8, true))⟩,
   ⟨(some 19), (.binI .lss), [.t 13, .t 18], (some (8, true))⟩,
   ⟨(some 20), .pick, [.t 8, .t 19, .c (.b false)], none⟩,
   ⟨(some 4), .mv, [.t 20], none⟩] [4])
 .ret))

def d55 : DFun := ⟨2, 21, c55, [.t 4]⟩

theorem ok55 : Fok Tryd.prog 55 d55 := ⟨Tryd.f55, Tryd.func55, by kernel_rfl, by kernel_rfl⟩

-- (*bibelot/price.market).way
def b56_0 : DC :=
 (.seq (.reg [⟨(some 42), (.binI .lss), [.t 41, .t 40], none⟩] [0, 1, 2, 3, 9, 11, 12, 13, 40, 41, 42])
 (.seq (.cond (.t 42)
  .skip
  (.exit 2))
 (.seq (.block 3
  (.seq (.reg [⟨(some 43), .mv, [.t 41], none⟩,
    ⟨(some 14), .mv, [.t 43], none⟩] [0, 1, 2, 3, 9, 11, 12, 13, 14, 40, 41])
  (.seq (.reg [⟨(some 45), .mv, [.t 11], none⟩,
    ⟨(some 46), .mv, [.t 14], none⟩,
    ⟨(some 47), (.lkp .int (.i .i64 0) true), [.t 45, .t 46], none⟩,
    ⟨(some 44), .mv, [.t 47], none⟩,
    ⟨(some 48), (.ext 0), [.t 44], none⟩,
    ⟨(some 49), (.ext 1), [.t 44], none⟩,
    ⟨(some 15), .mv, [.t 48], none⟩,
    ⟨(some 16), .mv, [.t 49], none⟩] [0, 1, 2, 3, 9, 11, 12, 13, 14, 16, 40, 41])
  (.seq (.reg [⟨(some 50), .mv, [.t 16], none⟩,
    ⟨(some 51), .notB, [.t 50], none⟩,
    ⟨(some 52), .mv, [.t 51], none⟩,
    ⟨(some 53), .mv, [.t 3], (some (52, true))⟩,
    ⟨(some 54), .mv, [.t 14], (some (52, true))⟩,
    ⟨(some 55), (.conv .u64), [.t 54], (some (52, true))⟩,
    ⟨(some 56), (.binI .shr), [.t 53, .t 55], (some (52, true))⟩,
    ⟨(some 57), (.binI .and), [.t 56, .c (.i .i64 1)], (some (52, true))⟩,
    ⟨(some 58), (.binI .eql), [.t 57, .c (.i .i64 1)], (some (52, true))⟩,
    ⟨(some 59), .pick, [.t 52, .t 58, .c (.b false)], none⟩,
    ⟨(some 60), .mv, [.t 59], none⟩,
    ⟨(some 61), .mv, [.t 0], (some (60, true))⟩,
    ⟨(some 62), .mv, [.t 13], (some (60, true))⟩,
    ⟨(some 63), .mv, [.t 14], (some (60, true))⟩,
    ⟨(some 64), (.ld 2 true), [.t 9], (some (60, true))⟩,
    ⟨(some 65), (.call (.pu [])), [.c (.fn 74 [] []), .t 61, .t 62, .t 63, .t 64], (some (60, true))⟩,
    ⟨(some 66), (.binI .gtr), [.t 65, .c (.i .i64 0)], (some (60, true))⟩,
    ⟨(some 67), .pick, [.t 60, .t 66, .c (.b false)], none⟩] [0, 1, 2, 3, 9, 11, 12, 13, 14, 40, 41, 67])
  (.cond (.t 67)
   (.seq (.reg [⟨(some 68), .mv, [.t 11], none⟩,
     ⟨(some 69), .mv, [.t 14], none⟩,
     ⟨(some 70), .mv, [.t 13], none⟩,
     ⟨none, (.mset .int), [.t 68, .t 69, .t 70], none⟩] [0, 1, 2, 3, 9, 11, 12, 13, 14, 40, 41])
   (.reg [⟨(some 71), .mv, [.t 12], none⟩,
     ⟨(some 72), .mv, [.t 14], none⟩,
     ⟨(some 73), (.bsl false [(.i .i64 0)] false 1 [0]), [.t 72], none⟩,
     ⟨(some 74), (.app 1 false 8), [.t 71, .t 73], none⟩,
     ⟨(some 12), .mv, [.t 74], none⟩] [0, 1, 2, 3, 9, 11, 12, 13, 40, 41]))
   .skip)))))
 (.reg [⟨(some 75), (.binI .add), [.t 41, .c (.i .i64 1)], none⟩,
   ⟨(some 41), .mv, [.t 75], none⟩] [0, 1, 2, 3, 9, 11, 12, 13, 40, 41]))))

def l56_1 : DC :=
 (.loop [0, 1, 2, 3, 9, 11, 12, 13, 40, 41] b56_0)

def b56_2 : DC :=
 (.seq (.seq (.reg [⟨(some 26), .mv, [.t 12], none⟩,
   ⟨(some 27), (.len 0), [.t 26], none⟩,
   ⟨(some 28), (.binI .gtr), [.t 27, .c (.i .i64 0)], none⟩] [0, 1, 2, 3, 9, 11, 12, 28])
 (.cond (.t 28)
  .skip
  (.exit 0)))
 (.block 1
  (.seq (.reg [⟨(some 29), .mv, [.t 12], none⟩,
    ⟨(some 30), (.ixS 1 false), [.t 29, .c (.i .i64 0)], none⟩,
    ⟨(some 31), (.ld 1 false), [.t 30], none⟩,
    ⟨(some 13), .mv, [.t 31], none⟩] [0, 1, 2, 3, 9, 11, 12, 13])
  (.seq (.reg [⟨(some 32), .mv, [.t 12], none⟩,
    ⟨(some 33), (.slc true false false 1 false), [.t 32, .c (.i .i64 1)], none⟩,
    ⟨(some 12), .mv, [.t 33], none⟩] [0, 1, 2, 3, 9, 11, 12, 13])
  (.seq (.seq (.reg [⟨(some 34), .mv, [.t 13], none⟩,
    ⟨(some 35), .mv, [.t 2], none⟩,
    ⟨(some 36), (.binI .eql), [.t 34, .t 35], none⟩] [0, 1, 2, 3, 9, 11, 12, 13, 36])
  (.cond (.t 36)
   (.exit 0)
   .skip))
  (.seq (.reg [⟨(some 37), .mv, [.t 0], none⟩,
    ⟨(some 38), .nilck, [.t 37], none⟩,
    ⟨(some 39), (.fadr 0 1 false), [.t 38], none⟩,
    ⟨(some 40), (.ld 1 false), [.t 39], none⟩,
    ⟨(some 41), .mv, [.c (.i .i64 0)], none⟩] [0, 1, 2, 3, 9, 11, 12, 13, 40, 41])
  (.block 2
   l56_1)))))))

def l56_3 : DC :=
 (.loop [0, 1, 2, 3, 9, 11, 12] b56_2)

def b56_4 : DC :=
 (.seq (.seq (.reg [⟨(some 86), .mv, [.t 2], none⟩,
   ⟨(some 87), .mv, [.t 1], none⟩,
   ⟨(some 88), (.binI .neq), [.t 86, .t 87], none⟩] [1, 2, 11, 19, 88])
 (.cond (.t 88)
  .skip
  (.exit 4)))
 (.block 5
  (.seq (.reg [⟨(some 89), .mv, [.t 11], none⟩,
    ⟨(some 90), .mv, [.t 2], none⟩,
    ⟨(some 91), (.lkp .int (.i .i64 0) false), [.t 89, .t 90], none⟩,
    ⟨(some 2), .mv, [.t 91], none⟩] [1, 2, 11, 19])
  (.reg [⟨(some 92), .mv, [.t 19], none⟩,
    ⟨(some 93), .mv, [.t 2], none⟩,
    ⟨(some 94), (.bsl false [(.i .i64 0)] false 1 [0]), [.t 93], none⟩,
    ⟨(some 95), (.app 1 false 8), [.t 92, .t 94], none⟩,
    ⟨(some 19), .mv, [.t 95], none⟩] [1, 2, 11, 19]))))

def l56_5 : DC :=
 (.loop [1, 2, 11, 19] b56_4)

def c56 : DC :=
 (.seq (.reg [⟨(some 9), (.box true), [.t 4], none⟩,
   ⟨(some 10), .mv, [.c .nilsl], none⟩] [0, 1, 2, 3, 9])
 (.scope (.seq (.reg [⟨(some 20), .mkmap, [], none⟩,
   ⟨(some 21), .mv, [.t 1], none⟩,
   ⟨(some 22), .mv, [.t 1], none⟩,
   ⟨none, (.mset .int), [.t 20, .t 21, .t 22], none⟩,
   ⟨(some 23), .mv, [.t 20], none⟩,
   ⟨(some 11), .mv, [.t 23], none⟩] [0, 1, 2, 3, 9, 11])
 (.seq (.reg [⟨(some 24), .mv, [.t 1], none⟩,
   ⟨(some 25), (.bsl false [(.i .i64 0)] false 1 [0]), [.t 24], none⟩,
   ⟨(some 12), .mv, [.t 25], none⟩] [0, 1, 2, 3, 9, 11, 12])
 (.seq .skip
 (.seq (.block 0
  l56_3)
 (.seq (.seq (.reg [⟨(some 77), .mv, [.t 11], none⟩,
   ⟨(some 78), .mv, [.t 2], none⟩,
   ⟨(some 79), (.lkp .int (.i .i64 0) true), [.t 77, .t 78], none⟩,
   ⟨(some 76), .mv, [.t 79], none⟩,
   ⟨(some 80), (.ext 0), [.t 76], none⟩,
   ⟨(some 81), (.ext 1), [.t 76], none⟩,
   ⟨(some 17), .mv, [.t 80], none⟩,
   ⟨(some 18), .mv, [.t 81], none⟩] [1, 2, 11, 18])
 (.seq (.reg [⟨(some 82), .mv, [.t 18], none⟩,
   ⟨(some 83), .notB, [.t 82], none⟩] [1, 2, 11, 83])
 (.cond (.t 83)
  (.seq (.reg [⟨(some 10), .mv, [.c .nilsl], none⟩] [10])
  .ret)
  .skip)))
 (.seq (.reg [⟨(some 84), .mv, [.t 2], none⟩,
   ⟨(some 85), (.bsl false [(.i .i64 0)] false 1 [0]), [.t 84], none⟩,
   ⟨(some 19), .mv, [.t 85], none⟩] [1, 2, 11, 19])
 (.seq (.block 4
  l56_5)
 (.seq (.reg [⟨(some 96), .mv, [.t 19], none⟩,
   ⟨(some 97), (.call .sh), [.c (.fn 80 [] []), .t 96], none⟩] [19])
 (.seq (.reg [⟨(some 98), .mv, [.t 19], none⟩,
   ⟨(some 10), .mv, [.t 98], none⟩] [10])
 .ret)))))))))))

def d56 : DFun := ⟨5, 99, c56, [.t 10]⟩

theorem ok56 : Fok Tryd.prog 56 d56 := ⟨Tryd.f56, Tryd.func56, by kernel_rfl, by kernel_rfl⟩

-- (*bibelot/price.market).all
def c57 : DC :=
 (.seq (.reg [⟨(some 2), .mv, [.c (.i .i64 0)], none⟩] [0])
 (.seq (.reg [⟨(some 3), .mv, [.t 0], none⟩,
   ⟨(some 4), .nilck, [.t 3], none⟩,
   ⟨(some 5), (.fadr 0 1 false), [.t 4], none⟩,
   ⟨(some 6), (.ld 1 false), [.t 5], none⟩,
   ⟨(some 7), (.conv .u64), [.t 6], none⟩,
   ⟨(some 8), (.binI .shl), [.c (.i .i64 1), .t 7], none⟩,
   ⟨(some 9), (.binI .sub), [.t 8, .c (.i .i64 1)], none⟩,
   ⟨(some 2), .mv, [.t 9], none⟩] [2])
 .ret))

def d57 : DFun := ⟨1, 10, c57, [.t 2]⟩

theorem ok57 : Fok Tryd.prog 57 d57 := ⟨Tryd.f57, Tryd.func57, by kernel_rfl, by kernel_rfl⟩

-- (*bibelot/price.market).subsets
def c58 : DC :=
 (.seq (.reg [⟨(some 1), (.box false), [.t 0], none⟩,
   ⟨(some 2), .mv, [.c .nilfn], none⟩] [1])
 (.seq (.reg [⟨(some 3), (.mkfn 81 0), [.t 1], none⟩,
   ⟨(some 2), .mv, [.t 3], none⟩] [2])
 .ret))

def d58 : DFun := ⟨1, 4, c58, [.t 2]⟩

theorem ok58 : Fok Tryd.prog 58 d58 := ⟨Tryd.f58, Tryd.func58, by kernel_rfl, by kernel_rfl⟩

-- math/bits.OnesCount
def c59 : DC :=
 (.seq (.reg [⟨(some 2), .mv, [.c (.i .i64 0)], none⟩] [0])
 (.seq (.cond (.c (.b false))
  (.seq (.reg [⟨(some 3), .mv, [.t 0], none⟩,
    ⟨(some 4), (.conv .u32), [.t 3], none⟩,
    ⟨(some 5), (.call (.pu [])), [.c (.fn 82 [] []), .t 4], none⟩,
    ⟨(some 2), .mv, [.t 5], none⟩] [2])
  .ret)
  .skip)
 (.seq (.reg [⟨(some 6), .mv, [.t 0], none⟩,
   ⟨(some 7), (.call (.pu [])), [.c (.fn 83 [] []), .t 6], none⟩,
   ⟨(some 2), .mv, [.t 7], none⟩] [2])
 .ret)))

def d59 : DFun := ⟨1, 8, c59, [.t 2]⟩

theorem ok59 : Fok Tryd.prog 59 d59 := ⟨Tryd.f59, Tryd.func59, by kernel_rfl, by kernel_rfl⟩

-- (*bibelot/price.market).ring
def b60_0 : DC :=
 (.seq (.reg [⟨(some 22), (.binI .lss), [.t 21, .t 20], none⟩] [0, 1, 5, 7, 13, 14, 20, 21, 22])
 (.seq (.cond (.t 22)
  .skip
  (.exit 2))
 (.seq (.block 3
  (.seq (.reg [⟨(some 23), .mv, [.t 21], none⟩,
    ⟨(some 8), .mv, [.t 23], none⟩] [0, 1, 5, 7, 8, 13, 14, 20, 21])
  (.seq (.seq (.reg [⟨(some 24), .mv, [.t 7], none⟩,
    ⟨(some 25), .mv, [.t 8], none⟩,
    ⟨(some 26), (.binI .eql), [.t 24, .t 25], none⟩,
    ⟨(some 27), .mv, [.t 26], none⟩,
    ⟨(some 28), .mv, [.t 1], (some (27, false))⟩,
    ⟨(some 29), .mv, [.t 7], (some (27, false))⟩,
    ⟨(some 30), (.conv .u64), [.t 29], (some (27, false))⟩,
    ⟨(some 31), (.binI .shr), [.t 28, .t 30], (some (27, false))⟩,
    ⟨(some 32), (.binI .and), [.t 31, .c (.i .i64 1)], (some (27, false))⟩,
    ⟨(some 33), (.binI .eql), [.t 32, .c (.i .i64 0)], (some (27, false))⟩,
    ⟨(some 34), .pick, [.t 27, .c (.b true), .t 33], none⟩,
    ⟨(some 35), .mv, [.t 34], none⟩,
    ⟨(some 36), .mv, [.t 1], (some (35, false))⟩,
    ⟨(some 37), .mv, [.t 8], (some (35, false))⟩,
    ⟨(some 38), (.conv .u64), [.t 37], (some (35, false))⟩,
    ⟨(some 39), (.binI .shr), [.t 36, .t 38], (some (35, false))⟩,
    ⟨(some 40), (.binI .and), [.t 39, .c (.i .i64 1)], (some (35, false))⟩,
    ⟨(some 41), (.binI .eql), [.t 40, .c (.i .i64 0)], (some (35, false))⟩,
    ⟨(some 42), .pick, [.t 35, .c (.b true), .t 41], none⟩,
    ⟨(some 43), .mv, [.t 42], none⟩,
    ⟨(some 44), .mv, [.t 0], (some (43, false))⟩,
    ⟨(some 45), .mv, [.t 7], (some (43, false))⟩,
    ⟨(some 46), .mv, [.t 8], (some (43, false))⟩,
    ⟨(some 47), (.ld 2 true), [.t 5], (some (43, false))⟩,
    ⟨(some 48), (.call (.pu [])), [.c (.fn 74 [] []), .t 44, .t 45, .t 46, .t 47], (some (43, false))⟩,
    ⟨(some 49), (.binI .neq), [.t 48, .c (.i .i64 2)], (some (43, false))⟩,
    ⟨(some 50), .pick, [.t 43, .c (.b true), .t 49], none⟩] [0, 1, 5, 7, 8, 13, 14, 20, 21, 50])
  (.cond (.t 50)
   (.exit 3)
   .skip))
  (.seq (.reg [⟨(some 51), .mv, [.t 0], none⟩,
    ⟨(some 52), .mv, [.t 8], none⟩,
    ⟨(some 53), .mv, [.t 7], none⟩,
    ⟨(some 54), .mv, [.t 1], none⟩,
    ⟨(some 55), (.ld 2 true), [.t 5], none⟩,
    ⟨(some 56), (.call (.pu [])), [.c (.fn 56 [] []), .t 51, .t 52, .t 53, .t 54, .t 55], none⟩,
    ⟨(some 9), .mv, [.t 56], none⟩] [0, 1, 5, 7, 9, 13, 14, 20, 21])
  (.seq (.reg [⟨(some 57), .mv, [.t 9], none⟩,
    ⟨(some 58), (.eqN 0 true), [.t 57, .c .nilsl], none⟩] [0, 1, 5, 7, 9, 13, 14, 20, 21, 58])
  (.cond (.t 58)
   (.seq (.reg [⟨(some 59), .mv, [.t 9], none⟩,
     ⟨(some 6), .mv, [.t 59], none⟩] [6])
   .ret)
   .skip))))))
 (.reg [⟨(some 60), (.binI .add), [.t 21, .c (.i .i64 1)], none⟩,
   ⟨(some 21), .mv, [.t 60], none⟩] [0, 1, 5, 7, 13, 14, 20, 21]))))

def l60_1 : DC :=
 (.loop [0, 1, 5, 7, 13, 14, 20, 21] b60_0)

def b60_2 : DC :=
 (.seq (.reg [⟨(some 15), (.binI .lss), [.t 14, .t 13], none⟩] [0, 1, 5, 13, 14, 15])
 (.seq (.cond (.t 15)
  .skip
  (.exit 0))
 (.seq (.block 1
  (.seq (.reg [⟨(some 16), .mv, [.t 14], none⟩,
    ⟨(some 7), .mv, [.t 16], none⟩] [0, 1, 5, 7, 13, 14])
  (.seq (.reg [⟨(some 17), .mv, [.t 0], none⟩,
    ⟨(some 18), .nilck, [.t 17], none⟩,
    ⟨(some 19), (.fadr 0 1 false), [.t 18], none⟩,
    ⟨(some 20), (.ld 1 false), [.t 19], none⟩,
    ⟨(some 21), .mv, [.c (.i .i64 0)], none⟩] [0, 1, 5, 7, 13, 14, 20, 21])
  (.block 2
   l60_1))))
 (.reg [⟨(some 61), (.binI .add), [.t 14, .c (.i .i64 1)], none⟩,
   ⟨(some 14), .mv, [.t 61], none⟩] [0, 1, 5, 13, 14]))))

def l60_3 : DC :=
 (.loop [0, 1, 5, 13, 14] b60_2)

def c60 : DC :=
 (.seq (.reg [⟨(some 5), (.box true), [.t 2], none⟩,
   ⟨(some 6), .mv, [.c .nilsl], none⟩] [0, 1, 5])
 (.seq (.seq (.reg [⟨(some 10), .mv, [.t 0], none⟩,
   ⟨(some 11), .nilck, [.t 10], none⟩,
   ⟨(some 12), (.fadr 0 1 false), [.t 11], none⟩,
   ⟨(some 13), (.ld 1 false), [.t 12], none⟩,
   ⟨(some 14), .mv, [.c (.i .i64 0)], none⟩] [0, 1, 5, 13, 14])
 (.block 0
  l60_3))
 (.seq (.reg [⟨(some 6), .mv, [.c .nilsl], none⟩] [6])
 .ret)))

def d60 : DFun := ⟨3, 62, c60, [.t 6]⟩

theorem ok60 : Fok Tryd.prog 60 d60 := ⟨Tryd.f60, Tryd.func60, by kernel_rfl, by kernel_rfl⟩

-- bibelot/price.listed
def b61_0 : DC :=
 (.seq (.reg [⟨(some 6), (.binI .lss), [.t 5, .c (.i .i64 5)], none⟩] [0, 3, 5, 6])
 (.seq (.cond (.t 6)
  .skip
  (.exit 0))
 (.seq (.block 1
  (.seq (.reg [⟨(some 7), .mv, [.t 5], none⟩,
    ⟨(some 4), .mv, [.t 7], none⟩] [0, 3, 4, 5])
  (.seq (.reg [⟨(some 8), .mv, [.t 0], none⟩,
    ⟨(some 9), .mv, [.t 4], none⟩,
    ⟨(some 10), (.conv .u64), [.t 9], none⟩,
    ⟨(some 11), (.binI .shr), [.t 8, .t 10], none⟩,
    ⟨(some 12), (.binI .and), [.t 11, .c (.i .i64 1)], none⟩,
    ⟨(some 13), (.binI .eql), [.t 12, .c (.i .i64 1)], none⟩] [0, 3, 4, 5, 13])
  (.cond (.t 13)
   (.reg [⟨(some 14), .mv, [.t 3], none⟩,
     ⟨(some 15), .mv, [.t 4], none⟩,
     ⟨(some 16), (.bsl false [(.i .i64 0)] false 1 [0]), [.t 15], none⟩,
     ⟨(some 17), (.app 1 false 8), [.t 14, .t 16], none⟩,
     ⟨(some 3), .mv, [.t 17], none⟩] [0, 3, 5])
   .skip))))
 (.reg [⟨(some 18), (.binI .add), [.t 5, .c (.i .i64 1)], none⟩,
   ⟨(some 5), .mv, [.t 18], none⟩] [0, 3, 5]))))

def l61_1 : DC :=
 (.loop [0, 3, 5] b61_0)

def c61 : DC :=
 (.seq (.reg [⟨(some 2), .mv, [.c .nilsl], none⟩] [0])
 (.seq (.reg [⟨(some 3), .mv, [.c .nilsl], none⟩] [0, 3])
 (.seq (.seq (.reg [⟨(some 5), .mv, [.c (.i .i64 0)], none⟩] [0, 3, 5])
 (.block 0
  l61_1))
 (.seq (.reg [⟨(some 19), .mv, [.t 3], none⟩,
   ⟨(some 2), .mv, [.t 19], none⟩] [2])
 .ret))))

def d61 : DFun := ⟨1, 20, c61, [.t 2]⟩

theorem ok61 : Fok Tryd.prog 61 d61 := ⟨Tryd.f61, Tryd.func61, by kernel_rfl, by kernel_rfl⟩

-- slices.Compare[[]int,int]
def b62_0 : DC :=
 (.seq (.reg [⟨(some 12), (.binI .lss), [.t 11, .t 10], none⟩] [0, 1, 9, 10, 11, 12])
 (.seq (.cond (.t 12)
  .skip
  (.exit 0))
 (.seq (.block 1
  (.seq (.reg [⟨(some 13), .mv, [.t 11], none⟩,
    ⟨(some 14), (.ixS 1 false), [.t 9, .t 11], none⟩,
    ⟨(some 15), (.ld 1 false), [.t 14], none⟩,
    ⟨(some 5), .mv, [.t 13], none⟩,
    ⟨(some 6), .mv, [.t 15], none⟩] [0, 1, 5, 6, 9, 10, 11])
  (.seq (.seq (.reg [⟨(some 16), .mv, [.t 5], none⟩,
    ⟨(some 17), .mv, [.t 1], none⟩,
    ⟨(some 18), (.len 0), [.t 17], none⟩,
    ⟨(some 19), (.binI .geq), [.t 16, .t 18], none⟩] [0, 1, 5, 6, 9, 10, 11, 19])
  (.cond (.t 19)
   (.seq (.reg [⟨(some 4), .mv, [.c (.i .i64 1)], none⟩] [4])
   .ret)
   .skip))
  (.seq (.reg [⟨(some 20), .mv, [.t 1], none⟩,
    ⟨(some 21), .mv, [.t 5], none⟩,
    ⟨(some 22), (.ixS 1 false), [.t 20, .t 21], none⟩,
    ⟨(some 23), (.ld 1 false), [.t 22], none⟩,
    ⟨(some 7), .mv, [.t 23], none⟩] [0, 1, 6, 7, 9, 10, 11])
  (.seq (.reg [⟨(some 24), .mv, [.t 6], none⟩,
    ⟨(some 25), .mv, [.t 7], none⟩,
    ⟨(some 26), (.call (.pu [])), [.c (.fn 84 [] []), .t 24, .t 25], none⟩,
    ⟨(some 8), .mv, [.t 26], none⟩] [0, 1, 8, 9, 10, 11])
  (.seq (.reg [⟨(some 27), .mv, [.t 8], none⟩,
    ⟨(some 28), (.binI .neq), [.t 27, .c (.i .i64 0)], none⟩] [0, 1, 8, 9, 10, 11, 28])
  (.cond (.t 28)
   (.seq (.reg [⟨(some 29), .mv, [.t 8], none⟩,
     ⟨(some 4), .mv, [.t 29], none⟩] [4])
   .ret)
   .skip)))))))
 (.reg [⟨(some 30), (.binI .add), [.t 11, .c (.i .i64 1)], none⟩,
   ⟨(some 11), .mv, [.t 30], none⟩] [0, 1, 9, 10, 11]))))

def l62_1 : DC :=
 (.loop [0, 1, 9, 10, 11] b62_0)

def c62 : DC :=
 (.seq (.reg [⟨(some 4), .mv, [.c (.i .i64 0)], none⟩] [0, 1])
 (.seq (.seq (.reg [⟨(some 9), .mv, [.t 0], none⟩,
   ⟨(some 10), (.len 0), [.t 9], none⟩,
   ⟨(some 11), .mv, [.c (.i .i64 0)], none⟩] [0, 1, 9, 10, 11])
 (.block 0
  l62_1))
 (.seq (.seq (.reg [⟨(some 31), .mv, [.t 0], none⟩,
   ⟨(some 32), (.len 0), [.t 31], none⟩,
   ⟨(some 33), .mv, [.t 1], none⟩,
   ⟨(some 34), (.len 0), [.t 33], none⟩,
   ⟨(some 35), (.binI .lss), [.t 32, .t 34], none⟩] [35])
 (.cond (.t 35)
  (.seq (.reg [⟨(some 4), .mv, [.c (.i .i64 (-1))], none⟩] [4])
  .ret)
  .skip))
 (.seq (.reg [⟨(some 4), .mv, [.c (.i .i64 0)], none⟩] [4])
 .ret))))

def d62 : DFun := ⟨2, 36, c62, [.t 4]⟩

theorem ok62 : Fok Tryd.prog 62 d62 := ⟨Tryd.f62, Tryd.func62, by kernel_rfl, by kernel_rfl⟩

-- bibelot/bibelotref09.greater
def b66_0 : DC :=
 (.seq (.seq (.reg [⟨(some 7), .mv, [.t 6], none⟩,
   ⟨(some 8), .mv, [.t 1], none⟩,
   ⟨(some 9), (.len 0), [.t 8], none⟩,
   ⟨(some 10), (.binI .lss), [.t 7, .t 9], none⟩] [0, 1, 5, 6, 10])
 (.cond (.t 10)
  .skip
  (.exit 0)))
 (.seq (.block 1
  (.reg [⟨(some 13), .mv, [.t 5], none⟩,
    ⟨(some 14), .mv, [.t 0], none⟩,
    ⟨(some 15), .mv, [.t 1], none⟩,
    ⟨(some 16), .mv, [.t 6], none⟩,
    ⟨(some 17), (.ixS 1 false), [.t 15, .t 16], none⟩,
    ⟨(some 18), (.ld 1 false), [.t 17], none⟩,
    ⟨(some 19), (.ixS 2 true), [.t 14, .t 18], none⟩,
    ⟨(some 20), (.ld 2 true), [.t 19], none⟩,
    ⟨(some 21), (.bsl false [.nilsl, .nilsl] true 1 [0]), [.t 20], none⟩,
    ⟨(some 22), (.app 2 true 48), [.t 13, .t 21], none⟩,
    ⟨(some 5), .mv, [.t 22], none⟩] [0, 1, 5, 6]))
 (.reg [⟨(some 11), .mv, [.t 6], none⟩,
   ⟨(some 12), (.binI .add), [.t 11, .c (.i .i64 1)], none⟩,
   ⟨(some 6), .mv, [.t 12], none⟩] [0, 1, 5, 6])))

def l66_1 : DC :=
 (.loop [0, 1, 5, 6] b66_0)

def c66 : DC :=
 (.seq (.reg [⟨(some 4), .mv, [.c .nilsl], none⟩] [0, 1])
 (.seq (.reg [⟨(some 5), .mv, [.c .nilsl], none⟩] [0, 1, 5])
 (.seq (.seq (.reg [⟨(some 6), .mv, [.c (.i .i64 0)], none⟩] [0, 1, 5, 6])
 (.block 0
  l66_1))
 (.seq (.reg [⟨(some 23), .mv, [.t 5], none⟩,
   ⟨(some 4), .mv, [.t 23], none⟩] [4])
 .ret))))

def d66 : DFun := ⟨2, 24, c66, [.t 4]⟩

theorem ok66 : Fok Tryd.prog 66 d66 := ⟨Tryd.f66, Tryd.func66, by kernel_rfl, by kernel_rfl⟩

-- bibelot/bibelotref09.first
def b67_0 : DC :=
 (.seq (.seq (.reg [⟨(some 6), .mv, [.t 5], none⟩,
   ⟨(some 7), .mv, [.t 0], none⟩,
   ⟨(some 8), (.len 0), [.t 7], none⟩,
   ⟨(some 9), (.binI .lss), [.t 6, .t 8], none⟩] [0, 1, 5, 9])
 (.cond (.t 9)
  .skip
  (.exit 0)))
 (.seq (.block 1
  (.seq (.reg [⟨(some 12), .mv, [.t 0], none⟩,
    ⟨(some 13), .mv, [.t 5], none⟩,
    ⟨(some 14), (.ixS 1 false), [.t 12, .t 13], none⟩,
    ⟨(some 15), (.ld 1 false), [.t 14], none⟩,
    ⟨(some 16), .mv, [.t 1], none⟩,
    ⟨(some 17), .mv, [.t 5], none⟩,
    ⟨(some 18), (.ixS 1 false), [.t 16, .t 17], none⟩,
    ⟨(some 19), (.ld 1 false), [.t 18], none⟩,
    ⟨(some 20), (.binI .neq), [.t 15, .t 19], none⟩] [0, 1, 5, 20])
  (.cond (.t 20)
   (.seq (.reg [⟨(some 21), .mv, [.t 0], none⟩,
     ⟨(some 22), .mv, [.t 5], none⟩,
     ⟨(some 23), (.ixS 1 false), [.t 21, .t 22], none⟩,
     ⟨(some 24), (.ld 1 false), [.t 23], none⟩,
     ⟨(some 25), .mv, [.t 1], none⟩,
     ⟨(some 26), .mv, [.t 5], none⟩,
     ⟨(some 27), (.ixS 1 false), [.t 25, .t 26], none⟩,
     ⟨(some 28), (.ld 1 false), [.t 27], none⟩,
     ⟨(some 29), (.binI .lss), [.t 24, .t 28], none⟩,
     ⟨(some 4), .mv, [.t 29], none⟩] [4])
   .ret)
   .skip)))
 (.reg [⟨(some 10), .mv, [.t 5], none⟩,
   ⟨(some 11), (.binI .add), [.t 10, .c (.i .i64 1)], none⟩,
   ⟨(some 5), .mv, [.t 11], none⟩] [0, 1, 5])))

def l67_1 : DC :=
 (.loop [0, 1, 5] b67_0)

def c67 : DC :=
 (.seq (.reg [⟨(some 4), .mv, [.c (.b false)], none⟩] [0, 1])
 (.seq (.seq (.reg [⟨(some 5), .mv, [.c (.i .i64 0)], none⟩] [0, 1, 5])
 (.block 0
  l67_1))
 (.seq (.reg [⟨(some 4), .mv, [.c (.b false)], none⟩] [4])
 .ret)))

def d67 : DFun := ⟨2, 30, c67, [.t 4]⟩

theorem ok67 : Fok Tryd.prog 67 d67 := ⟨Tryd.f67, Tryd.func67, by kernel_rfl, by kernel_rfl⟩

-- bibelot/bibelotref09.Through
def b68_0 : DC :=
 (.seq (.seq (.reg [⟨(some 19), .mv, [.t 7], none⟩,
   ⟨(some 20), .mv, [.t 3], none⟩,
   ⟨(some 21), (.binI .lss), [.t 19, .t 20], none⟩] [0, 3, 4, 5, 6, 7, 21])
 (.cond (.t 21)
  .skip
  (.exit 2)))
 (.seq (.block 3
  (.reg [⟨(some 24), .mv, [.t 6], none⟩,
    ⟨(some 25), .mv, [.t 0], none⟩,
    ⟨(some 26), .mv, [.t 5], none⟩,
    ⟨(some 27), (.ixS 1 false), [.t 25, .t 26], none⟩,
    ⟨(some 28), (.ld 1 false), [.t 27], none⟩,
    ⟨(some 29), .mv, [.t 7], none⟩,
    ⟨(some 30), (.ixS 1 false), [.t 28, .t 29], none⟩,
    ⟨(some 31), (.ld 1 false), [.t 30], none⟩,
    ⟨(some 32), (.binI .gtr), [.t 31, .c (.i .i64 0)], none⟩,
    ⟨(some 33), (.bsl false [(.b false)] false 1 [0]), [.t 32], none⟩,
    ⟨(some 34), (.app 1 false 1), [.t 24, .t 33], none⟩,
    ⟨(some 6), .mv, [.t 34], none⟩] [0, 3, 4, 5, 6, 7]))
 (.reg [⟨(some 22), .mv, [.t 7], none⟩,
   ⟨(some 23), (.binI .add), [.t 22, .c (.i .i64 1)], none⟩,
   ⟨(some 7), .mv, [.t 23], none⟩] [0, 3, 4, 5, 6, 7])))

def l68_1 : DC :=
 (.loop [0, 3, 4, 5, 6, 7] b68_0)

def b68_2 : DC :=
 (.seq (.seq (.reg [⟨(some 14), .mv, [.t 5], none⟩,
   ⟨(some 15), .mv, [.t 3], none⟩,
   ⟨(some 16), (.binI .lss), [.t 14, .t 15], none⟩] [0, 3, 4, 5, 16])
 (.cond (.t 16)
  .skip
  (.exit 0)))
 (.seq (.block 1
  (.seq (.reg [⟨(some 6), .mv, [.c .nilsl], none⟩] [0, 3, 4, 5, 6])
  (.seq (.seq (.reg [⟨(some 7), .mv, [.c (.i .i64 0)], none⟩] [0, 3, 4, 5, 6, 7])
  (.block 2
   l68_1))
  (.reg [⟨(some 35), .mv, [.t 4], none⟩,
    ⟨(some 36), .mv, [.t 6], none⟩,
    ⟨(some 37), (.bsl false [.nilsl] false 1 [0]), [.t 36], none⟩,
    ⟨(some 38), (.app 1 false 24), [.t 35, .t 37], none⟩,
    ⟨(some 4), .mv, [.t 38], none⟩] [0, 3, 4, 5]))))
 (.reg [⟨(some 17), .mv, [.t 5], none⟩,
   ⟨(some 18), (.binI .add), [.t 17, .c (.i .i64 1)], none⟩,
   ⟨(some 5), .mv, [.t 18], none⟩] [0, 3, 4, 5])))

def l68_3 : DC :=
 (.loop [0, 3, 4, 5] b68_2)

def b68_4 : DC :=
 (.seq (.seq (.reg [⟨(some 53), .mv, [.t 11], none⟩,
   ⟨(some 54), .mv, [.t 3], none⟩,
   ⟨(some 55), (.binI .lss), [.t 53, .t 54], none⟩] [3, 4, 8, 9, 10, 11, 55])
 (.cond (.t 55)
  .skip
  (.exit 8)))
 (.seq (.block 9
  (.reg [⟨(some 58), .mv, [.t 10], none⟩,
    ⟨(some 59), .mv, [.t 11], none⟩,
    ⟨(some 60), .mv, [.t 10], none⟩,
    ⟨(some 61), .mv, [.t 11], none⟩,
    ⟨(some 62), (.ixS 1 false), [.t 60, .t 61], none⟩,
    ⟨(some 63), (.ld 1 false), [.t 62], none⟩,
    ⟨(some 64), .mv, [.t 63], none⟩,
    ⟨(some 65), .mv, [.t 10], (some (64, false))⟩,
    ⟨(some 66), .mv, [.t 8], (some (64, false))⟩,
    ⟨(some 67), (.ixS 1 false), [.t 65, .t 66], (some (64, false))⟩,
    ⟨(some 68), (.ld 1 false), [.t 67], (some (64, false))⟩,
    ⟨(some 69), .mv, [.t 68], (some (64, false))⟩,
    ⟨(some 70), .mv, [.t 4], (some (69, true))⟩,
    ⟨(some 71), .mv, [.t 8], (some (69, true))⟩,
    ⟨(some 72), (.ixS 1 false), [.t 70, .t 71], (some (69, true))⟩,
    ⟨(some 73), (.ld 1 false), [.t 72], (some (69, true))⟩,
    ⟨(some 74), .mv, [.t 11], (some (69, true))⟩,
    ⟨(some 75), (.ixS 1 false), [.t 73, .t 74], (some (69, true))⟩,
    ⟨(some 76), (.ld 1 false), [.t 75], (some (69, true))⟩,
    ⟨(some 77), .pick, [.t 69, .t 76, .c (.b false)], (some (64, false))⟩,
    ⟨(some 78), .pick, [.t 64, .c (.b true), .t 77], none⟩,
    ⟨(some 79), (.ixS 1 false), [.t 58, .t 59], none⟩,
    ⟨none, (.st 1), [.t 79, .t 78], none⟩] [3, 4, 8, 9, 10, 11]))
 (.reg [⟨(some 56), .mv, [.t 11], none⟩,
   ⟨(some 57), (.binI .add), [.t 56, .c (.i .i64 1)], none⟩,
   ⟨(some 11), .mv, [.t 57], none⟩] [3, 4, 8, 9, 10, 11])))

def l68_5 : DC :=
 (.loop [3, 4, 8, 9, 10, 11] b68_4)

def b68_6 : DC :=
 (.seq (.seq (.reg [⟨(some 44), .mv, [.t 9], none⟩,
   ⟨(some 45), .mv, [.t 3], none⟩,
   ⟨(some 46), (.binI .lss), [.t 44, .t 45], none⟩] [3, 4, 8, 9, 46])
 (.cond (.t 46)
  .skip
  (.exit 6)))
 (.seq (.block 7
  (.seq (.reg [⟨(some 49), .mv, [.t 4], none⟩,
    ⟨(some 50), .mv, [.t 9], none⟩,
    ⟨(some 51), (.ixS 1 false), [.t 49, .t 50], none⟩,
    ⟨(some 52), (.ld 1 false), [.t 51], none⟩,
    ⟨(some 10), .mv, [.t 52], none⟩] [3, 4, 8, 9, 10])
  (.seq (.reg [⟨(some 11), .mv, [.c (.i .i64 0)], none⟩] [3, 4, 8, 9, 10, 11])
  (.block 8
   l68_5))))
 (.reg [⟨(some 47), .mv, [.t 9], none⟩,
   ⟨(some 48), (.binI .add), [.t 47, .c (.i .i64 1)], none⟩,
   ⟨(some 9), .mv, [.t 48], none⟩] [3, 4, 8, 9])))

def l68_7 : DC :=
 (.loop [3, 4, 8, 9] b68_6)

def b68_8 : DC :=
 (.seq (.seq (.reg [⟨(some 39), .mv, [.t 8], none⟩,
   ⟨(some 40), .mv, [.t 3], none⟩,
   ⟨(some 41), (.binI .lss), [.t 39, .t 40], none⟩] [3, 4, 8, 41])
 (.cond (.t 41)
  .skip
  (.exit 4)))
 (.seq (.block 5
  (.seq (.reg [⟨(some 9), .mv, [.c (.i .i64 0)], none⟩] [3, 4, 8, 9])
  (.block 6
   l68_7)))
 (.reg [⟨(some 42), .mv, [.t 8], none⟩,
   ⟨(some 43), (.binI .add), [.t 42, .c (.i .i64 1)], none⟩,
   ⟨(some 8), .mv, [.t 43], none⟩] [3, 4, 8])))

def l68_9 : DC :=
 (.loop [3, 4, 8] b68_8)

def c68 : DC :=
 (.seq (.reg [⟨(some 2), .mv, [.c .nilsl], none⟩] [0])
 (.seq (.reg [⟨(some 12), .mv, [.t 0], none⟩,
   ⟨(some 13), (.len 0), [.t 12], none⟩,
   ⟨(some 3), .mv, [.t 13], none⟩] [0, 3])
 (.seq (.reg [⟨(some 4), .mv, [.c .nilsl], none⟩] [0, 3, 4])
 (.seq (.seq (.reg [⟨(some 5), .mv, [.c (.i .i64 0)], none⟩] [0, 3, 4, 5])
 (.block 0
  l68_3))
 (.seq (.seq (.reg [⟨(some 8), .mv, [.c (.i .i64 0)], none⟩] [3, 4, 8])
 (.block 4
  l68_9))
 (.seq (.reg [⟨(some 80), .mv, [.t 4], none⟩,
   ⟨(some 2), .mv, [.t 80], none⟩] [2])
 .ret))))))

def d68 : DFun := ⟨1, 81, c68, [.t 2]⟩

theorem ok68 : Fok Tryd.prog 68 d68 := ⟨Tryd.f68, Tryd.func68, by kernel_rfl, by kernel_rfl⟩

-- (*bibelot/price.market).isRing
def b69_0 : DC :=
 (.seq (.reg [⟨(some 14), (.binI .lss), [.t 13, .t 12], none⟩] [0, 1, 5, 11, 12, 13, 14])
 (.seq (.cond (.t 14)
  .skip
  (.exit 0))
 (.seq (.block 1
  (.seq (.reg [⟨(some 15), .mv, [.t 13], none⟩,
    ⟨(some 16), (.ixS 1 false), [.t 11, .t 13], none⟩,
    ⟨(some 17), (.ld 1 false), [.t 16], none⟩,
    ⟨(some 6), .mv, [.t 15], none⟩,
    ⟨(some 7), .mv, [.t 17], none⟩] [0, 1, 5, 6, 7, 11, 12, 13])
  (.seq (.reg [⟨(some 18), .mv, [.t 7], none⟩,
    ⟨(some 19), (.binI .lss), [.t 18, .c (.i .i64 0)], none⟩,
    ⟨(some 20), .mv, [.t 19], none⟩,
    ⟨(some 21), .mv, [.t 7], (some (20, false))⟩,
    ⟨(some 22), .mv, [.t 0], (some (20, false))⟩,
    ⟨(some 23), .nilck, [.t 22], (some (20, false))⟩,
    ⟨(some 24), (.fadr 0 1 false), [.t 23], (some (20, false))⟩,
    ⟨(some 25), (.ld 1 false), [.t 24], (some (20, false))⟩,
    ⟨(some 26), (.binI .geq), [.t 21, .t 25], (some (20, false))⟩,
    ⟨(some 27), .pick, [.t 20, .c (.b true), .t 26], none⟩,
    ⟨(some 28), .mv, [.t 27], none⟩,
    ⟨(some 29), .mv, [.t 1], (some (28, false))⟩,
    ⟨(some 30), .mv, [.t 6], (some (28, false))⟩,
    ⟨(some 31), (.slc false true false 1 false), [.t 29, .t 30], (some (28, false))⟩,
    ⟨(some 32), .mv, [.t 7], (some (28, false))⟩,
    ⟨(some 33), (.call (.pu [])), [.c (.fn 85 [] []), .t 31, .t 32], (some (28, false))⟩,
    ⟨(some 34), .pick, [.t 28, .c (.b true), .t 33], none⟩] [0, 1, 5, 11, 12, 13, 34])
  (.cond (.t 34)
   (.seq (.reg [⟨(some 4), .mv, [.c (.b false)], none⟩] [4])
   .ret)
   .skip))))
 (.reg [⟨(some 35), (.binI .add), [.t 13, .c (.i .i64 1)], none⟩,
   ⟨(some 13), .mv, [.t 35], none⟩] [0, 1, 5, 11, 12, 13]))))

def l69_1 : DC :=
 (.loop [0, 1, 5, 11, 12, 13] b69_0)

def b69_2 : DC :=
 (.seq (.reg [⟨(some 39), (.binI .lss), [.t 38, .t 37], none⟩] [0, 1, 5, 36, 37, 38, 39])
 (.seq (.cond (.t 39)
  .skip
  (.exit 2))
 (.seq (.block 3
  (.seq (.reg [⟨(some 40), .mv, [.t 38], none⟩,
    ⟨(some 41), (.ixS 1 false), [.t 36, .t 38], none⟩,
    ⟨(some 42), (.ld 1 false), [.t 41], none⟩,
    ⟨(some 8), .mv, [.t 40], none⟩,
    ⟨(some 9), .mv, [.t 42], none⟩] [0, 1, 5, 8, 9, 36, 37, 38])
  (.seq (.reg [⟨(some 43), .mv, [.t 0], none⟩,
    ⟨(some 44), .mv, [.t 9], none⟩,
    ⟨(some 45), .mv, [.t 1], none⟩,
    ⟨(some 46), .mv, [.t 8], none⟩,
    ⟨(some 47), (.binI .add), [.t 46, .c (.i .i64 1)], none⟩,
    ⟨(some 48), .mv, [.t 1], none⟩,
    ⟨(some 49), (.len 0), [.t 48], none⟩,
    ⟨(some 50), (.binI .rem), [.t 47, .t 49], none⟩,
    ⟨(some 51), (.ixS 1 false), [.t 45, .t 50], none⟩,
    ⟨(some 52), (.ld 1 false), [.t 51], none⟩,
    ⟨(some 53), (.ld 2 true), [.g 0], none⟩,
    ⟨(some 54), (.call (.pu [])), [.c (.fn 74 [] []), .t 43, .t 44, .t 52, .t 53], none⟩,
    ⟨(some 10), .mv, [.t 54], none⟩] [0, 1, 5, 10, 36, 37, 38])
  (.seq (.seq (.reg [⟨(some 55), .mv, [.t 10], none⟩,
    ⟨(some 56), (.binI .eql), [.t 55, .c (.i .i64 0)], none⟩] [0, 1, 5, 10, 36, 37, 38, 56])
  (.cond (.t 56)
   (.seq (.reg [⟨(some 4), .mv, [.c (.b false)], none⟩] [4])
   .ret)
   .skip))
  (.reg [⟨(some 57), .mv, [.t 5], none⟩,
    ⟨(some 58), .mv, [.t 57], none⟩,
    ⟨(some 59), .mv, [.t 10], (some (58, false))⟩,
    ⟨(some 60), (.binI .eql), [.t 59, .c (.i .i64 2)], (some (58, false))⟩,
    ⟨(some 61), .pick, [.t 58, .c (.b true), .t 60], none⟩,
    ⟨(some 5), .mv, [.t 61], none⟩] [0, 1, 5, 36, 37, 38])))))
 (.reg [⟨(some 62), (.binI .add), [.t 38, .c (.i .i64 1)], none⟩,
   ⟨(some 38), .mv, [.t 62], none⟩] [0, 1, 5, 36, 37, 38]))))

def l69_3 : DC :=
 (.loop [0, 1, 5, 36, 37, 38] b69_2)

def c69 : DC :=
 (.seq (.reg [⟨(some 4), .mv, [.c (.b false)], none⟩] [0, 1])
 (.seq (.reg [⟨(some 5), .mv, [.c (.b false)], none⟩] [0, 1, 5])
 (.seq (.seq (.reg [⟨(some 11), .mv, [.t 1], none⟩,
   ⟨(some 12), (.len 0), [.t 11], none⟩,
   ⟨(some 13), .mv, [.c (.i .i64 0)], none⟩] [0, 1, 5, 11, 12, 13])
 (.block 0
  l69_1))
 (.seq (.seq (.reg [⟨(some 36), .mv, [.t 1], none⟩,
   ⟨(some 37), (.len 0), [.t 36], none⟩,
   ⟨(some 38), .mv, [.c (.i .i64 0)], none⟩] [0, 1, 5, 36, 37, 38])
 (.block 2
  l69_3))
 (.seq (.reg [⟨(some 63), .mv, [.t 1], none⟩,
   ⟨(some 64), (.len 0), [.t 63], none⟩,
   ⟨(some 65), (.binI .geq), [.t 64, .c (.i .i64 2)], none⟩,
   ⟨(some 66), .mv, [.t 65], none⟩,
   ⟨(some 67), .mv, [.t 5], (some (66, true))⟩,
   ⟨(some 68), .pick, [.t 66, .t 67, .c (.b false)], none⟩,
   ⟨(some 4), .mv, [.t 68], none⟩] [4])
 .ret)))))

def d69 : DFun := ⟨2, 69, c69, [.t 4]⟩

theorem ok69 : Fok Tryd.prog 69 d69 := ⟨Tryd.f69, Tryd.func69, by kernel_rfl, by kernel_rfl⟩

-- bibelot/price.sum[int]
def b70_0 : DC :=
 (.seq (.reg [⟨(some 9), (.binI .lss), [.t 8, .t 7], none⟩] [3, 6, 7, 8, 9])
 (.seq (.cond (.t 9)
  .skip
  (.exit 0))
 (.seq (.block 1
  (.seq (.reg [⟨(some 10), (.ixS 1 false), [.t 6, .t 8], none⟩,
    ⟨(some 11), (.ld 1 false), [.t 10], none⟩,
    ⟨(some 5), .mv, [.t 11], none⟩] [3, 5, 6, 7, 8])
  (.reg [⟨(some 12), .mv, [.t 3], none⟩,
    ⟨(some 13), .mv, [.t 5], none⟩,
    ⟨(some 14), (.binI .add), [.t 12, .t 13], none⟩,
    ⟨(some 3), .mv, [.t 14], none⟩] [3, 6, 7, 8])))
 (.reg [⟨(some 15), (.binI .add), [.t 8, .c (.i .i64 1)], none⟩,
   ⟨(some 8), .mv, [.t 15], none⟩] [3, 6, 7, 8]))))

def l70_1 : DC :=
 (.loop [3, 6, 7, 8] b70_0)

def c70 : DC :=
 (.seq (.reg [⟨(some 2), .mv, [.c (.i .i64 0)], none⟩] [0])
 (.seq (.reg [⟨(some 3), .mv, [.c (.i .i64 0)], none⟩] [0, 3])
 (.seq (.seq (.reg [⟨(some 6), .mv, [.t 0], none⟩,
   ⟨(some 7), (.len 0), [.t 6], none⟩,
   ⟨(some 8), .mv, [.c (.i .i64 0)], none⟩] [3, 6, 7, 8])
 (.block 0
  l70_1))
 (.seq (.reg [⟨(some 16), .mv, [.t 3], none⟩,
   ⟨(some 2), .mv, [.t 16], none⟩] [2])
 .ret))))

def d70 : DFun := ⟨1, 17, c70, [.t 2]⟩

theorem ok70 : Fok Tryd.prog 70 d70 := ⟨Tryd.f70, Tryd.func70, by kernel_rfl, by kernel_rfl⟩

-- slices.Clone[[]int,int]
def c71 : DC :=
 (.seq (.reg [⟨(some 2), .mv, [.c .nilsl], none⟩] [0])
 (.seq (.seq (.reg [⟨(some 3), .mv, [.t 0], none⟩,
   ⟨(some 4), (.eqN 0 false), [.t 3, .c .nilsl], none⟩] [0, 4])
 (.cond (.t 4)
  (.seq (.reg [⟨(some 2), .mv, [.c .nilsl], none⟩] [2])
  .ret)
  .skip))
 (.seq (.reg [⟨(some 5), (.bsl false [(.i .i64 0)] false 0 []), [], none⟩,
   ⟨(some 6), .mv, [.t 0], none⟩,
   ⟨(some 7), (.app 1 false 8), [.t 5, .t 6], none⟩,
   ⟨(some 2), .mv, [.t 7], none⟩] [2])
 .ret)))

def d71 : DFun := ⟨1, 8, c71, [.t 2]⟩

theorem ok71 : Fok Tryd.prog 71 d71 := ⟨Tryd.f71, Tryd.func71, by kernel_rfl, by kernel_rfl⟩

-- (*bibelot/price.market).numbers
def c72 : DC :=
 (.seq (.reg [⟨(some 1), (.box false), [.t 0], none⟩,
   ⟨(some 2), (.alloc (List.replicate 10 (.i .i64 0)) true), [], none⟩] [1, 2])
 (.seq (.reg [⟨(some 3), (.alloc (List.replicate 10 (.i .i64 0)) true), [], none⟩] [1, 2, 3])
 (.seq (.reg [⟨(some 4), (.alloc [(.i .i64 0)] false), [], none⟩,
   ⟨none, (.st 1), [.t 4, .c (.i .i64 0)], none⟩] [1, 2, 3, 4])
 (.seq (.reg [⟨(some 5), (.alloc [.nilfn] false), [], none⟩] [1, 2, 3, 4, 5])
 (.seq (.reg [⟨(some 6), (.mkfn 86 0), [.t 4, .t 1, .t 3, .t 5], none⟩,
   ⟨none, (.st 1), [.t 5, .t 6], none⟩] [2, 3, 5])
 (.seq (.reg [⟨(some 7), (.ld 1 false), [.t 5], none⟩,
   ⟨(some 8), (.call .sh), [.t 7], none⟩] [2, 3])
 (.seq (.reg [⟨(some 9), (.ld 10 true), [.t 3], none⟩,
   ⟨none, (.st 10), [.t 2, .t 9], none⟩] [2])
 .ret)))))))

def d72 : DFun := ⟨1, 10, c72, [.c 2 10 true]⟩

theorem ok72 : Fok Tryd.prog 72 d72 := ⟨Tryd.f72, Tryd.func72, by kernel_rfl, by kernel_rfl⟩

-- slices.Clone[[]int64,int64]
def c73 : DC :=
 (.seq (.reg [⟨(some 2), .mv, [.c .nilsl], none⟩] [0])
 (.seq (.seq (.reg [⟨(some 3), .mv, [.t 0], none⟩,
   ⟨(some 4), (.eqN 0 false), [.t 3, .c .nilsl], none⟩] [0, 4])
 (.cond (.t 4)
  (.seq (.reg [⟨(some 2), .mv, [.c .nilsl], none⟩] [2])
  .ret)
  .skip))
 (.seq (.reg [⟨(some 5), (.bsl false [(.i .i64 0)] false 0 []), [], none⟩,
   ⟨(some 6), .mv, [.t 0], none⟩,
   ⟨(some 7), (.app 1 false 8), [.t 5, .t 6], none⟩,
   ⟨(some 2), .mv, [.t 7], none⟩] [2])
 .ret)))

def d73 : DFun := ⟨1, 8, c73, [.t 2]⟩

theorem ok73 : Fok Tryd.prog 73 d73 := ⟨Tryd.f73, Tryd.func73, by kernel_rfl, by kernel_rfl⟩

-- (*bibelot/price.market).prefers
def c74 : DC :=
 (.seq (.reg [⟨(some 7), (.box true), [.t 3], none⟩,
   ⟨(some 8), .mv, [.c (.i .i64 0)], none⟩] [0, 1, 2, 7])
 (.seq (.reg [⟨(some 11), (.fadr 0 1 false), [.t 7], none⟩,
   ⟨(some 12), (.ld 1 false), [.t 11], none⟩,
   ⟨(some 13), .mv, [.t 0], none⟩,
   ⟨(some 14), .mv, [.t 1], none⟩,
   ⟨(some 15), .mv, [.t 1], none⟩,
   ⟨(some 16), .nilck, [.t 13], none⟩,
   ⟨(some 17), (.fadr 1 25 true), [.t 16], none⟩,
   ⟨(some 18), (.ixA 5 5 true), [.t 17, .t 14], none⟩,
   ⟨(some 19), (.ixA 5 1 false), [.t 18, .t 15], none⟩,
   ⟨(some 20), (.ld 1 false), [.t 19], none⟩,
   ⟨(some 21), (.binI .mul), [.t 12, .t 20], none⟩,
   ⟨(some 22), (.fadr 1 1 false), [.t 7], none⟩,
   ⟨(some 23), (.ld 1 false), [.t 22], none⟩,
   ⟨(some 24), .mv, [.t 0], none⟩,
   ⟨(some 25), .mv, [.t 1], none⟩,
   ⟨(some 26), .mv, [.t 2], none⟩,
   ⟨(some 27), .nilck, [.t 24], none⟩,
   ⟨(some 28), (.fadr 1 25 true), [.t 27], none⟩,
   ⟨(some 29), (.ixA 5 5 true), [.t 28, .t 25], none⟩,
   ⟨(some 30), (.ixA 5 1 false), [.t 29, .t 26], none⟩,
   ⟨(some 31), (.ld 1 false), [.t 30], none⟩,
   ⟨(some 32), (.binI .mul), [.t 23, .t 31], none⟩,
   ⟨(some 9), .mv, [.t 21], none⟩,
   ⟨(some 10), .mv, [.t 32], none⟩] [9, 10])
 (.seq (.block 0
  (.seq (.reg [⟨(some 34), .mv, [.t 10], none⟩,
    ⟨(some 35), .mv, [.t 9], none⟩,
    ⟨(some 36), (.binI .lss), [.t 34, .t 35], none⟩,
    ⟨(some 33), .mv, [.t 36], none⟩] [9, 10, 33])
  (.cond (.t 33)
   (.seq (.reg [⟨(some 8), .mv, [.c (.i .i64 2)], none⟩] [8])
   .ret)
   (.seq (.reg [⟨(some 38), .mv, [.t 10], none⟩,
     ⟨(some 39), .mv, [.t 9], none⟩,
     ⟨(some 40), (.binI .eql), [.t 38, .t 39], none⟩,
     ⟨(some 37), .mv, [.t 40], none⟩] [37])
   (.cond (.t 37)
    (.seq (.reg [⟨(some 8), .mv, [.c (.i .i64 1)], none⟩] [8])
    .ret)
    .skip)))))
 (.seq (.reg [⟨(some 8), .mv, [.c (.i .i64 0)], none⟩] [8])
 .ret))))

def d74 : DFun := ⟨4, 41, c74, [.t 8]⟩

theorem ok74 : Fok Tryd.prog 74 d74 := ⟨Tryd.f74, Tryd.func74, by kernel_rfl, by kernel_rfl⟩

-- (*bibelot/price.market).areNumbers
end Go.Proofs.Tryd.Dn

