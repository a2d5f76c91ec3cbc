import Derived.Test.YtegihfgibonhpaaProg
import Derived.Test.YtegihfgibonhpaaDc
set_option linter.unusedVariables false
set_option maxRecDepth 100000
namespace Go.Proofs.Try.Dn
open Go.Dn

-- (*bibelot/peg.tableau).plan
def b80_0 : DC :=
 (.seq (.reg [⟨(some 20), (.binI .lss), [.t 19, .t 18], none⟩] [0, 1, 2, 8, 9, 18, 19, 20])
 (.seq (.cond (.t 20)
  .skip
  (.exit 0))
 (.seq (.block 1
  (.seq (.reg [⟨(some 21), .mv, [.t 19], none⟩,
    ⟨(some 10), .mv, [.t 21], none⟩] [0, 1, 2, 8, 9, 10, 18, 19])
  (.seq (.reg [⟨(some 22), .mv, [.t 0], none⟩,
    ⟨(some 23), .nilck, [.t 22], none⟩,
    ⟨(some 24), (.fadr 1 1 false), [.t 23], none⟩,
    ⟨(some 25), (.ld 1 false), [.t 24], none⟩,
    ⟨(some 26), .mv, [.t 10], none⟩,
    ⟨(some 27), (.ixS 1 false), [.t 25, .t 26], none⟩,
    ⟨(some 28), (.ld 1 false), [.t 27], none⟩,
    ⟨(some 11), .mv, [.t 28], none⟩] [0, 1, 2, 8, 9, 10, 11, 18, 19])
  (.seq (.reg [⟨(some 29), .mv, [.t 11], none⟩,
    ⟨(some 30), .mv, [.t 2], none⟩,
    ⟨(some 31), (.binI .lss), [.t 29, .t 30], none⟩] [0, 1, 2, 8, 9, 10, 11, 18, 19, 31])
  (.cond (.t 31)
   (.seq (.reg [⟨(some 32), .mv, [.t 0], none⟩,
     ⟨(some 33), .nilck, [.t 32], none⟩,
     ⟨(some 34), (.fadr 0 1 false), [.t 33], none⟩,
     ⟨(some 35), (.ld 1 false), [.t 34], none⟩,
     ⟨(some 36), .mv, [.t 10], none⟩,
     ⟨(some 37), (.ixS 1 false), [.t 35, .t 36], none⟩,
     ⟨(some 38), (.ld 1 false), [.t 37], none⟩,
     ⟨(some 12), .mv, [.t 38], none⟩] [0, 1, 2, 8, 9, 11, 12, 18, 19])
   (.seq (.reg [⟨(some 39), .mv, [.t 12], none⟩,
     ⟨(some 40), .mv, [.t 11], none⟩,
     ⟨(some 41), (.ixS 1 false), [.t 39, .t 40], none⟩,
     ⟨(some 42), (.ld 1 false), [.t 41], none⟩,
     ⟨(some 43), .mv, [.t 12], none⟩,
     ⟨(some 44), .mv, [.t 11], none⟩,
     ⟨(some 45), (.ixS 1 false), [.t 43, .t 44], none⟩,
     ⟨(some 46), (.ld 1 false), [.t 45], none⟩,
     ⟨(some 47), .mv, [.t 12], none⟩,
     ⟨(some 48), .mv, [.t 2], none⟩,
     ⟨(some 49), .mv, [.t 1], none⟩,
     ⟨(some 50), (.binI .add), [.t 48, .t 49], none⟩,
     ⟨(some 51), (.ixS 1 false), [.t 47, .t 50], none⟩,
     ⟨(some 52), (.ld 1 false), [.t 51], none⟩,
     ⟨(some 53), (.bsl false [(.i .i64 0)] false 2 [0, 1]), [.t 46, .t 52], none⟩,
     ⟨(some 54), (.call (.pu [])), [.c (.fn 84 [] []), .t 53], none⟩,
     ⟨(some 55), (.binI .quo), [.t 42, .t 54], none⟩,
     ⟨(some 13), .mv, [.t 55], none⟩] [0, 1, 2, 8, 9, 13, 18, 19])
   (.reg [⟨(some 56), .mv, [.t 9], none⟩,
     ⟨(some 57), .mv, [.t 13], none⟩,
     ⟨(some 58), .mv, [.t 9], none⟩,
     ⟨(some 59), .mv, [.t 13], none⟩,
     ⟨(some 60), (.bsl false [(.i .i64 0)] false 2 [0, 1]), [.t 58, .t 59], none⟩,
     ⟨(some 61), (.call (.pu [])), [.c (.fn 86 [] []), .t 60], none⟩,
     ⟨(some 62), (.binI .quo), [.t 57, .t 61], none⟩,
     ⟨(some 63), (.binI .mul), [.t 56, .t 62], none⟩,
     ⟨(some 9), .mv, [.t 63], none⟩] [0, 1, 2, 8, 9, 18, 19])))
   .skip)))))
 (.reg [⟨(some 64), (.binI .add), [.t 19, .c (.i .i64 1)], none⟩,
   ⟨(some 19), .mv, [.t 64], none⟩] [0, 1, 2, 8, 9, 18, 19]))))

def l80_1 : DC :=
 (.loop [0, 1, 2, 8, 9, 18, 19] b80_0)

def b80_2 : DC :=
 (.seq (.reg [⟨(some 67), (.binI .lss), [.t 66, .t 65], none⟩] [0, 1, 2, 8, 9, 65, 66, 67])
 (.seq (.cond (.t 67)
  .skip
  (.exit 2))
 (.seq (.block 3
  (.seq (.reg [⟨(some 68), .mv, [.t 66], none⟩,
    ⟨(some 14), .mv, [.t 68], none⟩] [0, 1, 2, 8, 9, 14, 65, 66])
  (.seq (.reg [⟨(some 69), .mv, [.t 0], none⟩,
    ⟨(some 70), .nilck, [.t 69], none⟩,
    ⟨(some 71), (.fadr 1 1 false), [.t 70], none⟩,
    ⟨(some 72), (.ld 1 false), [.t 71], none⟩,
    ⟨(some 73), .mv, [.t 14], none⟩,
    ⟨(some 74), (.ixS 1 false), [.t 72, .t 73], none⟩,
    ⟨(some 75), (.ld 1 false), [.t 74], none⟩,
    ⟨(some 15), .mv, [.t 75], none⟩] [0, 1, 2, 8, 9, 14, 15, 65, 66])
  (.seq (.reg [⟨(some 76), .mv, [.t 15], none⟩,
    ⟨(some 77), .mv, [.t 2], none⟩,
    ⟨(some 78), (.binI .lss), [.t 76, .t 77], none⟩] [0, 1, 2, 8, 9, 14, 15, 65, 66, 78])
  (.cond (.t 78)
   (.reg [⟨(some 79), .mv, [.t 8], none⟩,
     ⟨(some 80), .mv, [.t 15], none⟩,
     ⟨(some 81), .mv, [.t 9], none⟩,
     ⟨(some 82), .mv, [.t 0], none⟩,
     ⟨(some 83), .nilck, [.t 82], none⟩,
     ⟨(some 84), (.fadr 0 1 false), [.t 83], none⟩,
     ⟨(some 85), (.ld 1 false), [.t 84], none⟩,
     ⟨(some 86), .mv, [.t 14], none⟩,
     ⟨(some 87), (.ixS 1 false), [.t 85, .t 86], none⟩,
     ⟨(some 88), (.ld 1 false), [.t 87], none⟩,
     ⟨(some 89), .mv, [.t 2], none⟩,
     ⟨(some 90), .mv, [.t 1], none⟩,
     ⟨(some 91), (.binI .add), [.t 89, .t 90], none⟩,
     ⟨(some 92), (.ixS 1 false), [.t 88, .t 91], none⟩,
     ⟨(some 93), (.ld 1 false), [.t 92], none⟩,
     ⟨(some 94), (.binI .mul), [.t 81, .t 93], none⟩,
     ⟨(some 95), .mv, [.t 0], none⟩,
     ⟨(some 96), .nilck, [.t 95], none⟩,
     ⟨(some 97), (.fadr 0 1 false), [.t 96], none⟩,
     ⟨(some 98), (.ld 1 false), [.t 97], none⟩,
     ⟨(some 99), .mv, [.t 14], none⟩,
     ⟨(some 100), (.ixS 1 false), [.t 98, .t 99], none⟩,
     ⟨(some 101), (.ld 1 false), [.t 100], none⟩,
     ⟨(some 102), .mv, [.t 15], none⟩,
     ⟨(some 103), (.ixS 1 false), [.t 101, .t 102], none⟩,
     ⟨(some 104), (.ld 1 false), [.t 103], none⟩,
     ⟨(some 105), (.binI .quo), [.t 94, .t 104], none⟩,
     ⟨(some 106), (.ixS 1 false), [.t 79, .t 80], none⟩,
     ⟨none, (.st 1), [.t 106, .t 105], none⟩] [0, 1, 2, 8, 9, 65, 66])
   .skip)))))
 (.reg [⟨(some 107), (.binI .add), [.t 66, .c (.i .i64 1)], none⟩,
   ⟨(some 66), .mv, [.t 107], none⟩] [0, 1, 2, 8, 9, 65, 66]))))

def l80_3 : DC :=
 (.loop [0, 1, 2, 8, 9, 65, 66] b80_2)

def c80 : DC :=
 (.seq (.reg [⟨(some 6), .mv, [.c (.i .i64 0)], none⟩,
   ⟨(some 7), .mv, [.c .nilsl], none⟩] [0, 1, 2])
 (.seq (.reg [⟨(some 16), .mv, [.t 2], none⟩,
   ⟨(some 17), (.mksl [(.i .i64 0)] false 8), [.t 16, .t 16], none⟩,
   ⟨(some 8), .mv, [.t 17], none⟩] [0, 1, 2, 8])
 (.seq (.reg [⟨(some 9), .mv, [.c (.i .i64 1)], none⟩] [0, 1, 2, 8, 9])
 (.seq (.seq (.reg [⟨(some 18), .mv, [.t 1], none⟩,
   ⟨(some 19), .mv, [.c (.i .i64 0)], none⟩] [0, 1, 2, 8, 9, 18, 19])
 (.block 0
  l80_1))
 (.seq (.seq (.reg [⟨(some 65), .mv, [.t 1], none⟩,
   ⟨(some 66), .mv, [.c (.i .i64 0)], none⟩] [0, 1, 2, 8, 9, 65, 66])
 (.block 2
  l80_3))
 (.seq (.reg [⟨(some 108), .mv, [.t 9], none⟩,
   ⟨(some 109), .mv, [.t 8], none⟩,
   ⟨(some 6), .mv, [.t 108], none⟩,
   ⟨(some 7), .mv, [.t 109], none⟩] [6, 7])
 .ret))))))

def d80 : DFun := ⟨3, 110, c80, [.t 6, .t 7]⟩

theorem ok80 : Fok Try.prog 80 d80 := ⟨Try.f80, Try.func80, by kernel_rfl, by kernel_rfl⟩

-- slices.pdqsortCmpFunc[[3]int]
def b81_0 : DC :=
 (.block 1
  (.seq (.reg [⟨(some 21), .mv, [.t 2], none⟩,
    ⟨(some 22), .mv, [.t 1], none⟩,
    ⟨(some 23), (.binI .sub), [.t 21, .t 22], none⟩,
    ⟨(some 12), .mv, [.t 23], none⟩] [0, 1, 2, 3, 4, 10, 11, 12])
  (.seq (.seq (.reg [⟨(some 24), .mv, [.t 12], none⟩,
    ⟨(some 25), (.binI .leq), [.t 24, .c (.i .i64 12)], none⟩] [0, 1, 2, 3, 4, 10, 11, 12, 25])
  (.cond (.t 25)
   (.seq (.reg [⟨(some 26), .mv, [.t 0], none⟩,
     ⟨(some 27), .mv, [.t 1], none⟩,
     ⟨(some 28), .mv, [.t 2], none⟩,
     ⟨(some 29), .mv, [.t 4], none⟩,
     ⟨(some 30), (.call .sh), [.c (.fn 87 [] []), .t 26, .t 27, .t 28, .t 29], none⟩] [])
   .ret)
   .skip))
  (.seq (.seq (.reg [⟨(some 31), .mv, [.t 3], none⟩,
    ⟨(some 32), (.binI .eql), [.t 31, .c (.i .i64 0)], none⟩] [0, 1, 2, 3, 4, 10, 11, 12, 32])
  (.cond (.t 32)
   (.seq (.reg [⟨(some 33), .mv, [.t 0], none⟩,
     ⟨(some 34), .mv, [.t 1], none⟩,
     ⟨(some 35), .mv, [.t 2], none⟩,
     ⟨(some 36), .mv, [.t 4], none⟩,
     ⟨(some 37), (.call .sh), [.c (.fn 88 [] []), .t 33, .t 34, .t 35, .t 36], none⟩] [])
   .ret)
   .skip))
  (.seq (.seq (.reg [⟨(some 38), .mv, [.t 10], none⟩,
    ⟨(some 39), .notB, [.t 38], none⟩] [0, 1, 2, 3, 4, 10, 11, 12, 39])
  (.cond (.t 39)
   (.seq (.reg [⟨(some 40), .mv, [.t 0], none⟩,
     ⟨(some 41), .mv, [.t 1], none⟩,
     ⟨(some 42), .mv, [.t 2], none⟩,
     ⟨(some 43), .mv, [.t 4], none⟩,
     ⟨(some 44), (.call .sh), [.c (.fn 89 [] []), .t 40, .t 41, .t 42, .t 43], none⟩] [0, 1, 2, 3, 4, 10, 11, 12])
   (.reg [⟨(some 45), .mv, [.t 3], none⟩,
     ⟨(some 46), (.binI .sub), [.t 45, .c (.i .i64 1)], none⟩,
     ⟨(some 3), .mv, [.t 46], none⟩] [0, 1, 2, 3, 4, 10, 11, 12]))
   .skip))
  (.seq (.reg [⟨(some 48), .mv, [.t 0], none⟩,
    ⟨(some 49), .mv, [.t 1], none⟩,
    ⟨(some 50), .mv, [.t 2], none⟩,
    ⟨(some 51), .mv, [.t 4], none⟩,
    ⟨(some 52), (.call .sh), [.c (.fn 90 [] []), .t 48, .t 49, .t 50, .t 51], none⟩,
    ⟨(some 47), .mv, [.t 52], none⟩,
    ⟨(some 53), (.ext 0), [.t 47], none⟩,
    ⟨(some 54), (.ext 1), [.t 47], none⟩,
    ⟨(some 13), .mv, [.t 53], none⟩,
    ⟨(some 14), .mv, [.t 54], none⟩] [0, 1, 2, 3, 4, 10, 11, 12, 13, 14])
  (.seq (.seq (.reg [⟨(some 55), .mv, [.t 14], none⟩,
    ⟨(some 56), (.binI .eql), [.t 55, .c (.i .i64 2)], none⟩] [0, 1, 2, 3, 4, 10, 11, 12, 13, 14, 56])
  (.cond (.t 56)
   (.seq (.reg [⟨(some 57), .mv, [.t 0], none⟩,
     ⟨(some 58), .mv, [.t 1], none⟩,
     ⟨(some 59), .mv, [.t 2], none⟩,
     ⟨(some 60), .mv, [.t 4], none⟩,
     ⟨(some 61), (.call .sh), [.c (.fn 91 [] []), .t 57, .t 58, .t 59, .t 60], none⟩] [0, 1, 2, 3, 4, 10, 11, 12, 13])
   (.seq (.reg [⟨(some 62), .mv, [.t 2], none⟩,
     ⟨(some 63), (.binI .sub), [.t 62, .c (.i .i64 1)], none⟩,
     ⟨(some 64), .mv, [.t 13], none⟩,
     ⟨(some 65), .mv, [.t 1], none⟩,
     ⟨(some 66), (.binI .sub), [.t 64, .t 65], none⟩,
     ⟨(some 67), (.binI .sub), [.t 63, .t 66], none⟩,
     ⟨(some 13), .mv, [.t 67], none⟩] [0, 1, 2, 3, 4, 10, 11, 12, 13])
   (.reg [⟨(some 14), .mv, [.c (.i .i64 1)], none⟩] [0, 1, 2, 3, 4, 10, 11, 12, 13, 14])))
   .skip))
  (.seq (.seq (.reg [⟨(some 68), .mv, [.t 10], none⟩,
    ⟨(some 69), .mv, [.t 68], none⟩,
    ⟨(some 70), .mv, [.t 11], (some (69, true))⟩,
    ⟨(some 71), .pick, [.t 69, .t 70, .c (.b false)], none⟩,
    ⟨(some 72), .mv, [.t 71], none⟩,
    ⟨(some 73), .mv, [.t 14], (some (72, true))⟩,
    ⟨(some 74), (.binI .eql), [.t 73, .c (.i .i64 1)], (some (72, true))⟩,
    ⟨(some 75), .pick, [.t 72, .t 74, .c (.b false)], none⟩] [0, 1, 2, 3, 4, 10, 11, 12, 13, 75])
  (.cond (.t 75)
   (.seq (.reg [⟨(some 76), .mv, [.t 0], none⟩,
     ⟨(some 77), .mv, [.t 1], none⟩,
     ⟨(some 78), .mv, [.t 2], none⟩,
     ⟨(some 79), .mv, [.t 4], none⟩,
     ⟨(some 80), (.call .sh), [.c (.fn 92 [] []), .t 76, .t 77, .t 78, .t 79], none⟩] [0, 1, 2, 3, 4, 10, 11, 12, 13, 80])
   (.cond (.t 80)
    .ret
    .skip))
   .skip))
  (.seq (.seq (.reg [⟨(some 81), .mv, [.t 1], none⟩,
    ⟨(some 82), (.binI .gtr), [.t 81, .c (.i .i64 0)], none⟩,
    ⟨(some 83), .mv, [.t 82], none⟩,
    ⟨(some 84), .mv, [.t 4], (some (83, true))⟩,
    ⟨(some 85), .mv, [.t 0], (some (83, true))⟩,
    ⟨(some 86), .mv, [.t 1], (some (83, true))⟩,
    ⟨(some 87), (.binI .sub), [.t 86, .c (.i .i64 1)], (some (83, true))⟩,
    ⟨(some 88), (.ixS 3 true), [.t 85, .t 87], (some (83, true))⟩,
    ⟨(some 89), (.ld 3 true), [.t 88], (some (83, true))⟩,
    ⟨(some 90), .mv, [.t 0], (some (83, true))⟩,
    ⟨(some 91), .mv, [.t 13], (some (83, true))⟩,
    ⟨(some 92), (.ixS 3 true), [.t 90, .t 91], (some (83, true))⟩,
    ⟨(some 93), (.ld 3 true), [.t 92], (some (83, true))⟩,
    ⟨(some 94), (.call .sh), [.t 84, .t 89, .t 93], (some (83, true))⟩,
    ⟨(some 95), (.binI .lss), [.t 94, .c (.i .i64 0)], (some (83, true))⟩,
    ⟨(some 96), .notB, [.t 95], (some (83, true))⟩,
    ⟨(some 97), .pick, [.t 83, .t 96, .c (.b false)], none⟩] [0, 1, 2, 3, 4, 10, 11, 12, 13, 97])
  (.cond (.t 97)
   (.seq (.reg [⟨(some 98), .mv, [.t 0], none⟩,
     ⟨(some 99), .mv, [.t 1], none⟩,
     ⟨(some 100), .mv, [.t 2], none⟩,
     ⟨(some 101), .mv, [.t 13], none⟩,
     ⟨(some 102), .mv, [.t 4], none⟩,
     ⟨(some 103), (.call .sh), [.c (.fn 93 [] []), .t 98, .t 99, .t 100, .t 101, .t 102], none⟩,
     ⟨(some 15), .mv, [.t 103], none⟩] [0, 2, 3, 4, 10, 11, 15])
   (.seq (.reg [⟨(some 104), .mv, [.t 15], none⟩,
     ⟨(some 1), .mv, [.t 104], none⟩] [0, 1, 2, 3, 4, 10, 11])
   (.exit 1)))
   .skip))
  (.seq (.reg [⟨(some 106), .mv, [.t 0], none⟩,
    ⟨(some 107), .mv, [.t 1], none⟩,
    ⟨(some 108), .mv, [.t 2], none⟩,
    ⟨(some 109), .mv, [.t 13], none⟩,
    ⟨(some 110), .mv, [.t 4], none⟩,
    ⟨(some 111), (.call .sh), [.c (.fn 94 [] []), .t 106, .t 107, .t 108, .t 109, .t 110], none⟩,
    ⟨(some 105), .mv, [.t 111], none⟩,
    ⟨(some 112), (.ext 0), [.t 105], none⟩,
    ⟨(some 113), (.ext 1), [.t 105], none⟩,
    ⟨(some 16), .mv, [.t 112], none⟩,
    ⟨(some 17), .mv, [.t 113], none⟩] [0, 1, 2, 3, 4, 12, 16, 17])
  (.seq (.reg [⟨(some 114), .mv, [.t 17], none⟩,
    ⟨(some 11), .mv, [.t 114], none⟩] [0, 1, 2, 3, 4, 11, 12, 16])
  (.seq (.reg [⟨(some 115), .mv, [.t 16], none⟩,
    ⟨(some 116), .mv, [.t 1], none⟩,
    ⟨(some 117), (.binI .sub), [.t 115, .t 116], none⟩,
    ⟨(some 118), .mv, [.t 2], none⟩,
    ⟨(some 119), .mv, [.t 16], none⟩,
    ⟨(some 120), (.binI .sub), [.t 118, .t 119], none⟩,
    ⟨(some 18), .mv, [.t 117], none⟩,
    ⟨(some 19), .mv, [.t 120], none⟩] [0, 1, 2, 3, 4, 11, 12, 16, 18, 19])
  (.seq (.reg [⟨(some 121), .mv, [.t 12], none⟩,
    ⟨(some 122), (.binI .quo), [.t 121, .c (.i .i64 8)], none⟩,
    ⟨(some 20), .mv, [.t 122], none⟩] [0, 1, 2, 3, 4, 11, 16, 18, 19, 20])
  (.seq (.reg [⟨(some 123), .mv, [.t 18], none⟩,
    ⟨(some 124), .mv, [.t 19], none⟩,
    ⟨(some 125), (.binI .lss), [.t 123, .t 124], none⟩] [0, 1, 2, 3, 4, 11, 16, 18, 19, 20, 125])
  (.cond (.t 125)
   (.seq (.reg [⟨(some 126), .mv, [.t 18], none⟩,
     ⟨(some 127), .mv, [.t 20], none⟩,
     ⟨(some 128), (.binI .geq), [.t 126, .t 127], none⟩,
     ⟨(some 10), .mv, [.t 128], none⟩] [0, 1, 2, 3, 4, 10, 11, 16])
   (.seq (.reg [⟨(some 129), .mv, [.t 0], none⟩,
     ⟨(some 130), .mv, [.t 1], none⟩,
     ⟨(some 131), .mv, [.t 16], none⟩,
     ⟨(some 132), .mv, [.t 3], none⟩,
     ⟨(some 133), .mv, [.t 4], none⟩,
     ⟨(some 134), (.call .sh), [.c (.fn 81 [] []), .t 129, .t 130, .t 131, .t 132, .t 133], none⟩] [0, 2, 3, 4, 10, 11, 16])
   (.reg [⟨(some 135), .mv, [.t 16], none⟩,
     ⟨(some 136), (.binI .add), [.t 135, .c (.i .i64 1)], none⟩,
     ⟨(some 1), .mv, [.t 136], none⟩] [0, 1, 2, 3, 4, 10, 11])))
   (.seq (.reg [⟨(some 137), .mv, [.t 19], none⟩,
     ⟨(some 138), .mv, [.t 20], none⟩,
     ⟨(some 139), (.binI .geq), [.t 137, .t 138], none⟩,
     ⟨(some 10), .mv, [.t 139], none⟩] [0, 1, 2, 3, 4, 10, 11, 16])
   (.seq (.reg [⟨(some 140), .mv, [.t 0], none⟩,
     ⟨(some 141), .mv, [.t 16], none⟩,
     ⟨(some 142), (.binI .add), [.t 141, .c (.i .i64 1)], none⟩,
     ⟨(some 143), .mv, [.t 2], none⟩,
     ⟨(some 144), .mv, [.t 3], none⟩,
     ⟨(some 145), .mv, [.t 4], none⟩,
     ⟨(some 146), (.call .sh), [.c (.fn 81 [] []), .t 140, .t 142, .t 143, .t 144, .t 145], none⟩] [0, 1, 3, 4, 10, 11, 16])
   (.reg [⟨(some 147), .mv, [.t 16], none⟩,
     ⟨(some 2), .mv, [.t 147], none⟩] [0, 1, 2, 3, 4, 10, 11]))))))))))))))))))

def l81_1 : DC :=
 (.loop [0, 1, 2, 3, 4, 10, 11] b81_0)

def c81 : DC :=
 (.seq (.reg [⟨(some 10), .mv, [.c (.b true)], none⟩] [0, 1, 2, 3, 4, 10])
 (.seq (.reg [⟨(some 11), .mv, [.c (.b true)], none⟩] [0, 1, 2, 3, 4, 10, 11])
 (.block 0
  l81_1)))

def d81 : DFun := ⟨5, 148, c81, []⟩

theorem ok81 : Fok Try.prog 81 d81 := ⟨Try.f81, Try.func81, by kernel_rfl, by kernel_rfl⟩

-- math/bits.Len
def c82 : DC :=
 (.seq (.reg [⟨(some 2), .mv, [.c (.i .i64 0)], none⟩] [0])
 (.seq (.cond (.c (.b false))
  (.seq (.reg [⟨(some 3), .mv, [.t 0], none⟩,
    ⟨(some 4), (.conv .u32), [.t 3], none⟩,
    ⟨(some 5), (.call (.pu [])), [.c (.fn 95 [] []), .t 4], none⟩,
    ⟨(some 2), .mv, [.t 5], none⟩] [2])
  .ret)
  .skip)
 (.seq (.reg [⟨(some 6), .mv, [.t 0], none⟩,
   ⟨(some 7), (.call (.pu [])), [.c (.fn 96 [] []), .t 6], none⟩,
   ⟨(some 2), .mv, [.t 7], none⟩] [2])
 .ret)))

def d82 : DFun := ⟨1, 8, c82, [.t 2]⟩

theorem ok82 : Fok Try.prog 82 d82 := ⟨Try.f82, Try.func82, by kernel_rfl, by kernel_rfl⟩

-- cmp.Compare[int]
def c83 : DC :=
 (.seq (.reg [⟨(some 4), .mv, [.c (.i .i64 0)], none⟩] [0, 1])
 (.seq (.reg [⟨(some 7), .mv, [.t 0], none⟩,
   ⟨(some 8), (.call (.pu [])), [.c (.fn 97 [] []), .t 7], none⟩,
   ⟨(some 5), .mv, [.t 8], none⟩] [0, 1, 5])
 (.seq (.reg [⟨(some 9), .mv, [.t 1], none⟩,
   ⟨(some 10), (.call (.pu [])), [.c (.fn 97 [] []), .t 9], none⟩,
   ⟨(some 6), .mv, [.t 10], none⟩] [0, 1, 5, 6])
 (.seq (.seq (.reg [⟨(some 11), .mv, [.t 5], none⟩] [0, 1, 6, 11])
 (.cond (.t 11)
  (.seq (.seq (.reg [⟨(some 12), .mv, [.t 6], none⟩] [12])
  (.cond (.t 12)
   (.seq (.reg [⟨(some 4), .mv, [.c (.i .i64 0)], none⟩] [4])
   .ret)
   .skip))
  (.seq (.reg [⟨(some 4), .mv, [.c (.i .i64 (-1))], none⟩] [4])
  .ret))
  .skip))
 (.seq (.seq (.reg [⟨(some 13), .mv, [.t 6], none⟩] [0, 1, 13])
 (.cond (.t 13)
  (.seq (.reg [⟨(some 4), .mv, [.c (.i .i64 1)], none⟩] [4])
  .ret)
  .skip))
 (.seq (.seq (.reg [⟨(some 14), .mv, [.t 0], none⟩,
   ⟨(some 15), .mv, [.t 1], none⟩,
   ⟨(some 16), (.binI .lss), [.t 14, .t 15], none⟩] [0, 1, 16])
 (.cond (.t 16)
  (.seq (.reg [⟨(some 4), .mv, [.c (.i .i64 (-1))], none⟩] [4])
  .ret)
  .skip))
 (.seq (.seq (.reg [⟨(some 17), .mv, [.t 0], none⟩,
   ⟨(some 18), .mv, [.t 1], none⟩,
   ⟨(some 19), (.binI .gtr), [.t 17, .t 18], none⟩] [19])
 (.cond (.t 19)
  (.seq (.reg [⟨(some 4), .mv, [.c (.i .i64 1)], none⟩] [4])
  .ret)
  .skip))
 (.seq (.reg [⟨(some 4), .mv, [.c (.i .i64 0)], none⟩] [4])
 .ret))))))))

def d83 : DFun := ⟨2, 20, c83, [.t 4]⟩

theorem ok83 : Fok Try.prog 83 d83 := ⟨Try.f83, Try.func83, by kernel_rfl, by kernel_rfl⟩

-- bibelot/peg.gcd[int64]
def b84_0 : DC :=
 (.seq (.seq (.reg [⟨(some 12), .mv, [.t 5], none⟩,
   ⟨(some 13), (.binI .neq), [.t 12, .c (.i .i64 0)], none⟩] [3, 5, 6, 7, 8, 13])
 (.cond (.t 13)
  .skip
  (.exit 2)))
 (.block 3
  (.reg [⟨(some 14), .mv, [.t 5], none⟩,
    ⟨(some 15), .mv, [.t 3], none⟩,
    ⟨(some 16), .mv, [.t 5], none⟩,
    ⟨(some 17), (.binI .rem), [.t 15, .t 16], none⟩,
    ⟨(some 3), .mv, [.t 14], none⟩,
    ⟨(some 5), .mv, [.t 17], none⟩] [3, 5, 6, 7, 8])))

def l84_1 : DC :=
 (.loop [3, 5, 6, 7, 8] b84_0)

def b84_2 : DC :=
 (.seq (.reg [⟨(some 9), (.binI .lss), [.t 8, .t 7], none⟩] [3, 6, 7, 8, 9])
 (.seq (.cond (.t 9)
  .skip
  (.exit 0))
 (.seq (.block 1
  (.seq (.reg [⟨(some 10), (.ixS 1 false), [.t 6, .t 8], none⟩,
    ⟨(some 11), (.ld 1 false), [.t 10], none⟩,
    ⟨(some 5), .mv, [.t 11], none⟩] [3, 5, 6, 7, 8])
  (.block 2
   l84_1)))
 (.reg [⟨(some 18), (.binI .add), [.t 8, .c (.i .i64 1)], none⟩,
   ⟨(some 8), .mv, [.t 18], none⟩] [3, 6, 7, 8]))))

def l84_3 : DC :=
 (.loop [3, 6, 7, 8] b84_2)

def c84 : DC :=
 (.seq (.reg [⟨(some 2), .mv, [.c (.i .i64 0)], none⟩] [0])
 (.seq (.reg [⟨(some 3), .mv, [.c (.i .i64 0)], none⟩] [0, 3])
 (.seq (.seq (.reg [⟨(some 6), .mv, [.t 0], none⟩,
   ⟨(some 7), (.len 0), [.t 6], none⟩,
   ⟨(some 8), .mv, [.c (.i .i64 0)], none⟩] [3, 6, 7, 8])
 (.block 0
  l84_3))
 (.seq (.reg [⟨(some 19), .mv, [.t 3], none⟩,
   ⟨(some 20), .mv, [.t 3], none⟩,
   ⟨(some 21), (.negI .i64), [.t 20], none⟩,
   ⟨(some 22), .mxI, [.t 19, .t 21], none⟩,
   ⟨(some 2), .mv, [.t 22], none⟩] [2])
 .ret))))

def d84 : DFun := ⟨1, 23, c84, [.t 2]⟩

theorem ok84 : Fok Try.prog 84 d84 := ⟨Try.f84, Try.func84, by kernel_rfl, by kernel_rfl⟩

-- bibelot/peg.shorten
def b85_0 : DC :=
 (.seq (.reg [⟨(some 11), (.binI .lss), [.t 10, .t 9], none⟩] [0, 2, 9, 10, 11])
 (.seq (.cond (.t 11)
  .skip
  (.exit 0))
 (.seq (.block 1
  (.seq (.reg [⟨(some 12), .mv, [.t 10], none⟩,
    ⟨(some 3), .mv, [.t 12], none⟩] [0, 2, 3, 9, 10])
  (.reg [⟨(some 13), .mv, [.t 0], none⟩,
    ⟨(some 14), .mv, [.t 3], none⟩,
    ⟨(some 15), (.ixS 1 false), [.t 13, .t 14], none⟩,
    ⟨(some 16), (.ld 1 false), [.t 15], none⟩,
    ⟨(some 17), .mv, [.t 2], none⟩,
    ⟨(some 18), (.binI .quo), [.t 16, .t 17], none⟩,
    ⟨(some 19), (.ixS 1 false), [.t 13, .t 14], none⟩,
    ⟨none, (.st 1), [.t 19, .t 18], none⟩] [0, 2, 9, 10])))
 (.reg [⟨(some 20), (.binI .add), [.t 10, .c (.i .i64 1)], none⟩,
   ⟨(some 10), .mv, [.t 20], none⟩] [0, 2, 9, 10]))))

def l85_1 : DC :=
 (.loop [0, 2, 9, 10] b85_0)

def c85 : DC :=
 (.seq (.reg [⟨(some 4), .mv, [.t 0], none⟩,
   ⟨(some 5), (.call (.pu [])), [.c (.fn 84 [] []), .t 4], none⟩,
   ⟨(some 2), .mv, [.t 5], none⟩] [0, 2])
 (.seq (.reg [⟨(some 6), .mv, [.t 2], none⟩,
   ⟨(some 7), (.binI .gtr), [.t 6, .c (.i .i64 1)], none⟩] [0, 2, 7])
 (.cond (.t 7)
  (.seq (.reg [⟨(some 8), .mv, [.t 0], none⟩,
    ⟨(some 9), (.len 0), [.t 8], none⟩,
    ⟨(some 10), .mv, [.c (.i .i64 0)], none⟩] [0, 2, 9, 10])
  (.block 0
   l85_1))
  .skip)))

def d85 : DFun := ⟨1, 21, c85, []⟩

theorem ok85 : Fok Try.prog 85 d85 := ⟨Try.f85, Try.func85, by kernel_rfl, by kernel_rfl⟩

-- bibelot/peg.gcd[int]
def b86_0 : DC :=
 (.seq (.seq (.reg [⟨(some 12), .mv, [.t 5], none⟩,
   ⟨(some 13), (.binI .neq), [.t 12, .c (.i .i64 0)], none⟩] [3, 5, 6, 7, 8, 13])
 (.cond (.t 13)
  .skip
  (.exit 2)))
 (.block 3
  (.reg [⟨(some 14), .mv, [.t 5], none⟩,
    ⟨(some 15), .mv, [.t 3], none⟩,
    ⟨(some 16), .mv, [.t 5], none⟩,
    ⟨(some 17), (.binI .rem), [.t 15, .t 16], none⟩,
    ⟨(some 3), .mv, [.t 14], none⟩,
    ⟨(some 5), .mv, [.t 17], none⟩] [3, 5, 6, 7, 8])))

def l86_1 : DC :=
 (.loop [3, 5, 6, 7, 8] b86_0)

def b86_2 : DC :=
 (.seq (.reg [⟨(some 9), (.binI .lss), [.t 8, .t 7], none⟩] [3, 6, 7, 8, 9])
 (.seq (.cond (.t 9)
  .skip
  (.exit 0))
 (.seq (.block 1
  (.seq (.reg [⟨(some 10), (.ixS 1 false), [.t 6, .t 8], none⟩,
    ⟨(some 11), (.ld 1 false), [.t 10], none⟩,
    ⟨(some 5), .mv, [.t 11], none⟩] [3, 5, 6, 7, 8])
  (.block 2
   l86_1)))
 (.reg [⟨(some 18), (.binI .add), [.t 8, .c (.i .i64 1)], none⟩,
   ⟨(some 8), .mv, [.t 18], none⟩] [3, 6, 7, 8]))))

def l86_3 : DC :=
 (.loop [3, 6, 7, 8] b86_2)

def c86 : DC :=
 (.seq (.reg [⟨(some 2), .mv, [.c (.i .i64 0)], none⟩] [0])
 (.seq (.reg [⟨(some 3), .mv, [.c (.i .i64 0)], none⟩] [0, 3])
 (.seq (.seq (.reg [⟨(some 6), .mv, [.t 0], none⟩,
   ⟨(some 7), (.len 0), [.t 6], none⟩,
   ⟨(some 8), .mv, [.c (.i .i64 0)], none⟩] [3, 6, 7, 8])
 (.block 0
  l86_3))
 (.seq (.reg [⟨(some 19), .mv, [.t 3], none⟩,
   ⟨(some 20), .mv, [.t 3], none⟩,
   ⟨(some 21), (.negI .i64), [.t 20], none⟩,
   ⟨(some 22), .mxI, [.t 19, .t 21], none⟩,
   ⟨(some 2), .mv, [.t 22], none⟩] [2])
 .ret))))

def d86 : DFun := ⟨1, 23, c86, [.t 2]⟩

theorem ok86 : Fok Try.prog 86 d86 := ⟨Try.f86, Try.func86, by kernel_rfl, by kernel_rfl⟩

-- slices.insertionSortCmpFunc[[3]int]
def b87_0 : DC :=
 (.seq (.seq (.reg [⟨(some 18), .mv, [.t 9], none⟩,
   ⟨(some 19), .mv, [.t 1], none⟩,
   ⟨(some 20), (.binI .gtr), [.t 18, .t 19], none⟩,
   ⟨(some 21), .mv, [.t 20], none⟩,
   ⟨(some 22), .mv, [.t 3], (some (21, true))⟩,
   ⟨(some 23), .mv, [.t 0], (some (21, true))⟩,
   ⟨(some 24), .mv, [.t 9], (some (21, true))⟩,
   ⟨(some 25), (.ixS 3 true), [.t 23, .t 24], (some (21, true))⟩,
   ⟨(some 26), (.ld 3 true), [.t 25], (some (21, true))⟩,
   ⟨(some 27), .mv, [.t 0], (some (21, true))⟩,
   ⟨(some 28), .mv, [.t 9], (some (21, true))⟩,
   ⟨(some 29), (.binI .sub), [.t 28, .c (.i .i64 1)], (some (21, true))⟩,
   ⟨(some 30), (.ixS 3 true), [.t 27, .t 29], (some (21, true))⟩,
   ⟨(some 31), (.ld 3 true), [.t 30], (some (21, true))⟩,
   ⟨(some 32), (.call .sh), [.t 22, .t 26, .t 31], (some (21, true))⟩,
   ⟨(some 33), (.binI .lss), [.t 32, .c (.i .i64 0)], (some (21, true))⟩,
   ⟨(some 34), .pick, [.t 21, .t 33, .c (.b false)], none⟩] [0, 1, 2, 3, 8, 9, 34])
 (.cond (.t 34)
  .skip
  (.exit 2)))
 (.seq (.block 3
  (.reg [⟨(some 37), .mv, [.t 0], none⟩,
    ⟨(some 38), .mv, [.t 9], none⟩,
    ⟨(some 39), .mv, [.t 0], none⟩,
    ⟨(some 40), .mv, [.t 9], none⟩,
    ⟨(some 41), (.binI .sub), [.t 40, .c (.i .i64 1)], none⟩,
    ⟨(some 42), .mv, [.t 0], none⟩,
    ⟨(some 43), .mv, [.t 9], none⟩,
    ⟨(some 44), (.binI .sub), [.t 43, .c (.i .i64 1)], none⟩,
    ⟨(some 45), (.ixS 3 true), [.t 42, .t 44], none⟩,
    ⟨(some 46), (.ld 3 true), [.t 45], none⟩,
    ⟨(some 47), .mv, [.t 0], none⟩,
    ⟨(some 48), .mv, [.t 9], none⟩,
    ⟨(some 49), (.ixS 3 true), [.t 47, .t 48], none⟩,
    ⟨(some 50), (.ld 3 true), [.t 49], none⟩,
    ⟨(some 51), (.ixS 3 true), [.t 37, .t 38], none⟩,
    ⟨none, (.st 3), [.t 51, .t 46], none⟩,
    ⟨(some 52), (.ixS 3 true), [.t 39, .t 41], none⟩,
    ⟨none, (.st 3), [.t 52, .t 50], none⟩] [0, 1, 2, 3, 8, 9]))
 (.reg [⟨(some 35), .mv, [.t 9], none⟩,
   ⟨(some 36), (.binI .sub), [.t 35, .c (.i .i64 1)], none⟩,
   ⟨(some 9), .mv, [.t 36], none⟩] [0, 1, 2, 3, 8, 9])))

def l87_1 : DC :=
 (.loop [0, 1, 2, 3, 8, 9] b87_0)

def b87_2 : DC :=
 (.seq (.seq (.reg [⟨(some 12), .mv, [.t 8], none⟩,
   ⟨(some 13), .mv, [.t 2], none⟩,
   ⟨(some 14), (.binI .lss), [.t 12, .t 13], none⟩] [0, 1, 2, 3, 8, 14])
 (.cond (.t 14)
  .skip
  (.exit 0)))
 (.seq (.block 1
  (.seq (.reg [⟨(some 17), .mv, [.t 8], none⟩,
    ⟨(some 9), .mv, [.t 17], none⟩] [0, 1, 2, 3, 8, 9])
  (.block 2
   l87_1)))
 (.reg [⟨(some 15), .mv, [.t 8], none⟩,
   ⟨(some 16), (.binI .add), [.t 15, .c (.i .i64 1)], none⟩,
   ⟨(some 8), .mv, [.t 16], none⟩] [0, 1, 2, 3, 8])))

def l87_3 : DC :=
 (.loop [0, 1, 2, 3, 8] b87_2)

def c87 : DC :=
 (.seq (.reg [⟨(some 10), .mv, [.t 1], none⟩,
   ⟨(some 11), (.binI .add), [.t 10, .c (.i .i64 1)], none⟩,
   ⟨(some 8), .mv, [.t 11], none⟩] [0, 1, 2, 3, 8])
 (.block 0
  l87_3))

def d87 : DFun := ⟨4, 53, c87, []⟩

theorem ok87 : Fok Try.prog 87 d87 := ⟨Try.f87, Try.func87, by kernel_rfl, by kernel_rfl⟩

-- slices.heapSortCmpFunc[[3]int]
def b88_0 : DC :=
 (.seq (.seq (.reg [⟨(some 20), .mv, [.t 11], none⟩,
   ⟨(some 21), (.binI .geq), [.t 20, .c (.i .i64 0)], none⟩] [0, 3, 8, 9, 10, 11, 21])
 (.cond (.t 21)
  .skip
  (.exit 0)))
 (.seq (.block 1
  (.reg [⟨(some 24), .mv, [.t 0], none⟩,
    ⟨(some 25), .mv, [.t 11], none⟩,
    ⟨(some 26), .mv, [.t 10], none⟩,
    ⟨(some 27), .mv, [.t 8], none⟩,
    ⟨(some 28), .mv, [.t 3], none⟩,
    ⟨(some 29), (.call .sh), [.c (.fn 98 [] []), .t 24, .t 25, .t 26, .t 27, .t 28], none⟩] [0, 3, 8, 9, 10, 11]))
 (.reg [⟨(some 22), .mv, [.t 11], none⟩,
   ⟨(some 23), (.binI .sub), [.t 22, .c (.i .i64 1)], none⟩,
   ⟨(some 11), .mv, [.t 23], none⟩] [0, 3, 8, 9, 10, 11])))

def l88_1 : DC :=
 (.loop [0, 3, 8, 9, 10, 11] b88_0)

def b88_2 : DC :=
 (.seq (.seq (.reg [⟨(some 32), .mv, [.t 12], none⟩,
   ⟨(some 33), (.binI .geq), [.t 32, .c (.i .i64 0)], none⟩] [0, 3, 8, 9, 12, 33])
 (.cond (.t 33)
  .skip
  (.exit 2)))
 (.seq (.block 3
  (.seq (.reg [⟨(some 36), .mv, [.t 0], none⟩,
    ⟨(some 37), .mv, [.t 8], none⟩,
    ⟨(some 38), .mv, [.t 0], none⟩,
    ⟨(some 39), .mv, [.t 8], none⟩,
    ⟨(some 40), .mv, [.t 12], none⟩,
    ⟨(some 41), (.binI .add), [.t 39, .t 40], none⟩,
    ⟨(some 42), .mv, [.t 0], none⟩,
    ⟨(some 43), .mv, [.t 8], none⟩,
    ⟨(some 44), .mv, [.t 12], none⟩,
    ⟨(some 45), (.binI .add), [.t 43, .t 44], none⟩,
    ⟨(some 46), (.ixS 3 true), [.t 42, .t 45], none⟩,
    ⟨(some 47), (.ld 3 true), [.t 46], none⟩,
    ⟨(some 48), .mv, [.t 0], none⟩,
    ⟨(some 49), .mv, [.t 8], none⟩,
    ⟨(some 50), (.ixS 3 true), [.t 48, .t 49], none⟩,
    ⟨(some 51), (.ld 3 true), [.t 50], none⟩,
    ⟨(some 52), (.ixS 3 true), [.t 36, .t 37], none⟩,
    ⟨none, (.st 3), [.t 52, .t 47], none⟩,
    ⟨(some 53), (.ixS 3 true), [.t 38, .t 41], none⟩,
    ⟨none, (.st 3), [.t 53, .t 51], none⟩] [0, 3, 8, 9, 12])
  (.reg [⟨(some 54), .mv, [.t 0], none⟩,
    ⟨(some 55), .mv, [.t 9], none⟩,
    ⟨(some 56), .mv, [.t 12], none⟩,
    ⟨(some 57), .mv, [.t 8], none⟩,
    ⟨(some 58), .mv, [.t 3], none⟩,
    ⟨(some 59), (.call .sh), [.c (.fn 98 [] []), .t 54, .t 55, .t 56, .t 57, .t 58], none⟩] [0, 3, 8, 9, 12])))
 (.reg [⟨(some 34), .mv, [.t 12], none⟩,
   ⟨(some 35), (.binI .sub), [.t 34, .c (.i .i64 1)], none⟩,
   ⟨(some 12), .mv, [.t 35], none⟩] [0, 3, 8, 9, 12])))

def l88_3 : DC :=
 (.loop [0, 3, 8, 9, 12] b88_2)

def c88 : DC :=
 (.seq (.reg [⟨(some 13), .mv, [.t 1], none⟩,
   ⟨(some 8), .mv, [.t 13], none⟩] [0, 1, 2, 3, 8])
 (.seq (.reg [⟨(some 9), .mv, [.c (.i .i64 0)], none⟩] [0, 1, 2, 3, 8, 9])
 (.seq (.reg [⟨(some 14), .mv, [.t 2], none⟩,
   ⟨(some 15), .mv, [.t 1], none⟩,
   ⟨(some 16), (.binI .sub), [.t 14, .t 15], none⟩,
   ⟨(some 10), .mv, [.t 16], none⟩] [0, 3, 8, 9, 10])
 (.seq (.seq (.reg [⟨(some 17), .mv, [.t 10], none⟩,
   ⟨(some 18), (.binI .sub), [.t 17, .c (.i .i64 1)], none⟩,
   ⟨(some 19), (.binI .quo), [.t 18, .c (.i .i64 2)], none⟩,
   ⟨(some 11), .mv, [.t 19], none⟩] [0, 3, 8, 9, 10, 11])
 (.block 0
  l88_1))
 (.seq (.reg [⟨(some 30), .mv, [.t 10], none⟩,
   ⟨(some 31), (.binI .sub), [.t 30, .c (.i .i64 1)], none⟩,
   ⟨(some 12), .mv, [.t 31], none⟩] [0, 3, 8, 9, 12])
 (.block 2
  l88_3))))))

def d88 : DFun := ⟨4, 60, c88, []⟩

theorem ok88 : Fok Try.prog 88 d88 := ⟨Try.f88, Try.func88, by kernel_rfl, by kernel_rfl⟩

-- slices.breakPatternsCmpFunc[[3]int]
def b89_0 : DC :=
 (.seq (.seq (.reg [⟨(some 28), .mv, [.t 11], none⟩,
   ⟨(some 29), .mv, [.t 1], none⟩,
   ⟨(some 30), .mv, [.t 8], none⟩,
   ⟨(some 31), (.binI .quo), [.t 30, .c (.i .i64 4)], none⟩,
   ⟨(some 32), (.binI .mul), [.t 31, .c (.i .i64 2)], none⟩,
   ⟨(some 33), (.binI .add), [.t 29, .t 32], none⟩,
   ⟨(some 34), (.binI .add), [.t 33, .c (.i .i64 1)], none⟩,
   ⟨(some 35), (.binI .leq), [.t 28, .t 34], none⟩] [0, 1, 8, 9, 10, 11, 35])
 (.cond (.t 35)
  .skip
  (.exit 0)))
 (.seq (.block 1
  (.seq (.reg [⟨(some 38), (.call (.pu [])), [.c (.fn 100 [] []), .t 9], none⟩,
    ⟨(some 39), .mv, [.t 10], none⟩,
    ⟨(some 40), (.binI .sub), [.t 39, .c (.i .u64 1)], none⟩,
    ⟨(some 41), (.binI .and), [.t 38, .t 40], none⟩,
    ⟨(some 42), (.conv .i64), [.t 41], none⟩,
    ⟨(some 12), .mv, [.t 42], none⟩] [0, 1, 8, 9, 10, 11, 12])
  (.seq (.seq (.reg [⟨(some 43), .mv, [.t 12], none⟩,
    ⟨(some 44), .mv, [.t 8], none⟩,
    ⟨(some 45), (.binI .geq), [.t 43, .t 44], none⟩] [0, 1, 8, 9, 10, 11, 12, 45])
  (.cond (.t 45)
   (.reg [⟨(some 46), .mv, [.t 12], none⟩,
     ⟨(some 47), .mv, [.t 8], none⟩,
     ⟨(some 48), (.binI .sub), [.t 46, .t 47], none⟩,
     ⟨(some 12), .mv, [.t 48], none⟩] [0, 1, 8, 9, 10, 11, 12])
   .skip))
  (.reg [⟨(some 49), .mv, [.t 0], none⟩,
    ⟨(some 50), .mv, [.t 11], none⟩,
    ⟨(some 51), .mv, [.t 0], none⟩,
    ⟨(some 52), .mv, [.t 1], none⟩,
    ⟨(some 53), .mv, [.t 12], none⟩,
    ⟨(some 54), (.binI .add), [.t 52, .t 53], none⟩,
    ⟨(some 55), .mv, [.t 0], none⟩,
    ⟨(some 56), .mv, [.t 1], none⟩,
    ⟨(some 57), .mv, [.t 12], none⟩,
    ⟨(some 58), (.binI .add), [.t 56, .t 57], none⟩,
    ⟨(some 59), (.ixS 3 true), [.t 55, .t 58], none⟩,
    ⟨(some 60), (.ld 3 true), [.t 59], none⟩,
    ⟨(some 61), .mv, [.t 0], none⟩,
    ⟨(some 62), .mv, [.t 11], none⟩,
    ⟨(some 63), (.ixS 3 true), [.t 61, .t 62], none⟩,
    ⟨(some 64), (.ld 3 true), [.t 63], none⟩,
    ⟨(some 65), (.ixS 3 true), [.t 49, .t 50], none⟩,
    ⟨none, (.st 3), [.t 65, .t 60], none⟩,
    ⟨(some 66), (.ixS 3 true), [.t 51, .t 54], none⟩,
    ⟨none, (.st 3), [.t 66, .t 64], none⟩] [0, 1, 8, 9, 10, 11]))))
 (.reg [⟨(some 36), .mv, [.t 11], none⟩,
   ⟨(some 37), (.binI .add), [.t 36, .c (.i .i64 1)], none⟩,
   ⟨(some 11), .mv, [.t 37], none⟩] [0, 1, 8, 9, 10, 11])))

def l89_1 : DC :=
 (.loop [0, 1, 8, 9, 10, 11] b89_0)

def c89 : DC :=
 (.seq (.reg [⟨(some 13), .mv, [.t 2], none⟩,
   ⟨(some 14), .mv, [.t 1], none⟩,
   ⟨(some 15), (.binI .sub), [.t 13, .t 14], none⟩,
   ⟨(some 8), .mv, [.t 15], none⟩] [0, 1, 8])
 (.seq (.reg [⟨(some 16), .mv, [.t 8], none⟩,
   ⟨(some 17), (.binI .geq), [.t 16, .c (.i .i64 8)], none⟩] [0, 1, 8, 17])
 (.cond (.t 17)
  (.seq (.reg [⟨(some 18), .mv, [.t 8], none⟩,
    ⟨(some 19), (.conv .u64), [.t 18], none⟩,
    ⟨(some 9), (.alloc [(.i .u64 0)] false), [], none⟩,
    ⟨none, (.st 1), [.t 9, .t 19], none⟩] [0, 1, 8, 9])
  (.seq (.reg [⟨(some 20), .mv, [.t 8], none⟩,
    ⟨(some 21), (.call (.pu [])), [.c (.fn 99 [] []), .t 20], none⟩,
    ⟨(some 10), .mv, [.t 21], none⟩] [0, 1, 8, 9, 10])
  (.seq (.reg [⟨(some 22), .mv, [.t 1], none⟩,
    ⟨(some 23), .mv, [.t 8], none⟩,
    ⟨(some 24), (.binI .quo), [.t 23, .c (.i .i64 4)], none⟩,
    ⟨(some 25), (.binI .mul), [.t 24, .c (.i .i64 2)], none⟩,
    ⟨(some 26), (.binI .add), [.t 22, .t 25], none⟩,
    ⟨(some 27), (.binI .sub), [.t 26, .c (.i .i64 1)], none⟩,
    ⟨(some 11), .mv, [.t 27], none⟩] [0, 1, 8, 9, 10, 11])
  (.block 0
   l89_1))))
  .skip)))

def d89 : DFun := ⟨4, 67, c89, []⟩

theorem ok89 : Fok Try.prog 89 d89 := ⟨Try.f89, Try.func89, by kernel_rfl, by kernel_rfl⟩

-- slices.choosePivotCmpFunc[[3]int]
def c90 : DC :=
 (.seq (.reg [⟨(some 8), .mv, [.c (.i .i64 0)], none⟩,
   ⟨(some 9), .mv, [.c (.i .i64 0)], none⟩] [0, 1, 2, 3])
 (.seq (.reg [⟨(some 15), .mv, [.t 2], none⟩,
   ⟨(some 16), .mv, [.t 1], none⟩,
   ⟨(some 17), (.binI .sub), [.t 15, .t 16], none⟩,
   ⟨(some 10), .mv, [.t 17], none⟩] [0, 1, 3, 10])
 (.seq (.reg [⟨(some 11), (.alloc [(.i .i64 0)] false), [], none⟩] [0, 1, 3, 10, 11])
 (.seq (.reg [⟨(some 18), .mv, [.t 1], none⟩,
   ⟨(some 19), .mv, [.t 10], none⟩,
   ⟨(some 20), (.binI .quo), [.t 19, .c (.i .i64 4)], none⟩,
   ⟨(some 21), (.binI .mul), [.t 20, .c (.i .i64 1)], none⟩,
   ⟨(some 22), (.binI .add), [.t 18, .t 21], none⟩,
   ⟨(some 12), .mv, [.t 22], none⟩] [0, 1, 3, 10, 11, 12])
 (.seq (.reg [⟨(some 23), .mv, [.t 1], none⟩,
   ⟨(some 24), .mv, [.t 10], none⟩,
   ⟨(some 25), (.binI .quo), [.t 24, .c (.i .i64 4)], none⟩,
   ⟨(some 26), (.binI .mul), [.t 25, .c (.i .i64 2)], none⟩,
   ⟨(some 27), (.binI .add), [.t 23, .t 26], none⟩,
   ⟨(some 13), .mv, [.t 27], none⟩] [0, 1, 3, 10, 11, 12, 13])
 (.seq (.reg [⟨(some 28), .mv, [.t 1], none⟩,
   ⟨(some 29), .mv, [.t 10], none⟩,
   ⟨(some 30), (.binI .quo), [.t 29, .c (.i .i64 4)], none⟩,
   ⟨(some 31), (.binI .mul), [.t 30, .c (.i .i64 3)], none⟩,
   ⟨(some 32), (.binI .add), [.t 28, .t 31], none⟩,
   ⟨(some 14), .mv, [.t 32], none⟩] [0, 3, 10, 11, 12, 13, 14])
 (.seq (.seq (.reg [⟨(some 33), .mv, [.t 10], none⟩,
   ⟨(some 34), (.binI .geq), [.t 33, .c (.i .i64 8)], none⟩] [0, 3, 10, 11, 12, 13, 14, 34])
 (.cond (.t 34)
  (.seq (.seq (.reg [⟨(some 35), .mv, [.t 10], none⟩,
    ⟨(some 36), (.binI .geq), [.t 35, .c (.i .i64 50)], none⟩] [0, 3, 11, 12, 13, 14, 36])
  (.cond (.t 36)
   (.seq (.reg [⟨(some 37), .mv, [.t 0], none⟩,
     ⟨(some 38), .mv, [.t 12], none⟩,
     ⟨(some 39), .mv, [.t 3], none⟩,
     ⟨(some 40), (.call .sh), [.c (.fn 101 [] []), .t 37, .t 38, .t 11, .t 39], none⟩,
     ⟨(some 12), .mv, [.t 40], none⟩] [0, 3, 11, 12, 13, 14])
   (.seq (.reg [⟨(some 41), .mv, [.t 0], none⟩,
     ⟨(some 42), .mv, [.t 13], none⟩,
     ⟨(some 43), .mv, [.t 3], none⟩,
     ⟨(some 44), (.call .sh), [.c (.fn 101 [] []), .t 41, .t 42, .t 11, .t 43], none⟩,
     ⟨(some 13), .mv, [.t 44], none⟩] [0, 3, 11, 12, 13, 14])
   (.reg [⟨(some 45), .mv, [.t 0], none⟩,
     ⟨(some 46), .mv, [.t 14], none⟩,
     ⟨(some 47), .mv, [.t 3], none⟩,
     ⟨(some 48), (.call .sh), [.c (.fn 101 [] []), .t 45, .t 46, .t 11, .t 47], none⟩,
     ⟨(some 14), .mv, [.t 48], none⟩] [0, 3, 11, 12, 13, 14])))
   .skip))
  (.reg [⟨(some 49), .mv, [.t 0], none⟩,
    ⟨(some 50), .mv, [.t 12], none⟩,
    ⟨(some 51), .mv, [.t 13], none⟩,
    ⟨(some 52), .mv, [.t 14], none⟩,
    ⟨(some 53), .mv, [.t 3], none⟩,
    ⟨(some 54), (.call .sh), [.c (.fn 102 [] []), .t 49, .t 50, .t 51, .t 52, .t 11, .t 53], none⟩,
    ⟨(some 13), .mv, [.t 54], none⟩] [11, 13]))
  .skip))
 (.seq (.reg [⟨(some 55), (.ld 1 false), [.t 11], none⟩] [13, 55])
 (.block 0
  (.seq (.reg [⟨(some 58), (.binI .eql), [.t 55, .c (.i .i64 0)], none⟩,
    ⟨(some 57), .mv, [.t 58], none⟩] [13, 55, 57])
  (.cond (.t 57)
   (.seq (.reg [⟨(some 59), .mv, [.t 13], none⟩,
     ⟨(some 8), .mv, [.t 59], none⟩,
     ⟨(some 9), .mv, [.c (.i .i64 1)], none⟩] [8, 9])
   .ret)
   (.seq (.reg [⟨(some 61), (.binI .eql), [.t 55, .c (.i .i64 12)], none⟩,
     ⟨(some 60), .mv, [.t 61], none⟩] [13, 60])
   (.cond (.t 60)
    (.seq (.reg [⟨(some 62), .mv, [.t 13], none⟩,
      ⟨(some 8), .mv, [.t 62], none⟩,
      ⟨(some 9), .mv, [.c (.i .i64 2)], none⟩] [8, 9])
    .ret)
    (.seq (.reg [⟨(some 56), .mv, [.t 13], none⟩,
      ⟨(some 8), .mv, [.t 56], none⟩,
      ⟨(some 9), .mv, [.c (.i .i64 0)], none⟩] [8, 9])
    .ret))))))))))))))

def d90 : DFun := ⟨4, 63, c90, [.t 8, .t 9]⟩

theorem ok90 : Fok Try.prog 90 d90 := ⟨Try.f90, Try.func90, by kernel_rfl, by kernel_rfl⟩

-- slices.reverseRangeCmpFunc[[3]int]
def b91_0 : DC :=
 (.seq (.seq (.reg [⟨(some 13), .mv, [.t 8], none⟩,
   ⟨(some 14), .mv, [.t 9], none⟩,
   ⟨(some 15), (.binI .lss), [.t 13, .t 14], none⟩] [0, 8, 9, 15])
 (.cond (.t 15)
  .skip
  (.exit 0)))
 (.block 1
  (.seq (.reg [⟨(some 16), .mv, [.t 0], none⟩,
    ⟨(some 17), .mv, [.t 8], none⟩,
    ⟨(some 18), .mv, [.t 0], none⟩,
    ⟨(some 19), .mv, [.t 9], none⟩,
    ⟨(some 20), .mv, [.t 0], none⟩,
    ⟨(some 21), .mv, [.t 9], none⟩,
    ⟨(some 22), (.ixS 3 true), [.t 20, .t 21], none⟩,
    ⟨(some 23), (.ld 3 true), [.t 22], none⟩,
    ⟨(some 24), .mv, [.t 0], none⟩,
    ⟨(some 25), .mv, [.t 8], none⟩,
    ⟨(some 26), (.ixS 3 true), [.t 24, .t 25], none⟩,
    ⟨(some 27), (.ld 3 true), [.t 26], none⟩,
    ⟨(some 28), (.ixS 3 true), [.t 16, .t 17], none⟩,
    ⟨none, (.st 3), [.t 28, .t 23], none⟩,
    ⟨(some 29), (.ixS 3 true), [.t 18, .t 19], none⟩,
    ⟨none, (.st 3), [.t 29, .t 27], none⟩] [0, 8, 9])
  (.seq (.reg [⟨(some 30), .mv, [.t 8], none⟩,
    ⟨(some 31), (.binI .add), [.t 30, .c (.i .i64 1)], none⟩,
    ⟨(some 8), .mv, [.t 31], none⟩] [0, 8, 9])
  (.reg [⟨(some 32), .mv, [.t 9], none⟩,
    ⟨(some 33), (.binI .sub), [.t 32, .c (.i .i64 1)], none⟩,
    ⟨(some 9), .mv, [.t 33], none⟩] [0, 8, 9])))))

def l91_1 : DC :=
 (.loop [0, 8, 9] b91_0)

def c91 : DC :=
 (.seq (.reg [⟨(some 10), .mv, [.t 1], none⟩,
   ⟨(some 8), .mv, [.t 10], none⟩] [0, 2, 8])
 (.seq (.reg [⟨(some 11), .mv, [.t 2], none⟩,
   ⟨(some 12), (.binI .sub), [.t 11, .c (.i .i64 1)], none⟩,
   ⟨(some 9), .mv, [.t 12], none⟩] [0, 8, 9])
 (.block 0
  l91_1)))

def d91 : DFun := ⟨4, 34, c91, []⟩

theorem ok91 : Fok Try.prog 91 d91 := ⟨Try.f91, Try.func91, by kernel_rfl, by kernel_rfl⟩

-- slices.partialInsertionSortCmpFunc[[3]int]
def b92_0 : DC :=
 (.seq (.seq (.reg [⟨(some 19), .mv, [.t 9], none⟩,
   ⟨(some 20), .mv, [.t 2], none⟩,
   ⟨(some 21), (.binI .lss), [.t 19, .t 20], none⟩,
   ⟨(some 22), .mv, [.t 21], none⟩,
   ⟨(some 23), .mv, [.t 3], (some (22, true))⟩,
   ⟨(some 24), .mv, [.t 0], (some (22, true))⟩,
   ⟨(some 25), .mv, [.t 9], (some (22, true))⟩,
   ⟨(some 26), (.ixS 3 true), [.t 24, .t 25], (some (22, true))⟩,
   ⟨(some 27), (.ld 3 true), [.t 26], (some (22, true))⟩,
   ⟨(some 28), .mv, [.t 0], (some (22, true))⟩,
   ⟨(some 29), .mv, [.t 9], (some (22, true))⟩,
   ⟨(some 30), (.binI .sub), [.t 29, .c (.i .i64 1)], (some (22, true))⟩,
   ⟨(some 31), (.ixS 3 true), [.t 28, .t 30], (some (22, true))⟩,
   ⟨(some 32), (.ld 3 true), [.t 31], (some (22, true))⟩,
   ⟨(some 33), (.call .sh), [.t 23, .t 27, .t 32], (some (22, true))⟩,
   ⟨(some 34), (.binI .lss), [.t 33, .c (.i .i64 0)], (some (22, true))⟩,
   ⟨(some 35), .notB, [.t 34], (some (22, true))⟩,
   ⟨(some 36), .pick, [.t 22, .t 35, .c (.b false)], none⟩] [0, 1, 2, 3, 9, 10, 36])
 (.cond (.t 36)
  .skip
  (.exit 2)))
 (.block 3
  (.reg [⟨(some 37), .mv, [.t 9], none⟩,
    ⟨(some 38), (.binI .add), [.t 37, .c (.i .i64 1)], none⟩,
    ⟨(some 9), .mv, [.t 38], none⟩] [0, 1, 2, 3, 9, 10])))

def l92_1 : DC :=
 (.loop [0, 1, 2, 3, 9, 10] b92_0)

def b92_2 : DC :=
 (.seq (.seq (.reg [⟨(some 68), .mv, [.t 11], none⟩,
   ⟨(some 69), (.binI .geq), [.t 68, .c (.i .i64 1)], none⟩] [0, 1, 2, 3, 9, 10, 11, 69])
 (.cond (.t 69)
  .skip
  (.exit 4)))
 (.seq (.block 5
  (.seq (.seq (.reg [⟨(some 72), .mv, [.t 3], none⟩,
    ⟨(some 73), .mv, [.t 0], none⟩,
    ⟨(some 74), .mv, [.t 11], none⟩,
    ⟨(some 75), (.ixS 3 true), [.t 73, .t 74], none⟩,
    ⟨(some 76), (.ld 3 true), [.t 75], none⟩,
    ⟨(some 77), .mv, [.t 0], none⟩,
    ⟨(some 78), .mv, [.t 11], none⟩,
    ⟨(some 79), (.binI .sub), [.t 78, .c (.i .i64 1)], none⟩,
    ⟨(some 80), (.ixS 3 true), [.t 77, .t 79], none⟩,
    ⟨(some 81), (.ld 3 true), [.t 80], none⟩,
    ⟨(some 82), (.call .sh), [.t 72, .t 76, .t 81], none⟩,
    ⟨(some 83), (.binI .lss), [.t 82, .c (.i .i64 0)], none⟩,
    ⟨(some 84), .notB, [.t 83], none⟩] [0, 1, 2, 3, 9, 10, 11, 84])
  (.cond (.t 84)
   (.exit 4)
   .skip))
  (.reg [⟨(some 85), .mv, [.t 0], none⟩,
    ⟨(some 86), .mv, [.t 11], none⟩,
    ⟨(some 87), .mv, [.t 0], none⟩,
    ⟨(some 88), .mv, [.t 11], none⟩,
    ⟨(some 89), (.binI .sub), [.t 88, .c (.i .i64 1)], none⟩,
    ⟨(some 90), .mv, [.t 0], none⟩,
    ⟨(some 91), .mv, [.t 11], none⟩,
    ⟨(some 92), (.binI .sub), [.t 91, .c (.i .i64 1)], none⟩,
    ⟨(some 93), (.ixS 3 true), [.t 90, .t 92], none⟩,
    ⟨(some 94), (.ld 3 true), [.t 93], none⟩,
    ⟨(some 95), .mv, [.t 0], none⟩,
    ⟨(some 96), .mv, [.t 11], none⟩,
    ⟨(some 97), (.ixS 3 true), [.t 95, .t 96], none⟩,
    ⟨(some 98), (.ld 3 true), [.t 97], none⟩,
    ⟨(some 99), (.ixS 3 true), [.t 85, .t 86], none⟩,
    ⟨none, (.st 3), [.t 99, .t 94], none⟩,
    ⟨(some 100), (.ixS 3 true), [.t 87, .t 89], none⟩,
    ⟨none, (.st 3), [.t 100, .t 98], none⟩] [0, 1, 2, 3, 9, 10, 11])))
 (.reg [⟨(some 70), .mv, [.t 11], none⟩,
   ⟨(some 71), (.binI .sub), [.t 70, .c (.i .i64 1)], none⟩,
   ⟨(some 11), .mv, [.t 71], none⟩] [0, 1, 2, 3, 9, 10, 11])))

def l92_3 : DC :=
 (.loop [0, 1, 2, 3, 9, 10, 11] b92_2)

def b92_4 : DC :=
 (.seq (.seq (.reg [⟨(some 107), .mv, [.t 12], none⟩,
   ⟨(some 108), .mv, [.t 2], none⟩,
   ⟨(some 109), (.binI .lss), [.t 107, .t 108], none⟩] [0, 1, 2, 3, 9, 10, 12, 109])
 (.cond (.t 109)
  .skip
  (.exit 6)))
 (.seq (.block 7
  (.seq (.seq (.reg [⟨(some 112), .mv, [.t 3], none⟩,
    ⟨(some 113), .mv, [.t 0], none⟩,
    ⟨(some 114), .mv, [.t 12], none⟩,
    ⟨(some 115), (.ixS 3 true), [.t 113, .t 114], none⟩,
    ⟨(some 116), (.ld 3 true), [.t 115], none⟩,
    ⟨(some 117), .mv, [.t 0], none⟩,
    ⟨(some 118), .mv, [.t 12], none⟩,
    ⟨(some 119), (.binI .sub), [.t 118, .c (.i .i64 1)], none⟩,
    ⟨(some 120), (.ixS 3 true), [.t 117, .t 119], none⟩,
    ⟨(some 121), (.ld 3 true), [.t 120], none⟩,
    ⟨(some 122), (.call .sh), [.t 112, .t 116, .t 121], none⟩,
    ⟨(some 123), (.binI .lss), [.t 122, .c (.i .i64 0)], none⟩,
    ⟨(some 124), .notB, [.t 123], none⟩] [0, 1, 2, 3, 9, 10, 12, 124])
  (.cond (.t 124)
   (.exit 6)
   .skip))
  (.reg [⟨(some 125), .mv, [.t 0], none⟩,
    ⟨(some 126), .mv, [.t 12], none⟩,
    ⟨(some 127), .mv, [.t 0], none⟩,
    ⟨(some 128), .mv, [.t 12], none⟩,
    ⟨(some 129), (.binI .sub), [.t 128, .c (.i .i64 1)], none⟩,
    ⟨(some 130), .mv, [.t 0], none⟩,
    ⟨(some 131), .mv, [.t 12], none⟩,
    ⟨(some 132), (.binI .sub), [.t 131, .c (.i .i64 1)], none⟩,
    ⟨(some 133), (.ixS 3 true), [.t 130, .t 132], none⟩,
    ⟨(some 134), (.ld 3 true), [.t 133], none⟩,
    ⟨(some 135), .mv, [.t 0], none⟩,
    ⟨(some 136), .mv, [.t 12], none⟩,
    ⟨(some 137), (.ixS 3 true), [.t 135, .t 136], none⟩,
    ⟨(some 138), (.ld 3 true), [.t 137], none⟩,
    ⟨(some 139), (.ixS 3 true), [.t 125, .t 126], none⟩,
    ⟨none, (.st 3), [.t 139, .t 134], none⟩,
    ⟨(some 140), (.ixS 3 true), [.t 127, .t 129], none⟩,
    ⟨none, (.st 3), [.t 140, .t 138], none⟩] [0, 1, 2, 3, 9, 10, 12])))
 (.reg [⟨(some 110), .mv, [.t 12], none⟩,
   ⟨(some 111), (.binI .add), [.t 110, .c (.i .i64 1)], none⟩,
   ⟨(some 12), .mv, [.t 111], none⟩] [0, 1, 2, 3, 9, 10, 12])))

def l92_5 : DC :=
 (.loop [0, 1, 2, 3, 9, 10, 12] b92_4)

def b92_6 : DC :=
 (.seq (.seq (.reg [⟨(some 15), .mv, [.t 10], none⟩,
   ⟨(some 16), (.binI .lss), [.t 15, .c (.i .i64 5)], none⟩] [0, 1, 2, 3, 9, 10, 16])
 (.cond (.t 16)
  .skip
  (.exit 0)))
 (.seq (.block 1
  (.seq (.block 2
   l92_1)
  (.seq (.seq (.reg [⟨(some 39), .mv, [.t 9], none⟩,
    ⟨(some 40), .mv, [.t 2], none⟩,
    ⟨(some 41), (.binI .eql), [.t 39, .t 40], none⟩] [0, 1, 2, 3, 9, 10, 41])
  (.cond (.t 41)
   (.seq (.reg [⟨(some 8), .mv, [.c (.b true)], none⟩] [8])
   .ret)
   .skip))
  (.seq (.seq (.reg [⟨(some 42), .mv, [.t 2], none⟩,
    ⟨(some 43), .mv, [.t 1], none⟩,
    ⟨(some 44), (.binI .sub), [.t 42, .t 43], none⟩,
    ⟨(some 45), (.binI .lss), [.t 44, .c (.i .i64 50)], none⟩] [0, 1, 2, 3, 9, 10, 45])
  (.cond (.t 45)
   (.seq (.reg [⟨(some 8), .mv, [.c (.b false)], none⟩] [8])
   .ret)
   .skip))
  (.seq (.reg [⟨(some 46), .mv, [.t 0], none⟩,
    ⟨(some 47), .mv, [.t 9], none⟩,
    ⟨(some 48), .mv, [.t 0], none⟩,
    ⟨(some 49), .mv, [.t 9], none⟩,
    ⟨(some 50), (.binI .sub), [.t 49, .c (.i .i64 1)], none⟩,
    ⟨(some 51), .mv, [.t 0], none⟩,
    ⟨(some 52), .mv, [.t 9], none⟩,
    ⟨(some 53), (.binI .sub), [.t 52, .c (.i .i64 1)], none⟩,
    ⟨(some 54), (.ixS 3 true), [.t 51, .t 53], none⟩,
    ⟨(some 55), (.ld 3 true), [.t 54], none⟩,
    ⟨(some 56), .mv, [.t 0], none⟩,
    ⟨(some 57), .mv, [.t 9], none⟩,
    ⟨(some 58), (.ixS 3 true), [.t 56, .t 57], none⟩,
    ⟨(some 59), (.ld 3 true), [.t 58], none⟩,
    ⟨(some 60), (.ixS 3 true), [.t 46, .t 47], none⟩,
    ⟨none, (.st 3), [.t 60, .t 55], none⟩,
    ⟨(some 61), (.ixS 3 true), [.t 48, .t 50], none⟩,
    ⟨none, (.st 3), [.t 61, .t 59], none⟩] [0, 1, 2, 3, 9, 10])
  (.seq (.seq (.reg [⟨(some 62), .mv, [.t 9], none⟩,
    ⟨(some 63), .mv, [.t 1], none⟩,
    ⟨(some 64), (.binI .sub), [.t 62, .t 63], none⟩,
    ⟨(some 65), (.binI .geq), [.t 64, .c (.i .i64 2)], none⟩] [0, 1, 2, 3, 9, 10, 65])
  (.cond (.t 65)
   (.seq (.reg [⟨(some 66), .mv, [.t 9], none⟩,
     ⟨(some 67), (.binI .sub), [.t 66, .c (.i .i64 1)], none⟩,
     ⟨(some 11), .mv, [.t 67], none⟩] [0, 1, 2, 3, 9, 10, 11])
   (.block 4
    l92_3))
   .skip))
  (.seq (.reg [⟨(some 101), .mv, [.t 2], none⟩,
    ⟨(some 102), .mv, [.t 9], none⟩,
    ⟨(some 103), (.binI .sub), [.t 101, .t 102], none⟩,
    ⟨(some 104), (.binI .geq), [.t 103, .c (.i .i64 2)], none⟩] [0, 1, 2, 3, 9, 10, 104])
  (.cond (.t 104)
   (.seq (.reg [⟨(some 105), .mv, [.t 9], none⟩,
     ⟨(some 106), (.binI .add), [.t 105, .c (.i .i64 1)], none⟩,
     ⟨(some 12), .mv, [.t 106], none⟩] [0, 1, 2, 3, 9, 10, 12])
   (.block 6
    l92_5))
   .skip))))))))
 (.reg [⟨(some 17), .mv, [.t 10], none⟩,
   ⟨(some 18), (.binI .add), [.t 17, .c (.i .i64 1)], none⟩,
   ⟨(some 10), .mv, [.t 18], none⟩] [0, 1, 2, 3, 9, 10])))

def l92_7 : DC :=
 (.loop [0, 1, 2, 3, 9, 10] b92_6)

def c92 : DC :=
 (.seq (.reg [⟨(some 8), .mv, [.c (.b false)], none⟩] [0, 1, 2, 3])
 (.seq (.reg [⟨(some 13), .mv, [.t 1], none⟩,
   ⟨(some 14), (.binI .add), [.t 13, .c (.i .i64 1)], none⟩,
   ⟨(some 9), .mv, [.t 14], none⟩] [0, 1, 2, 3, 9])
 (.seq (.seq (.reg [⟨(some 10), .mv, [.c (.i .i64 0)], none⟩] [0, 1, 2, 3, 9, 10])
 (.block 0
  l92_7))
 (.seq (.reg [⟨(some 8), .mv, [.c (.b false)], none⟩] [8])
 .ret))))

def d92 : DFun := ⟨4, 141, c92, [.t 8]⟩

theorem ok92 : Fok Try.prog 92 d92 := ⟨Try.f92, Try.func92, by kernel_rfl, by kernel_rfl⟩

-- slices.partitionEqualCmpFunc[[3]int]
def b93_0 : DC :=
 (.seq (.seq (.reg [⟨(some 31), .mv, [.t 11], none⟩,
   ⟨(some 32), .mv, [.t 12], none⟩,
   ⟨(some 33), (.binI .leq), [.t 31, .t 32], none⟩,
   ⟨(some 34), .mv, [.t 33], none⟩,
   ⟨(some 35), .mv, [.t 4], (some (34, true))⟩,
   ⟨(some 36), .mv, [.t 0], (some (34, true))⟩,
   ⟨(some 37), .mv, [.t 1], (some (34, true))⟩,
   ⟨(some 38), (.ixS 3 true), [.t 36, .t 37], (some (34, true))⟩,
   ⟨(some 39), (.ld 3 true), [.t 38], (some (34, true))⟩,
   ⟨(some 40), .mv, [.t 0], (some (34, true))⟩,
   ⟨(some 41), .mv, [.t 11], (some (34, true))⟩,
   ⟨(some 42), (.ixS 3 true), [.t 40, .t 41], (some (34, true))⟩,
   ⟨(some 43), (.ld 3 true), [.t 42], (some (34, true))⟩,
   ⟨(some 44), (.call .sh), [.t 35, .t 39, .t 43], (some (34, true))⟩,
   ⟨(some 45), (.binI .lss), [.t 44, .c (.i .i64 0)], (some (34, true))⟩,
   ⟨(some 46), .notB, [.t 45], (some (34, true))⟩,
   ⟨(some 47), .pick, [.t 34, .t 46, .c (.b false)], none⟩] [0, 1, 4, 11, 12, 47])
 (.cond (.t 47)
  .skip
  (.exit 2)))
 (.block 3
  (.reg [⟨(some 48), .mv, [.t 11], none⟩,
    ⟨(some 49), (.binI .add), [.t 48, .c (.i .i64 1)], none⟩,
    ⟨(some 11), .mv, [.t 49], none⟩] [0, 1, 4, 11, 12])))

def l93_1 : DC :=
 (.loop [0, 1, 4, 11, 12] b93_0)

def b93_2 : DC :=
 (.seq (.seq (.reg [⟨(some 50), .mv, [.t 11], none⟩,
   ⟨(some 51), .mv, [.t 12], none⟩,
   ⟨(some 52), (.binI .leq), [.t 50, .t 51], none⟩,
   ⟨(some 53), .mv, [.t 52], none⟩,
   ⟨(some 54), .mv, [.t 4], (some (53, true))⟩,
   ⟨(some 55), .mv, [.t 0], (some (53, true))⟩,
   ⟨(some 56), .mv, [.t 1], (some (53, true))⟩,
   ⟨(some 57), (.ixS 3 true), [.t 55, .t 56], (some (53, true))⟩,
   ⟨(some 58), (.ld 3 true), [.t 57], (some (53, true))⟩,
   ⟨(some 59), .mv, [.t 0], (some (53, true))⟩,
   ⟨(some 60), .mv, [.t 12], (some (53, true))⟩,
   ⟨(some 61), (.ixS 3 true), [.t 59, .t 60], (some (53, true))⟩,
   ⟨(some 62), (.ld 3 true), [.t 61], (some (53, true))⟩,
   ⟨(some 63), (.call .sh), [.t 54, .t 58, .t 62], (some (53, true))⟩,
   ⟨(some 64), (.binI .lss), [.t 63, .c (.i .i64 0)], (some (53, true))⟩,
   ⟨(some 65), .pick, [.t 53, .t 64, .c (.b false)], none⟩] [0, 1, 4, 11, 12, 65])
 (.cond (.t 65)
  .skip
  (.exit 4)))
 (.block 5
  (.reg [⟨(some 66), .mv, [.t 12], none⟩,
    ⟨(some 67), (.binI .sub), [.t 66, .c (.i .i64 1)], none⟩,
    ⟨(some 12), .mv, [.t 67], none⟩] [0, 1, 4, 11, 12])))

def l93_3 : DC :=
 (.loop [0, 1, 4, 11, 12] b93_2)

def b93_4 : DC :=
 (.block 1
  (.seq (.block 2
   l93_1)
  (.seq (.block 4
   l93_3)
  (.seq (.seq (.reg [⟨(some 68), .mv, [.t 11], none⟩,
    ⟨(some 69), .mv, [.t 12], none⟩,
    ⟨(some 70), (.binI .gtr), [.t 68, .t 69], none⟩] [0, 1, 4, 11, 12, 70])
  (.cond (.t 70)
   (.exit 0)
   .skip))
  (.seq (.reg [⟨(some 71), .mv, [.t 0], none⟩,
    ⟨(some 72), .mv, [.t 11], none⟩,
    ⟨(some 73), .mv, [.t 0], none⟩,
    ⟨(some 74), .mv, [.t 12], none⟩,
    ⟨(some 75), .mv, [.t 0], none⟩,
    ⟨(some 76), .mv, [.t 12], none⟩,
    ⟨(some 77), (.ixS 3 true), [.t 75, .t 76], none⟩,
    ⟨(some 78), (.ld 3 true), [.t 77], none⟩,
    ⟨(some 79), .mv, [.t 0], none⟩,
    ⟨(some 80), .mv, [.t 11], none⟩,
    ⟨(some 81), (.ixS 3 true), [.t 79, .t 80], none⟩,
    ⟨(some 82), (.ld 3 true), [.t 81], none⟩,
    ⟨(some 83), (.ixS 3 true), [.t 71, .t 72], none⟩,
    ⟨none, (.st 3), [.t 83, .t 78], none⟩,
    ⟨(some 84), (.ixS 3 true), [.t 73, .t 74], none⟩,
    ⟨none, (.st 3), [.t 84, .t 82], none⟩] [0, 1, 4, 11, 12])
  (.seq (.reg [⟨(some 85), .mv, [.t 11], none⟩,
    ⟨(some 86), (.binI .add), [.t 85, .c (.i .i64 1)], none⟩,
    ⟨(some 11), .mv, [.t 86], none⟩] [0, 1, 4, 11, 12])
  (.reg [⟨(some 87), .mv, [.t 12], none⟩,
    ⟨(some 88), (.binI .sub), [.t 87, .c (.i .i64 1)], none⟩,
    ⟨(some 12), .mv, [.t 88], none⟩] [0, 1, 4, 11, 12])))))))

def l93_5 : DC :=
 (.loop [0, 1, 4, 11, 12] b93_4)

def c93 : DC :=
 (.seq (.reg [⟨(some 10), .mv, [.c (.i .i64 0)], none⟩] [0, 1, 2, 3, 4])
 (.seq (.reg [⟨(some 13), .mv, [.t 0], none⟩,
   ⟨(some 14), .mv, [.t 1], none⟩,
   ⟨(some 15), .mv, [.t 0], none⟩,
   ⟨(some 16), .mv, [.t 3], none⟩,
   ⟨(some 17), .mv, [.t 0], none⟩,
   ⟨(some 18), .mv, [.t 3], none⟩,
   ⟨(some 19), (.ixS 3 true), [.t 17, .t 18], none⟩,
   ⟨(some 20), (.ld 3 true), [.t 19], none⟩,
   ⟨(some 21), .mv, [.t 0], none⟩,
   ⟨(some 22), .mv, [.t 1], none⟩,
   ⟨(some 23), (.ixS 3 true), [.t 21, .t 22], none⟩,
   ⟨(some 24), (.ld 3 true), [.t 23], none⟩,
   ⟨(some 25), (.ixS 3 true), [.t 13, .t 14], none⟩,
   ⟨none, (.st 3), [.t 25, .t 20], none⟩,
   ⟨(some 26), (.ixS 3 true), [.t 15, .t 16], none⟩,
   ⟨none, (.st 3), [.t 26, .t 24], none⟩] [0, 1, 2, 4])
 (.seq (.reg [⟨(some 27), .mv, [.t 1], none⟩,
   ⟨(some 28), (.binI .add), [.t 27, .c (.i .i64 1)], none⟩,
   ⟨(some 29), .mv, [.t 2], none⟩,
   ⟨(some 30), (.binI .sub), [.t 29, .c (.i .i64 1)], none⟩,
   ⟨(some 11), .mv, [.t 28], none⟩,
   ⟨(some 12), .mv, [.t 30], none⟩] [0, 1, 4, 11, 12])
 (.seq (.block 0
  l93_5)
 (.seq (.reg [⟨(some 89), .mv, [.t 11], none⟩,
   ⟨(some 10), .mv, [.t 89], none⟩] [10])
 .ret)))))

def d93 : DFun := ⟨5, 90, c93, [.t 10]⟩

theorem ok93 : Fok Try.prog 93 d93 := ⟨Try.f93, Try.func93, by kernel_rfl, by kernel_rfl⟩

-- slices.partitionCmpFunc[[3]int]
def b94_0 : DC :=
 (.seq (.seq (.reg [⟨(some 32), .mv, [.t 12], none⟩,
   ⟨(some 33), .mv, [.t 13], none⟩,
   ⟨(some 34), (.binI .leq), [.t 32, .t 33], none⟩,
   ⟨(some 35), .mv, [.t 34], none⟩,
   ⟨(some 36), .mv, [.t 4], (some (35, true))⟩,
   ⟨(some 37), .mv, [.t 0], (some (35, true))⟩,
   ⟨(some 38), .mv, [.t 12], (some (35, true))⟩,
   ⟨(some 39), (.ixS 3 true), [.t 37, .t 38], (some (35, true))⟩,
   ⟨(some 40), (.ld 3 true), [.t 39], (some (35, true))⟩,
   ⟨(some 41), .mv, [.t 0], (some (35, true))⟩,
   ⟨(some 42), .mv, [.t 1], (some (35, true))⟩,
   ⟨(some 43), (.ixS 3 true), [.t 41, .t 42], (some (35, true))⟩,
   ⟨(some 44), (.ld 3 true), [.t 43], (some (35, true))⟩,
   ⟨(some 45), (.call .sh), [.t 36, .t 40, .t 44], (some (35, true))⟩,
   ⟨(some 46), (.binI .lss), [.t 45, .c (.i .i64 0)], (some (35, true))⟩,
   ⟨(some 47), .pick, [.t 35, .t 46, .c (.b false)], none⟩] [0, 1, 4, 12, 13, 47])
 (.cond (.t 47)
  .skip
  (.exit 0)))
 (.block 1
  (.reg [⟨(some 48), .mv, [.t 12], none⟩,
    ⟨(some 49), (.binI .add), [.t 48, .c (.i .i64 1)], none⟩,
    ⟨(some 12), .mv, [.t 49], none⟩] [0, 1, 4, 12, 13])))

def l94_1 : DC :=
 (.loop [0, 1, 4, 12, 13] b94_0)

def b94_2 : DC :=
 (.seq (.seq (.reg [⟨(some 50), .mv, [.t 12], none⟩,
   ⟨(some 51), .mv, [.t 13], none⟩,
   ⟨(some 52), (.binI .leq), [.t 50, .t 51], none⟩,
   ⟨(some 53), .mv, [.t 52], none⟩,
   ⟨(some 54), .mv, [.t 4], (some (53, true))⟩,
   ⟨(some 55), .mv, [.t 0], (some (53, true))⟩,
   ⟨(some 56), .mv, [.t 13], (some (53, true))⟩,
   ⟨(some 57), (.ixS 3 true), [.t 55, .t 56], (some (53, true))⟩,
   ⟨(some 58), (.ld 3 true), [.t 57], (some (53, true))⟩,
   ⟨(some 59), .mv, [.t 0], (some (53, true))⟩,
   ⟨(some 60), .mv, [.t 1], (some (53, true))⟩,
   ⟨(some 61), (.ixS 3 true), [.t 59, .t 60], (some (53, true))⟩,
   ⟨(some 62), (.ld 3 true), [.t 61], (some (53, true))⟩,
   ⟨(some 63), (.call .sh), [.t 54, .t 58, .t 62], (some (53, true))⟩,
   ⟨(some 64), (.binI .lss), [.t 63, .c (.i .i64 0)], (some (53, true))⟩,
   ⟨(some 65), .notB, [.t 64], (some (53, true))⟩,
   ⟨(some 66), .pick, [.t 53, .t 65, .c (.b false)], none⟩] [0, 1, 4, 12, 13, 66])
 (.cond (.t 66)
  .skip
  (.exit 2)))
 (.block 3
  (.reg [⟨(some 67), .mv, [.t 13], none⟩,
    ⟨(some 68), (.binI .sub), [.t 67, .c (.i .i64 1)], none⟩,
    ⟨(some 13), .mv, [.t 68], none⟩] [0, 1, 4, 12, 13])))

def l94_3 : DC :=
 (.loop [0, 1, 4, 12, 13] b94_2)

def b94_4 : DC :=
 (.seq (.seq (.reg [⟨(some 105), .mv, [.t 12], none⟩,
   ⟨(some 106), .mv, [.t 13], none⟩,
   ⟨(some 107), (.binI .leq), [.t 105, .t 106], none⟩,
   ⟨(some 108), .mv, [.t 107], none⟩,
   ⟨(some 109), .mv, [.t 4], (some (108, true))⟩,
   ⟨(some 110), .mv, [.t 0], (some (108, true))⟩,
   ⟨(some 111), .mv, [.t 12], (some (108, true))⟩,
   ⟨(some 112), (.ixS 3 true), [.t 110, .t 111], (some (108, true))⟩,
   ⟨(some 113), (.ld 3 true), [.t 112], (some (108, true))⟩,
   ⟨(some 114), .mv, [.t 0], (some (108, true))⟩,
   ⟨(some 115), .mv, [.t 1], (some (108, true))⟩,
   ⟨(some 116), (.ixS 3 true), [.t 114, .t 115], (some (108, true))⟩,
   ⟨(some 117), (.ld 3 true), [.t 116], (some (108, true))⟩,
   ⟨(some 118), (.call .sh), [.t 109, .t 113, .t 117], (some (108, true))⟩,
   ⟨(some 119), (.binI .lss), [.t 118, .c (.i .i64 0)], (some (108, true))⟩,
   ⟨(some 120), .pick, [.t 108, .t 119, .c (.b false)], none⟩] [0, 1, 4, 12, 13, 120])
 (.cond (.t 120)
  .skip
  (.exit 6)))
 (.block 7
  (.reg [⟨(some 121), .mv, [.t 12], none⟩,
    ⟨(some 122), (.binI .add), [.t 121, .c (.i .i64 1)], none⟩,
    ⟨(some 12), .mv, [.t 122], none⟩] [0, 1, 4, 12, 13])))

def l94_5 : DC :=
 (.loop [0, 1, 4, 12, 13] b94_4)

def b94_6 : DC :=
 (.seq (.seq (.reg [⟨(some 123), .mv, [.t 12], none⟩,
   ⟨(some 124), .mv, [.t 13], none⟩,
   ⟨(some 125), (.binI .leq), [.t 123, .t 124], none⟩,
   ⟨(some 126), .mv, [.t 125], none⟩,
   ⟨(some 127), .mv, [.t 4], (some (126, true))⟩,
   ⟨(some 128), .mv, [.t 0], (some (126, true))⟩,
   ⟨(some 129), .mv, [.t 13], (some (126, true))⟩,
   ⟨(some 130), (.ixS 3 true), [.t 128, .t 129], (some (126, true))⟩,
   ⟨(some 131), (.ld 3 true), [.t 130], (some (126, true))⟩,
   ⟨(some 132), .mv, [.t 0], (some (126, true))⟩,
   ⟨(some 133), .mv, [.t 1], (some (126, true))⟩,
   ⟨(some 134), (.ixS 3 true), [.t 132, .t 133], (some (126, true))⟩,
   ⟨(some 135), (.ld 3 true), [.t 134], (some (126, true))⟩,
   ⟨(some 136), (.call .sh), [.t 127, .t 131, .t 135], (some (126, true))⟩,
   ⟨(some 137), (.binI .lss), [.t 136, .c (.i .i64 0)], (some (126, true))⟩,
   ⟨(some 138), .notB, [.t 137], (some (126, true))⟩,
   ⟨(some 139), .pick, [.t 126, .t 138, .c (.b false)], none⟩] [0, 1, 4, 12, 13, 139])
 (.cond (.t 139)
  .skip
  (.exit 8)))
 (.block 9
  (.reg [⟨(some 140), .mv, [.t 13], none⟩,
    ⟨(some 141), (.binI .sub), [.t 140, .c (.i .i64 1)], none⟩,
    ⟨(some 13), .mv, [.t 141], none⟩] [0, 1, 4, 12, 13])))

def l94_7 : DC :=
 (.loop [0, 1, 4, 12, 13] b94_6)

def b94_8 : DC :=
 (.block 5
  (.seq (.block 6
   l94_5)
  (.seq (.block 8
   l94_7)
  (.seq (.seq (.reg [⟨(some 142), .mv, [.t 12], none⟩,
    ⟨(some 143), .mv, [.t 13], none⟩,
    ⟨(some 144), (.binI .gtr), [.t 142, .t 143], none⟩] [0, 1, 4, 12, 13, 144])
  (.cond (.t 144)
   (.exit 4)
   .skip))
  (.seq (.reg [⟨(some 145), .mv, [.t 0], none⟩,
    ⟨(some 146), .mv, [.t 12], none⟩,
    ⟨(some 147), .mv, [.t 0], none⟩,
    ⟨(some 148), .mv, [.t 13], none⟩,
    ⟨(some 149), .mv, [.t 0], none⟩,
    ⟨(some 150), .mv, [.t 13], none⟩,
    ⟨(some 151), (.ixS 3 true), [.t 149, .t 150], none⟩,
    ⟨(some 152), (.ld 3 true), [.t 151], none⟩,
    ⟨(some 153), .mv, [.t 0], none⟩,
    ⟨(some 154), .mv, [.t 12], none⟩,
    ⟨(some 155), (.ixS 3 true), [.t 153, .t 154], none⟩,
    ⟨(some 156), (.ld 3 true), [.t 155], none⟩,
    ⟨(some 157), (.ixS 3 true), [.t 145, .t 146], none⟩,
    ⟨none, (.st 3), [.t 157, .t 152], none⟩,
    ⟨(some 158), (.ixS 3 true), [.t 147, .t 148], none⟩,
    ⟨none, (.st 3), [.t 158, .t 156], none⟩] [0, 1, 4, 12, 13])
  (.seq (.reg [⟨(some 159), .mv, [.t 12], none⟩,
    ⟨(some 160), (.binI .add), [.t 159, .c (.i .i64 1)], none⟩,
    ⟨(some 12), .mv, [.t 160], none⟩] [0, 1, 4, 12, 13])
  (.reg [⟨(some 161), .mv, [.t 13], none⟩,
    ⟨(some 162), (.binI .sub), [.t 161, .c (.i .i64 1)], none⟩,
    ⟨(some 13), .mv, [.t 162], none⟩] [0, 1, 4, 12, 13])))))))

def l94_9 : DC :=
 (.loop [0, 1, 4, 12, 13] b94_8)

def c94 : DC :=
 (.seq (.reg [⟨(some 10), .mv, [.c (.i .i64 0)], none⟩,
   ⟨(some 11), .mv, [.c (.b false)], none⟩] [0, 1, 2, 3, 4])
 (.seq (.reg [⟨(some 14), .mv, [.t 0], none⟩,
   ⟨(some 15), .mv, [.t 1], none⟩,
   ⟨(some 16), .mv, [.t 0], none⟩,
   ⟨(some 17), .mv, [.t 3], none⟩,
   ⟨(some 18), .mv, [.t 0], none⟩,
   ⟨(some 19), .mv, [.t 3], none⟩,
   ⟨(some 20), (.ixS 3 true), [.t 18, .t 19], none⟩,
   ⟨(some 21), (.ld 3 true), [.t 20], none⟩,
   ⟨(some 22), .mv, [.t 0], none⟩,
   ⟨(some 23), .mv, [.t 1], none⟩,
   ⟨(some 24), (.ixS 3 true), [.t 22, .t 23], none⟩,
   ⟨(some 25), (.ld 3 true), [.t 24], none⟩,
   ⟨(some 26), (.ixS 3 true), [.t 14, .t 15], none⟩,
   ⟨none, (.st 3), [.t 26, .t 21], none⟩,
   ⟨(some 27), (.ixS 3 true), [.t 16, .t 17], none⟩,
   ⟨none, (.st 3), [.t 27, .t 25], none⟩] [0, 1, 2, 4])
 (.seq (.reg [⟨(some 28), .mv, [.t 1], none⟩,
   ⟨(some 29), (.binI .add), [.t 28, .c (.i .i64 1)], none⟩,
   ⟨(some 30), .mv, [.t 2], none⟩,
   ⟨(some 31), (.binI .sub), [.t 30, .c (.i .i64 1)], none⟩,
   ⟨(some 12), .mv, [.t 29], none⟩,
   ⟨(some 13), .mv, [.t 31], none⟩] [0, 1, 4, 12, 13])
 (.seq (.block 0
  l94_1)
 (.seq (.block 2
  l94_3)
 (.seq (.seq (.reg [⟨(some 69), .mv, [.t 12], none⟩,
   ⟨(some 70), .mv, [.t 13], none⟩,
   ⟨(some 71), (.binI .gtr), [.t 69, .t 70], none⟩] [0, 1, 4, 12, 13, 71])
 (.cond (.t 71)
  (.seq (.reg [⟨(some 72), .mv, [.t 0], none⟩,
    ⟨(some 73), .mv, [.t 13], none⟩,
    ⟨(some 74), .mv, [.t 0], none⟩,
    ⟨(some 75), .mv, [.t 1], none⟩,
    ⟨(some 76), .mv, [.t 0], none⟩,
    ⟨(some 77), .mv, [.t 1], none⟩,
    ⟨(some 78), (.ixS 3 true), [.t 76, .t 77], none⟩,
    ⟨(some 79), (.ld 3 true), [.t 78], none⟩,
    ⟨(some 80), .mv, [.t 0], none⟩,
    ⟨(some 81), .mv, [.t 13], none⟩,
    ⟨(some 82), (.ixS 3 true), [.t 80, .t 81], none⟩,
    ⟨(some 83), (.ld 3 true), [.t 82], none⟩,
    ⟨(some 84), (.ixS 3 true), [.t 72, .t 73], none⟩,
    ⟨none, (.st 3), [.t 84, .t 79], none⟩,
    ⟨(some 85), (.ixS 3 true), [.t 74, .t 75], none⟩,
    ⟨none, (.st 3), [.t 85, .t 83], none⟩] [13])
  (.seq (.reg [⟨(some 86), .mv, [.t 13], none⟩,
    ⟨(some 10), .mv, [.t 86], none⟩,
    ⟨(some 11), .mv, [.c (.b true)], none⟩] [10, 11])
  .ret))
  .skip))
 (.seq (.reg [⟨(some 87), .mv, [.t 0], none⟩,
   ⟨(some 88), .mv, [.t 12], none⟩,
   ⟨(some 89), .mv, [.t 0], none⟩,
   ⟨(some 90), .mv, [.t 13], none⟩,
   ⟨(some 91), .mv, [.t 0], none⟩,
   ⟨(some 92), .mv, [.t 13], none⟩,
   ⟨(some 93), (.ixS 3 true), [.t 91, .t 92], none⟩,
   ⟨(some 94), (.ld 3 true), [.t 93], none⟩,
   ⟨(some 95), .mv, [.t 0], none⟩,
   ⟨(some 96), .mv, [.t 12], none⟩,
   ⟨(some 97), (.ixS 3 true), [.t 95, .t 96], none⟩,
   ⟨(some 98), (.ld 3 true), [.t 97], none⟩,
   ⟨(some 99), (.ixS 3 true), [.t 87, .t 88], none⟩,
   ⟨none, (.st 3), [.t 99, .t 94], none⟩,
   ⟨(some 100), (.ixS 3 true), [.t 89, .t 90], none⟩,
   ⟨none, (.st 3), [.t 100, .t 98], none⟩] [0, 1, 4, 12, 13])
 (.seq (.reg [⟨(some 101), .mv, [.t 12], none⟩,
   ⟨(some 102), (.binI .add), [.t 101, .c (.i .i64 1)], none⟩,
   ⟨(some 12), .mv, [.t 102], none⟩] [0, 1, 4, 12, 13])
 (.seq (.reg [⟨(some 103), .mv, [.t 13], none⟩,
   ⟨(some 104), (.binI .sub), [.t 103, .c (.i .i64 1)], none⟩,
   ⟨(some 13), .mv, [.t 104], none⟩] [0, 1, 4, 12, 13])
 (.seq (.block 4
  l94_9)
 (.seq (.reg [⟨(some 163), .mv, [.t 0], none⟩,
   ⟨(some 164), .mv, [.t 13], none⟩,
   ⟨(some 165), .mv, [.t 0], none⟩,
   ⟨(some 166), .mv, [.t 1], none⟩,
   ⟨(some 167), .mv, [.t 0], none⟩,
   ⟨(some 168), .mv, [.t 1], none⟩,
   ⟨(some 169), (.ixS 3 true), [.t 167, .t 168], none⟩,
   ⟨(some 170), (.ld 3 true), [.t 169], none⟩,
   ⟨(some 171), .mv, [.t 0], none⟩,
   ⟨(some 172), .mv, [.t 13], none⟩,
   ⟨(some 173), (.ixS 3 true), [.t 171, .t 172], none⟩,
   ⟨(some 174), (.ld 3 true), [.t 173], none⟩,
   ⟨(some 175), (.ixS 3 true), [.t 163, .t 164], none⟩,
   ⟨none, (.st 3), [.t 175, .t 170], none⟩,
   ⟨(some 176), (.ixS 3 true), [.t 165, .t 166], none⟩,
   ⟨none, (.st 3), [.t 176, .t 174], none⟩] [13])
 (.seq (.reg [⟨(some 177), .mv, [.t 13], none⟩,
   ⟨(some 10), .mv, [.t 177], none⟩,
   ⟨(some 11), .mv, [.c (.b false)], none⟩] [10, 11])
 .ret))))))))))))

def d94 : DFun := ⟨5, 178, c94, [.t 10, .t 11]⟩

theorem ok94 : Fok Try.prog 94 d94 := ⟨Try.f94, Try.func94, by kernel_rfl, by kernel_rfl⟩

-- math/bits.Len32
def c95 : DC :=
 (.seq (.reg [⟨(some 2), .mv, [.c (.i .i64 0)], none⟩] [0, 2])
 (.seq (.seq (.reg [⟨(some 3), .mv, [.t 0], none⟩,
   ⟨(some 4), (.binI .geq), [.t 3, .c (.i .u32 65536)], none⟩] [0, 2, 4])
 (.cond (.t 4)
  (.seq (.reg [⟨(some 5), .mv, [.t 0], none⟩,
    ⟨(some 6), (.binI .shr), [.t 5, .c (.i .u64 16)], none⟩,
    ⟨(some 0), .mv, [.t 6], none⟩] [0])
  (.reg [⟨(some 2), .mv, [.c (.i .i64 16)], none⟩] [0, 2]))
  .skip))
 (.seq (.seq (.reg [⟨(some 7), .mv, [.t 0], none⟩,
   ⟨(some 8), (.binI .geq), [.t 7, .c (.i .u32 256)], none⟩] [0, 2, 8])
 (.cond (.t 8)
  (.seq (.reg [⟨(some 9), .mv, [.t 0], none⟩,
    ⟨(some 10), (.binI .shr), [.t 9, .c (.i .u64 8)], none⟩,
    ⟨(some 0), .mv, [.t 10], none⟩] [0, 2])
  (.reg [⟨(some 11), .mv, [.t 2], none⟩,
    ⟨(some 12), (.binI .add), [.t 11, .c (.i .i64 8)], none⟩,
    ⟨(some 2), .mv, [.t 12], none⟩] [0, 2]))
  .skip))
 (.seq (.reg [⟨(some 13), .mv, [.t 2], none⟩,
   ⟨(some 14), .mv, [.t 0], none⟩,
   ⟨(some 15), (.conv .u8), [.t 14], none⟩,
   ⟨(some 16), .ixStr, [.c (.s ⟨#[0, 1, 2, 2, 3, 3, 3, 3, 4, 4, 4, 4, 4, 4, 4, 4, 5, 5, 5, 5, 5, 5, 5, 5, 5, 5, 5, 5, 5, 5, 5, 5, 6, 6, 6, 6, 6, 6, 6, 6, 6, 6, 6, 6, 6, 6, 6, 6, 6, 6, 6, 6, 6, 6, 6, 6, 6, 6, 6, 6, 6, 6, 6, 6, 7, 7, 7, 7, 7, 7, 7, 7, 7, 7, 7, 7, 7, 7, 7, 7, 7, 7, 7, 7, 7, 7, 7, 7, 7, 7, 7, 7, 7, 7, 7, 7, 7, 7, 7, 7, 7, 7, 7, 7, 7, 7, 7, 7, 7, 7, 7, 7, 7, 7, 7, 7, 7, 7, 7, 7, 7, 7, 7, 7, 7, 7, 7, 7, 8, 8, 8, 8, 8, 8, 8, 8, 8, 8, 8, 8, 8, 8, 8, 8, 8, 8, 8, 8, 8, 8, 8, 8, 8, 8, 8, 8, 8, 8, 8, 8, 8, 8, 8, 8, 8, 8, 8, 8, 8, 8, 8, 8, 8, 8, 8, 8, 8, 8, 8, 8, 8, 8, 8, 8, 8, 8, 8, 8, 8, 8, 8, 8, 8, 8, 8, 8, 8, 8, 8, 8, 8, 8, 8, 8, 8, 8, 8, 8, 8, 8, 8, 8, 8, 8, 8, 8, 8, 8, 8, 8, 8, 8, 8, 8, 8, 8, 8, 8, 8, 8, 8, 8, 8, 8, 8, 8, 8, 8, 8, 8, 8, 8, 8, 8, 8, 8, 8, 8, 8, 8, 8, 8, 8, 8, 8, 8]⟩), .t 15], none⟩,
   ⟨(some 17), (.conv .i64), [.t 16], none⟩,
   ⟨(some 18), (.binI .add), [.t 13, .t 17], none⟩,
   ⟨(some 2), .mv, [.t 18], none⟩] [2])
 .ret))))

def d95 : DFun := ⟨1, 19, c95, [.t 2]⟩

theorem ok95 : Fok Try.prog 95 d95 := ⟨Try.f95, Try.func95, by kernel_rfl, by kernel_rfl⟩

-- math/bits.Len64
def c96 : DC :=
 (.seq (.reg [⟨(some 2), .mv, [.c (.i .i64 0)], none⟩] [0, 2])
 (.seq (.seq (.reg [⟨(some 3), .mv, [.t 0], none⟩,
   ⟨(some 4), (.binI .geq), [.t 3, .c (.i .u64 4294967296)], none⟩] [0, 2, 4])
 (.cond (.t 4)
  (.seq (.reg [⟨(some 5), .mv, [.t 0], none⟩,
    ⟨(some 6), (.binI .shr), [.t 5, .c (.i .u64 32)], none⟩,
    ⟨(some 0), .mv, [.t 6], none⟩] [0])
  (.reg [⟨(some 2), .mv, [.c (.i .i64 32)], none⟩] [0, 2]))
  .skip))
 (.seq (.seq (.reg [⟨(some 7), .mv, [.t 0], none⟩,
   ⟨(some 8), (.binI .geq), [.t 7, .c (.i .u64 65536)], none⟩] [0, 2, 8])
 (.cond (.t 8)
  (.seq (.reg [⟨(some 9), .mv, [.t 0], none⟩,
    ⟨(some 10), (.binI .shr), [.t 9, .c (.i .u64 16)], none⟩,
    ⟨(some 0), .mv, [.t 10], none⟩] [0, 2])
  (.reg [⟨(some 11), .mv, [.t 2], none⟩,
    ⟨(some 12), (.binI .add), [.t 11, .c (.i .i64 16)], none⟩,
    ⟨(some 2), .mv, [.t 12], none⟩] [0, 2]))
  .skip))
 (.seq (.seq (.reg [⟨(some 13), .mv, [.t 0], none⟩,
   ⟨(some 14), (.binI .geq), [.t 13, .c (.i .u64 256)], none⟩] [0, 2, 14])
 (.cond (.t 14)
  (.seq (.reg [⟨(some 15), .mv, [.t 0], none⟩,
    ⟨(some 16), (.binI .shr), [.t 15, .c (.i .u64 8)], none⟩,
    ⟨(some 0), .mv, [.t 16], none⟩] [0, 2])
  (.reg [⟨(some 17), .mv, [.t 2], none⟩,
    ⟨(some 18), (.binI .add), [.t 17, .c (.i .i64 8)], none⟩,
    ⟨(some 2), .mv, [.t 18], none⟩] [0, 2]))
  .skip))
 (.seq (.reg [⟨(some 19), .mv, [.t 2], none⟩,
   ⟨(some 20), .mv, [.t 0], none⟩,
   ⟨(some 21), (.conv .u8), [.t 20], none⟩,
   ⟨(some 22), .ixStr, [.c (.s ⟨#[0, 1, 2, 2, 3, 3, 3, 3, 4, 4, 4, 4, 4, 4, 4, 4, 5, 5, 5, 5, 5, 5, 5, 5, 5, 5, 5, 5, 5, 5, 5, 5, 6, 6, 6, 6, 6, 6, 6, 6, 6, 6, 6, 6, 6, 6, 6, 6, 6, 6, 6, 6, 6, 6, 6, 6, 6, 6, 6, 6, 6, 6, 6, 6, 7, 7, 7, 7, 7, 7, 7, 7, 7, 7, 7, 7, 7, 7, 7, 7, 7, 7, 7, 7, 7, 7, 7, 7, 7, 7, 7, 7, 7, 7, 7, 7, 7, 7, 7, 7, 7, 7, 7, 7, 7, 7, 7, 7, 7, 7, 7, 7, 7, 7, 7, 7, 7, 7, 7, 7, 7, 7, 7, 7, 7, 7, 7, 7, 8, 8, 8, 8, 8, 8, 8, 8, 8, 8, 8, 8, 8, 8, 8, 8, 8, 8, 8, 8, 8, 8, 8, 8, 8, 8, 8, 8, 8, 8, 8, 8, 8, 8, 8, 8, 8, 8, 8, 8, 8, 8, 8, 8, 8, 8, 8, 8, 8, 8, 8, 8, 8, 8, 8, 8, 8, 8, 8, 8, 8, 8, 8, 8, 8, 8, 8, 8, 8, 8, 8, 8, 8, 8, 8, 8, 8, 8, 8, 8, 8, 8, 8, 8, 8, 8, 8, 8, 8, 8, 8, 8, 8, 8, 8, 8, 8, 8, 8, 8, 8, 8, 8, 8, 8, 8, 8, 8, 8, 8, 8, 8, 8, 8, 8, 8, 8, 8, 8, 8, 8, 8, 8, 8, 8, 8, 8, 8]⟩), .t 21], none⟩,
   ⟨(some 23), (.conv .i64), [.t 22], none⟩,
   ⟨(some 24), (.binI .add), [.t 19, .t 23], none⟩,
   ⟨(some 2), .mv, [.t 24], none⟩] [2])
 .ret)))))

def d96 : DFun := ⟨1, 25, c96, [.t 2]⟩

theorem ok96 : Fok Try.prog 96 d96 := ⟨Try.f96, Try.func96, by kernel_rfl, by kernel_rfl⟩

-- cmp.isNaN[int]
def c97 : DC :=
 (.seq (.reg [⟨(some 2), .mv, [.c (.b false)], none⟩] [0])
 (.seq (.reg [⟨(some 3), .mv, [.t 0], none⟩,
   ⟨(some 4), .mv, [.t 0], none⟩,
   ⟨(some 5), (.binI .neq), [.t 3, .t 4], none⟩,
   ⟨(some 2), .mv, [.t 5], none⟩] [2])
 .ret))

def d97 : DFun := ⟨1, 6, c97, [.t 2]⟩

theorem ok97 : Fok Try.prog 97 d97 := ⟨Try.f97, Try.func97, by kernel_rfl, by kernel_rfl⟩

-- slices.siftDownCmpFunc[[3]int]
def b98_0 : DC :=
 (.block 1
  (.seq (.reg [⟨(some 13), .mv, [.t 10], none⟩,
    ⟨(some 14), (.binI .mul), [.c (.i .i64 2), .t 13], none⟩,
    ⟨(some 15), (.binI .add), [.t 14, .c (.i .i64 1)], none⟩,
    ⟨(some 11), .mv, [.t 15], none⟩] [0, 2, 3, 4, 10, 11])
  (.seq (.seq (.reg [⟨(some 16), .mv, [.t 11], none⟩,
    ⟨(some 17), .mv, [.t 2], none⟩,
    ⟨(some 18), (.binI .geq), [.t 16, .t 17], none⟩] [0, 2, 3, 4, 10, 11, 18])
  (.cond (.t 18)
   (.exit 0)
   .skip))
  (.seq (.seq (.reg [⟨(some 19), .mv, [.t 11], none⟩,
    ⟨(some 20), (.binI .add), [.t 19, .c (.i .i64 1)], none⟩,
    ⟨(some 21), .mv, [.t 2], none⟩,
    ⟨(some 22), (.binI .lss), [.t 20, .t 21], none⟩,
    ⟨(some 23), .mv, [.t 22], none⟩,
    ⟨(some 24), .mv, [.t 4], (some (23, true))⟩,
    ⟨(some 25), .mv, [.t 0], (some (23, true))⟩,
    ⟨(some 26), .mv, [.t 3], (some (23, true))⟩,
    ⟨(some 27), .mv, [.t 11], (some (23, true))⟩,
    ⟨(some 28), (.binI .add), [.t 26, .t 27], (some (23, true))⟩,
    ⟨(some 29), (.ixS 3 true), [.t 25, .t 28], (some (23, true))⟩,
    ⟨(some 30), (.ld 3 true), [.t 29], (some (23, true))⟩,
    ⟨(some 31), .mv, [.t 0], (some (23, true))⟩,
    ⟨(some 32), .mv, [.t 3], (some (23, true))⟩,
    ⟨(some 33), .mv, [.t 11], (some (23, true))⟩,
    ⟨(some 34), (.binI .add), [.t 32, .t 33], (some (23, true))⟩,
    ⟨(some 35), (.binI .add), [.t 34, .c (.i .i64 1)], (some (23, true))⟩,
    ⟨(some 36), (.ixS 3 true), [.t 31, .t 35], (some (23, true))⟩,
    ⟨(some 37), (.ld 3 true), [.t 36], (some (23, true))⟩,
    ⟨(some 38), (.call .sh), [.t 24, .t 30, .t 37], (some (23, true))⟩,
    ⟨(some 39), (.binI .lss), [.t 38, .c (.i .i64 0)], (some (23, true))⟩,
    ⟨(some 40), .pick, [.t 23, .t 39, .c (.b false)], none⟩] [0, 2, 3, 4, 10, 11, 40])
  (.cond (.t 40)
   (.reg [⟨(some 41), .mv, [.t 11], none⟩,
     ⟨(some 42), (.binI .add), [.t 41, .c (.i .i64 1)], none⟩,
     ⟨(some 11), .mv, [.t 42], none⟩] [0, 2, 3, 4, 10, 11])
   .skip))
  (.seq (.seq (.reg [⟨(some 43), .mv, [.t 4], none⟩,
    ⟨(some 44), .mv, [.t 0], none⟩,
    ⟨(some 45), .mv, [.t 3], none⟩,
    ⟨(some 46), .mv, [.t 10], none⟩,
    ⟨(some 47), (.binI .add), [.t 45, .t 46], none⟩,
    ⟨(some 48), (.ixS 3 true), [.t 44, .t 47], none⟩,
    ⟨(some 49), (.ld 3 true), [.t 48], none⟩,
    ⟨(some 50), .mv, [.t 0], none⟩,
    ⟨(some 51), .mv, [.t 3], none⟩,
    ⟨(some 52), .mv, [.t 11], none⟩,
    ⟨(some 53), (.binI .add), [.t 51, .t 52], none⟩,
    ⟨(some 54), (.ixS 3 true), [.t 50, .t 53], none⟩,
    ⟨(some 55), (.ld 3 true), [.t 54], none⟩,
    ⟨(some 56), (.call .sh), [.t 43, .t 49, .t 55], none⟩,
    ⟨(some 57), (.binI .lss), [.t 56, .c (.i .i64 0)], none⟩,
    ⟨(some 58), .notB, [.t 57], none⟩] [0, 2, 3, 4, 10, 11, 58])
  (.cond (.t 58)
   .ret
   .skip))
  (.seq (.reg [⟨(some 59), .mv, [.t 0], none⟩,
    ⟨(some 60), .mv, [.t 3], none⟩,
    ⟨(some 61), .mv, [.t 10], none⟩,
    ⟨(some 62), (.binI .add), [.t 60, .t 61], none⟩,
    ⟨(some 63), .mv, [.t 0], none⟩,
    ⟨(some 64), .mv, [.t 3], none⟩,
    ⟨(some 65), .mv, [.t 11], none⟩,
    ⟨(some 66), (.binI .add), [.t 64, .t 65], none⟩,
    ⟨(some 67), .mv, [.t 0], none⟩,
    ⟨(some 68), .mv, [.t 3], none⟩,
    ⟨(some 69), .mv, [.t 11], none⟩,
    ⟨(some 70), (.binI .add), [.t 68, .t 69], none⟩,
    ⟨(some 71), (.ixS 3 true), [.t 67, .t 70], none⟩,
    ⟨(some 72), (.ld 3 true), [.t 71], none⟩,
    ⟨(some 73), .mv, [.t 0], none⟩,
    ⟨(some 74), .mv, [.t 3], none⟩,
    ⟨(some 75), .mv, [.t 10], none⟩,
    ⟨(some 76), (.binI .add), [.t 74, .t 75], none⟩,
    ⟨(some 77), (.ixS 3 true), [.t 73, .t 76], none⟩,
    ⟨(some 78), (.ld 3 true), [.t 77], none⟩,
    ⟨(some 79), (.ixS 3 true), [.t 59, .t 62], none⟩,
    ⟨none, (.st 3), [.t 79, .t 72], none⟩,
    ⟨(some 80), (.ixS 3 true), [.t 63, .t 66], none⟩,
    ⟨none, (.st 3), [.t 80, .t 78], none⟩] [0, 2, 3, 4, 11])
  (.reg [⟨(some 81), .mv, [.t 11], none⟩,
    ⟨(some 10), .mv, [.t 81], none⟩] [0, 2, 3, 4, 10])))))))

def l98_1 : DC :=
 (.loop [0, 2, 3, 4, 10] b98_0)

def c98 : DC :=
 (.seq (.reg [⟨(some 12), .mv, [.t 1], none⟩,
   ⟨(some 10), .mv, [.t 12], none⟩] [0, 2, 3, 4, 10])
 (.block 0
  l98_1))

def d98 : DFun := ⟨5, 82, c98, []⟩

theorem ok98 : Fok Try.prog 98 d98 := ⟨Try.f98, Try.func98, by kernel_rfl, by kernel_rfl⟩

-- slices.nextPowerOfTwo
def c99 : DC :=
 (.seq (.reg [⟨(some 2), .mv, [.c (.i .u64 0)], none⟩] [0])
 (.seq (.reg [⟨(some 3), .mv, [.t 0], none⟩,
   ⟨(some 4), (.conv .u64), [.t 3], none⟩,
   ⟨(some 5), (.call (.pu [])), [.c (.fn 82 [] []), .t 4], none⟩,
   ⟨(some 6), (.binI .shl), [.c (.i .u64 1), .t 5], none⟩,
   ⟨(some 2), .mv, [.t 6], none⟩] [2])
 .ret))

def d99 : DFun := ⟨1, 7, c99, [.t 2]⟩

theorem ok99 : Fok Try.prog 99 d99 := ⟨Try.f99, Try.func99, by kernel_rfl, by kernel_rfl⟩

-- (*slices.xorshift).Next
def c100 : DC :=
 (.seq (.reg [⟨(some 2), .mv, [.c (.i .u64 0)], none⟩] [0])
 (.seq (.reg [⟨(some 3), .mv, [.t 0], none⟩,
   ⟨(some 4), .nilck, [.t 3], none⟩,
   ⟨(some 5), (.ld 1 false), [.t 4], none⟩,
   ⟨(some 6), .mv, [.t 0], none⟩,
   ⟨(some 7), .nilck, [.t 6], none⟩,
   ⟨(some 8), (.ld 1 false), [.t 7], none⟩,
   ⟨(some 9), (.binI .shl), [.t 8, .c (.i .u64 13)], none⟩,
   ⟨(some 10), (.binI .xor), [.t 5, .t 9], none⟩,
   ⟨(some 11), .nilck, [.t 3], none⟩,
   ⟨none, (.st 1), [.t 11, .t 10], none⟩] [0])
 (.seq (.reg [⟨(some 12), .mv, [.t 0], none⟩,
   ⟨(some 13), .nilck, [.t 12], none⟩,
   ⟨(some 14), (.ld 1 false), [.t 13], none⟩,
   ⟨(some 15), .mv, [.t 0], none⟩,
   ⟨(some 16), .nilck, [.t 15], none⟩,
   ⟨(some 17), (.ld 1 false), [.t 16], none⟩,
   ⟨(some 18), (.binI .shr), [.t 17, .c (.i .u64 7)], none⟩,
   ⟨(some 19), (.binI .xor), [.t 14, .t 18], none⟩,
   ⟨(some 20), .nilck, [.t 12], none⟩,
   ⟨none, (.st 1), [.t 20, .t 19], none⟩] [0])
 (.seq (.reg [⟨(some 21), .mv, [.t 0], none⟩,
   ⟨(some 22), .nilck, [.t 21], none⟩,
   ⟨(some 23), (.ld 1 false), [.t 22], none⟩,
   ⟨(some 24), .mv, [.t 0], none⟩,
   ⟨(some 25), .nilck, [.t 24], none⟩,
   ⟨(some 26), (.ld 1 false), [.t 25], none⟩,
   ⟨(some 27), (.binI .shl), [.t 26, .c (.i .u64 17)], none⟩,
   ⟨(some 28), (.binI .xor), [.t 23, .t 27], none⟩,
   ⟨(some 29), .nilck, [.t 21], none⟩,
   ⟨none, (.st 1), [.t 29, .t 28], none⟩] [0])
 (.seq (.reg [⟨(some 30), .mv, [.t 0], none⟩,
   ⟨(some 31), .nilck, [.t 30], none⟩,
   ⟨(some 32), (.ld 1 false), [.t 31], none⟩,
   ⟨(some 2), .mv, [.t 32], none⟩] [2])
 .ret)))))

def d100 : DFun := ⟨1, 33, c100, [.t 2]⟩

theorem ok100 : Fok Try.prog 100 d100 := ⟨Try.f100, Try.func100, by kernel_rfl, by kernel_rfl⟩

-- slices.medianAdjacentCmpFunc[[3]int]
def c101 : DC :=
 (.seq (.reg [⟨(some 8), .mv, [.c (.i .i64 0)], none⟩] [0, 1, 2, 3])
 (.seq (.reg [⟨(some 9), .mv, [.t 0], none⟩,
   ⟨(some 10), .mv, [.t 1], none⟩,
   ⟨(some 11), (.binI .sub), [.t 10, .c (.i .i64 1)], none⟩,
   ⟨(some 12), .mv, [.t 1], none⟩,
   ⟨(some 13), .mv, [.t 1], none⟩,
   ⟨(some 14), (.binI .add), [.t 13, .c (.i .i64 1)], none⟩,
   ⟨(some 15), .mv, [.t 2], none⟩,
   ⟨(some 16), .mv, [.t 3], none⟩,
   ⟨(some 17), (.call .sh), [.c (.fn 102 [] []), .t 9, .t 11, .t 12, .t 14, .t 15, .t 16], none⟩,
   ⟨(some 8), .mv, [.t 17], none⟩] [8])
 .ret))

def d101 : DFun := ⟨4, 18, c101, [.t 8]⟩

theorem ok101 : Fok Try.prog 101 d101 := ⟨Try.f101, Try.func101, by kernel_rfl, by kernel_rfl⟩

-- slices.medianCmpFunc[[3]int]
def c102 : DC :=
 (.seq (.reg [⟨(some 12), .mv, [.c (.i .i64 0)], none⟩] [0, 1, 2, 3, 4, 5])
 (.seq (.reg [⟨(some 14), .mv, [.t 0], none⟩,
   ⟨(some 15), .mv, [.t 1], none⟩,
   ⟨(some 16), .mv, [.t 2], none⟩,
   ⟨(some 17), .mv, [.t 4], none⟩,
   ⟨(some 18), .mv, [.t 5], none⟩,
   ⟨(some 19), (.call .sh), [.c (.fn 103 [] []), .t 14, .t 15, .t 16, .t 17, .t 18], none⟩,
   ⟨(some 13), .mv, [.t 19], none⟩,
   ⟨(some 20), (.ext 0), [.t 13], none⟩,
   ⟨(some 21), (.ext 1), [.t 13], none⟩,
   ⟨(some 1), .mv, [.t 20], none⟩,
   ⟨(some 2), .mv, [.t 21], none⟩] [0, 1, 2, 3, 4, 5])
 (.seq (.reg [⟨(some 23), .mv, [.t 0], none⟩,
   ⟨(some 24), .mv, [.t 2], none⟩,
   ⟨(some 25), .mv, [.t 3], none⟩,
   ⟨(some 26), .mv, [.t 4], none⟩,
   ⟨(some 27), .mv, [.t 5], none⟩,
   ⟨(some 28), (.call .sh), [.c (.fn 103 [] []), .t 23, .t 24, .t 25, .t 26, .t 27], none⟩,
   ⟨(some 22), .mv, [.t 28], none⟩,
   ⟨(some 29), (.ext 0), [.t 22], none⟩,
   ⟨(some 30), (.ext 1), [.t 22], none⟩,
   ⟨(some 2), .mv, [.t 29], none⟩,
   ⟨(some 3), .mv, [.t 30], none⟩] [0, 1, 2, 4, 5])
 (.seq (.reg [⟨(some 32), .mv, [.t 0], none⟩,
   ⟨(some 33), .mv, [.t 1], none⟩,
   ⟨(some 34), .mv, [.t 2], none⟩,
   ⟨(some 35), .mv, [.t 4], none⟩,
   ⟨(some 36), .mv, [.t 5], none⟩,
   ⟨(some 37), (.call .sh), [.c (.fn 103 [] []), .t 32, .t 33, .t 34, .t 35, .t 36], none⟩,
   ⟨(some 31), .mv, [.t 37], none⟩,
   ⟨(some 38), (.ext 0), [.t 31], none⟩,
   ⟨(some 39), (.ext 1), [.t 31], none⟩,
   ⟨(some 1), .mv, [.t 38], none⟩,
   ⟨(some 2), .mv, [.t 39], none⟩] [2])
 (.seq (.reg [⟨(some 40), .mv, [.t 2], none⟩,
   ⟨(some 12), .mv, [.t 40], none⟩] [12])
 .ret)))))

def d102 : DFun := ⟨6, 41, c102, [.t 12]⟩

theorem ok102 : Fok Try.prog 102 d102 := ⟨Try.f102, Try.func102, by kernel_rfl, by kernel_rfl⟩

-- slices.order2CmpFunc[[3]int]
def c103 : DC :=
 (.seq (.reg [⟨(some 10), .mv, [.c (.i .i64 0)], none⟩,
   ⟨(some 11), .mv, [.c (.i .i64 0)], none⟩] [0, 1, 2, 3, 4])
 (.seq (.seq (.reg [⟨(some 12), .mv, [.t 4], none⟩,
   ⟨(some 13), .mv, [.t 0], none⟩,
   ⟨(some 14), .mv, [.t 2], none⟩,
   ⟨(some 15), (.ixS 3 true), [.t 13, .t 14], none⟩,
   ⟨(some 16), (.ld 3 true), [.t 15], none⟩,
   ⟨(some 17), .mv, [.t 0], none⟩,
   ⟨(some 18), .mv, [.t 1], none⟩,
   ⟨(some 19), (.ixS 3 true), [.t 17, .t 18], none⟩,
   ⟨(some 20), (.ld 3 true), [.t 19], none⟩,
   ⟨(some 21), (.call .sh), [.t 12, .t 16, .t 20], none⟩,
   ⟨(some 22), (.binI .lss), [.t 21, .c (.i .i64 0)], none⟩] [1, 2, 3, 22])
 (.cond (.t 22)
  (.seq (.reg [⟨(some 23), .mv, [.t 3], none⟩,
    ⟨(some 24), .nilck, [.t 23], none⟩,
    ⟨(some 25), (.ld 1 false), [.t 24], none⟩,
    ⟨(some 26), (.binI .add), [.t 25, .c (.i .i64 1)], none⟩,
    ⟨(some 27), .nilck, [.t 23], none⟩,
    ⟨none, (.st 1), [.t 27, .t 26], none⟩] [1, 2])
  (.seq (.reg [⟨(some 28), .mv, [.t 2], none⟩,
    ⟨(some 29), .mv, [.t 1], none⟩,
    ⟨(some 10), .mv, [.t 28], none⟩,
    ⟨(some 11), .mv, [.t 29], none⟩] [10, 11])
  .ret))
  .skip))
 (.seq (.reg [⟨(some 30), .mv, [.t 1], none⟩,
   ⟨(some 31), .mv, [.t 2], none⟩,
   ⟨(some 10), .mv, [.t 30], none⟩,
   ⟨(some 11), .mv, [.t 31], none⟩] [10, 11])
 .ret)))

def d103 : DFun := ⟨5, 32, c103, [.t 10, .t 11]⟩

theorem ok103 : Fok Try.prog 103 d103 := ⟨Try.f103, Try.func103, by kernel_rfl, by kernel_rfl⟩

end Go.Proofs.Try.Dn

