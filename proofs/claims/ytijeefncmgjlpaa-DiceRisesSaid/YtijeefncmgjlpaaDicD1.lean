import Derived.Test.YtijeefncmgjlpaaProg
import Derived.Test.YtijeefncmgjlpaaDc
set_option linter.unusedVariables false
set_option maxRecDepth 100000
namespace Go.Proofs.Try.Dn
open Go.Dn

def b40_0 : DC := (.seq (.seq (.reg [⟨(some 18), .mv, [.t 7], none⟩, ⟨(some 19), .mv, [.t 5], none⟩, ⟨(some 20), .mv, [.t 6], none⟩, ⟨(some 21), (.ixS 1 false), [.t 19, .t 20], none⟩, ⟨(some 22), (.ld 1 false), [.t 21], none⟩, ⟨(some 23), (.len 0), [.t 22], none⟩, ⟨(some 24), (.binI .lss), [.t 18, .t 23], none⟩] [5, 6, 7, 24]) (.cond (.t 24) .skip (.exit 2))) (.seq (.block 3 (.seq (.reg [⟨(some 27), .mv, [.t 5], none⟩, ⟨(some 28), .mv, [.t 6], none⟩, ⟨(some 29), (.ixS 1 false), [.t 27, .t 28], none⟩, ⟨(some 30), (.ld 1 false), [.t 29], none⟩, ⟨(some 8), .mv, [.t 30], none⟩] [5, 6, 7, 8]) (.reg [⟨(some 31), .mv, [.t 8], none⟩, ⟨(some 32), .mv, [.t 7], none⟩, ⟨(some 33), .mv, [.t 8], none⟩, ⟨(some 34), .mv, [.t 7], none⟩, ⟨(some 35), (.ixS 1 false), [.t 33, .t 34], none⟩, ⟨(some 36), (.ld 1 false), [.t 35], none⟩, ⟨(some 37), (.binI .mul), [.c (.i .i64 5), .t 36], none⟩, ⟨(some 38), .mv, [.t 6], none⟩, ⟨(some 39), (.binI .add), [.t 37, .t 38], none⟩, ⟨(some 40), (.ixS 1 false), [.t 31, .t 32], none⟩, ⟨none, (.st 1), [.t 40, .t 39], none⟩] [5, 6, 7]))) (.reg [⟨(some 25), .mv, [.t 7], none⟩, ⟨(some 26), (.binI .add), [.t 25, .c (.i .i64 1)], none⟩, ⟨(some 7), .mv, [.t 26], none⟩] [5, 6, 7])))

def l40_1 : DC := (.loop [5, 6, 7] b40_0)

def b40_2 : DC := (.seq (.seq (.reg [⟨(some 12), .mv, [.t 6], none⟩, ⟨(some 13), .mv, [.t 5], none⟩, ⟨(some 14), (.len 0), [.t 13], none⟩, ⟨(some 15), (.binI .lss), [.t 12, .t 14], none⟩] [5, 6, 15]) (.cond (.t 15) .skip (.exit 0))) (.seq (.block 1 (.seq (.reg [⟨(some 7), .mv, [.c (.i .i64 0)], none⟩] [5, 6, 7]) (.block 2 l40_1))) (.reg [⟨(some 16), .mv, [.t 6], none⟩, ⟨(some 17), (.binI .add), [.t 16, .c (.i .i64 1)], none⟩, ⟨(some 6), .mv, [.t 17], none⟩] [5, 6])))

def l40_3 : DC := (.loop [5, 6] b40_2)

def c40 : DC := (.seq (.reg [⟨(some 4), .mv, [.c .nilsl], none⟩] [0, 1]) (.seq (.reg [⟨(some 9), .mv, [.t 0], none⟩, ⟨(some 10), .mv, [.t 1], none⟩, ⟨(some 11), (.call .sh), [.c (.fn 28 [] []), .t 9, .t 10, .c (.i .i64 11)], none⟩, ⟨(some 5), .mv, [.t 11], none⟩] [5]) (.seq (.seq (.reg [⟨(some 6), .mv, [.c (.i .i64 0)], none⟩] [5, 6]) (.block 0 l40_3)) (.seq (.reg [⟨(some 41), .mv, [.t 5], none⟩, ⟨(some 4), .mv, [.t 41], none⟩] [4]) .ret))))

def d40 : DFun := ⟨2, 42, c40, [.t 4]⟩

theorem ok40 : Fok Try.prog 40 d40 := ⟨Try.f40, Try.func40, by kernel_rfl, by kernel_rfl⟩

def b41_0 : DC := (.seq (.reg [⟨(some 45), (.binI .lss), [.t 44, .t 43], none⟩] [1, 5, 6, 7, 35, 36, 37, 42, 43, 44, 45]) (.seq (.cond (.t 45) .skip (.exit 2)) (.seq (.block 3 (.seq (.reg [⟨(some 46), (.ixS 1 false), [.t 42, .t 44], none⟩, ⟨(some 47), (.ld 1 false), [.t 46], none⟩, ⟨(some 10), .mv, [.t 47], none⟩] [1, 5, 6, 7, 10, 35, 36, 37, 42, 43, 44]) (.seq (.seq (.reg [⟨(some 49), .mv, [.t 5], none⟩, ⟨(some 50), .mv, [.t 10], none⟩, ⟨(some 51), (.lkS (.i .i64 0) true), [.t 49, .t 50], none⟩, ⟨(some 48), .mv, [.t 51], none⟩, ⟨(some 52), (.ext 0), [.t 48], none⟩, ⟨(some 53), (.ext 1), [.t 48], none⟩, ⟨(some 11), .mv, [.t 52], none⟩, ⟨(some 12), .mv, [.t 53], none⟩] [1, 5, 6, 7, 10, 11, 12, 35, 36, 37, 42, 43, 44]) (.seq (.reg [⟨(some 54), .mv, [.t 12], none⟩, ⟨(some 55), .mv, [.t 54], none⟩, ⟨(some 56), .mv, [.t 11], (some (55, true))⟩, ⟨(some 57), .mv, [.t 7], (some (55, true))⟩, ⟨(some 58), (.binI .neq), [.t 56, .t 57], (some (55, true))⟩, ⟨(some 59), .pick, [.t 55, .t 58, .c (.b false)], none⟩] [1, 5, 6, 7, 10, 35, 36, 37, 42, 43, 44, 59]) (.cond (.t 59) (.seq (.reg [⟨(some 6), .mv, [.c (.b true)], none⟩] [1, 6]) (.exit 0)) .skip))) (.reg [⟨(some 60), .mv, [.t 5], none⟩, ⟨(some 61), .mv, [.t 10], none⟩, ⟨(some 62), .mv, [.t 7], none⟩, ⟨none, .setS, [.t 60, .t 61, .t 62], none⟩] [1, 5, 6, 7, 35, 36, 37, 42, 43, 44])))) (.reg [⟨(some 63), (.binI .add), [.t 44, .c (.i .i64 1)], none⟩, ⟨(some 44), .mv, [.t 63], none⟩] [1, 5, 6, 7, 35, 36, 37, 42, 43, 44]))))

def l41_1 : DC := (.loop [1, 5, 6, 7, 35, 36, 37, 42, 43, 44] b41_0)

def b41_2 : DC := (.seq (.reg [⟨(some 38), (.binI .lss), [.t 37, .t 36], none⟩] [1, 5, 6, 35, 36, 37, 38]) (.seq (.cond (.t 38) .skip (.exit 0)) (.seq (.block 1 (.seq (.reg [⟨(some 39), .mv, [.t 37], none⟩, ⟨(some 40), (.ixS 1 false), [.t 35, .t 37], none⟩, ⟨(some 41), (.ld 1 false), [.t 40], none⟩, ⟨(some 7), .mv, [.t 39], none⟩, ⟨(some 8), .mv, [.t 41], none⟩] [1, 5, 6, 7, 8, 35, 36, 37]) (.seq (.reg [⟨(some 42), .mv, [.t 8], none⟩, ⟨(some 43), (.len 0), [.t 42], none⟩, ⟨(some 44), .mv, [.c (.i .i64 0)], none⟩] [1, 5, 6, 7, 35, 36, 37, 42, 43, 44]) (.block 2 l41_1)))) (.reg [⟨(some 64), (.binI .add), [.t 37, .c (.i .i64 1)], none⟩, ⟨(some 37), .mv, [.t 64], none⟩] [1, 5, 6, 35, 36, 37]))))

def l41_3 : DC := (.loop [1, 5, 6, 35, 36, 37] b41_2)

def b41_4 : DC := (.seq (.reg [⟨(some 95), .mv, [.t 21], none⟩, ⟨(some 96), .mv, [.t 20], none⟩, ⟨(some 97), (.binI .lss), [.t 95, .t 96], none⟩] [1, 13, 15, 18, 20, 22, 72, 73, 74, 82, 83, 84, 89, 97]) (.cond (.t 97) (.reg [⟨(some 98), .mv, [.t 18], none⟩, ⟨(some 99), .mv, [.t 20], none⟩, ⟨(some 100), (.lkS (.i .i64 0) false), [.t 98, .t 99], none⟩, ⟨(some 101), .mv, [.t 22], none⟩, ⟨(some 102), (.binI .add), [.t 100, .t 101], none⟩, ⟨none, .setS, [.t 98, .t 99, .t 102], none⟩] [1, 13, 15, 18, 20, 72, 73, 74, 82, 83, 84, 89]) .skip))

def z41_5 : DC := .skip

def l41_6 : DC := (.mrange 89 90 91 10 11 92 [⟨(some 92), .mv, [.t 92], none⟩, ⟨(some 93), (.ext 0), [.t 92], none⟩, ⟨(some 94), (.ext 1), [.t 92], none⟩, ⟨(some 21), .mv, [.t 93], none⟩, ⟨(some 22), .mv, [.t 94], none⟩] [1, 13, 15, 18, 20, 21, 22, 72, 73, 74, 82, 83, 84, 89] b41_4 [1, 13, 15, 18, 20, 72, 73, 74, 82, 83, 84, 89] z41_5)

def b41_7 : DC := (.seq (.reg [⟨(some 85), (.binI .lss), [.t 84, .t 83], none⟩] [1, 13, 15, 18, 72, 73, 74, 82, 83, 84, 85]) (.seq (.cond (.t 85) .skip (.exit 8)) (.seq (.block 9 (.seq (.reg [⟨(some 86), (.ixS 1 false), [.t 82, .t 84], none⟩, ⟨(some 87), (.ld 1 false), [.t 86], none⟩, ⟨(some 20), .mv, [.t 87], none⟩] [1, 13, 15, 18, 20, 72, 73, 74, 82, 83, 84]) (.seq (.reg [⟨(some 88), .mv, [.t 15], none⟩, ⟨(some 89), .rngS, [.t 88], none⟩] [1, 13, 15, 18, 20, 72, 73, 74, 82, 83, 84, 89]) l41_6))) (.reg [⟨(some 103), (.binI .add), [.t 84, .c (.i .i64 1)], none⟩, ⟨(some 84), .mv, [.t 103], none⟩] [1, 13, 15, 18, 72, 73, 74, 82, 83, 84]))))

def l41_8 : DC := (.loop [1, 13, 15, 18, 72, 73, 74, 82, 83, 84] b41_7)

def b41_9 : DC := (.seq (.reg [⟨(some 75), (.binI .lss), [.t 74, .t 73], none⟩] [1, 13, 15, 72, 73, 74, 75]) (.seq (.cond (.t 75) .skip (.exit 6)) (.seq (.block 7 (.seq (.reg [⟨(some 76), (.ixS 1 false), [.t 72, .t 74], none⟩, ⟨(some 77), (.ld 1 false), [.t 76], none⟩, ⟨(some 17), .mv, [.t 77], none⟩] [1, 13, 15, 17, 72, 73, 74]) (.seq (.reg [⟨(some 78), .mkS, [], none⟩, ⟨(some 18), .mv, [.t 78], none⟩] [1, 13, 15, 17, 18, 72, 73, 74]) (.seq (.seq (.reg [⟨(some 79), (.ld 1 false), [.t 1], none⟩, ⟨(some 80), .mv, [.t 17], none⟩, ⟨(some 81), (.ixS 1 false), [.t 79, .t 80], none⟩, ⟨(some 82), (.ld 1 false), [.t 81], none⟩, ⟨(some 83), (.len 0), [.t 82], none⟩, ⟨(some 84), .mv, [.c (.i .i64 0)], none⟩] [1, 13, 15, 18, 72, 73, 74, 82, 83, 84]) (.block 8 l41_8)) (.reg [⟨(some 104), .mv, [.t 18], none⟩, ⟨(some 15), .mv, [.t 104], none⟩] [1, 13, 15, 72, 73, 74]))))) (.reg [⟨(some 105), (.binI .add), [.t 74, .c (.i .i64 1)], none⟩, ⟨(some 74), .mv, [.t 105], none⟩] [1, 13, 15, 72, 73, 74]))))

def l41_10 : DC := (.loop [1, 13, 15, 72, 73, 74] b41_9)

def b41_11 : DC := (.reg [⟨(some 112), .mv, [.t 23], none⟩, ⟨(some 113), .mv, [.t 25], none⟩, ⟨(some 114), (.binI .add), [.t 112, .t 113], none⟩, ⟨(some 23), .mv, [.t 114], none⟩] [13, 23, 107])

def z41_12 : DC := (.reg [⟨(some 115), (.ld 1 false), [.t 13], none⟩, ⟨(some 116), .mv, [.t 23], none⟩, ⟨(some 117), (.bsl false [(.i .i64 0)] false 1 [0]), [.t 116], none⟩, ⟨(some 118), (.app 1 false 8), [.t 115, .t 117], none⟩, ⟨none, (.st 1), [.t 13, .t 118], none⟩] [])

def l41_13 : DC := (.mrange 107 108 109 12 13 110 [⟨(some 110), .mv, [.t 110], none⟩, ⟨(some 111), (.ext 1), [.t 110], none⟩, ⟨(some 25), .mv, [.t 111], none⟩] [13, 23, 25, 107] b41_11 [13, 23, 107] z41_12)

def a41_14 : DC := (.reg [⟨(some 14), .mv, [.t 69], none⟩] [1, 13, 14])

def b41_15 : DC := (.block 5 (.seq (.reg [⟨(some 70), .mkS, [], none⟩, ⟨none, .setS, [.t 70, .c (.i .i64 (-1)), .c (.i .i64 1)], none⟩, ⟨(some 71), .mv, [.t 70], none⟩, ⟨(some 15), .mv, [.t 71], none⟩] [1, 13, 14, 15]) (.seq (.seq (.reg [⟨(some 72), .mv, [.t 14], none⟩, ⟨(some 73), (.len 0), [.t 72], none⟩, ⟨(some 74), .mv, [.c (.i .i64 0)], none⟩] [1, 13, 15, 72, 73, 74]) (.block 6 l41_10)) (.seq (.reg [⟨(some 23), .mv, [.c (.i .i64 0)], none⟩] [13, 15, 23]) (.seqr (.reg [⟨(some 106), .mv, [.t 15], none⟩, ⟨(some 107), .rngS, [.t 106], none⟩] [13, 23, 107]) l41_13)))))

def c41 : DC := (.seq (.reg [⟨(some 1), (.box false), [.t 0], none⟩, ⟨(some 2), .mv, [.c .nilsl], none⟩, ⟨(some 3), .mv, [.c (.i .i64 0)], none⟩] [1]) (.scope (.seq (.seq (.reg [⟨(some 26), (.ld 1 false), [.t 1], none⟩, ⟨(some 27), (.call (.pu [])), [.c (.fn 55 [] []), .t 26], none⟩, ⟨(some 4), .mv, [.t 27], none⟩] [1, 4]) (.seq (.reg [⟨(some 28), .mv, [.t 4], none⟩, ⟨(some 29), (.binI .neq), [.t 28, .c (.i .i64 0)], none⟩] [1, 4, 29]) (.cond (.t 29) (.seq (.reg [⟨(some 30), .mv, [.t 4], none⟩, ⟨(some 2), .mv, [.c .nilsl], none⟩, ⟨(some 3), .mv, [.t 30], none⟩] [2, 3]) .ret) .skip))) (.seq (.seq (.reg [⟨(some 31), (.ld 1 false), [.t 1], none⟩, ⟨(some 32), (.len 0), [.t 31], none⟩, ⟨(some 33), (.binI .gtr), [.t 32, .c (.i .i64 4)], none⟩] [1, 33]) (.cond (.t 33) (.seq (.reg [⟨(some 2), .mv, [.c .nilsl], none⟩, ⟨(some 3), .mv, [.c (.i .i64 2)], none⟩] [2, 3]) .ret) .skip)) (.seq (.reg [⟨(some 34), .mkS, [], none⟩, ⟨(some 5), .mv, [.t 34], none⟩] [1, 5]) (.seq (.reg [⟨(some 6), .mv, [.c (.b false)], none⟩] [1, 5, 6]) (.seq .skip (.seq (.seq (.reg [⟨(some 35), (.ld 1 false), [.t 1], none⟩, ⟨(some 36), (.len 0), [.t 35], none⟩, ⟨(some 37), .mv, [.c (.i .i64 0)], none⟩] [1, 5, 6, 35, 36, 37]) (.block 0 l41_3)) (.seq (.seq (.reg [⟨(some 65), .mv, [.t 6], none⟩] [1, 65]) (.cond (.t 65) (.seq (.reg [⟨(some 2), .mv, [.c .nilsl], none⟩, ⟨(some 3), .mv, [.c (.i .i64 10)], none⟩] [2, 3]) .ret) .skip)) (.seq (.reg [⟨(some 13), (.alloc [.nilsl] false), [], none⟩] [1, 13]) (.seq (.seq (.reg [⟨(some 66), (.ld 1 false), [.t 1], none⟩, ⟨(some 67), (.len 0), [.t 66], none⟩, ⟨(some 68), (.call .sh), [.c (.fn 68 [] []), .t 67], none⟩] [1, 13, 68]) (.block 4 (.rfunc (.t 68) [69] a41_14 b41_15 [1, 13]))) (.seq (.reg [⟨(some 119), (.ld 1 false), [.t 13], none⟩, ⟨(some 2), .mv, [.t 119], none⟩, ⟨(some 3), .mv, [.c (.i .i64 0)], none⟩] [2, 3]) .ret))))))))))))

def d41 : DFun := ⟨1, 120, c41, [.t 2, .t 3]⟩

theorem ok41 : Fok Try.prog 41 d41 := ⟨Try.f41, Try.func41, by kernel_rfl, by kernel_rfl⟩

def c42 : DC := (.seq (.reg [⟨(some 2), .mv, [.c (.i .i64 0)], none⟩, ⟨(some 3), .mv, [.c (.i .i64 0)], none⟩] [0]) (.seq (.seq (.reg [⟨(some 5), .mv, [.t 0], none⟩, ⟨(some 6), (.call (.pu [])), [.c (.fn 55 [] []), .t 5], none⟩, ⟨(some 4), .mv, [.t 6], none⟩] [0, 4]) (.seq (.reg [⟨(some 7), .mv, [.t 4], none⟩, ⟨(some 8), (.binI .neq), [.t 7, .c (.i .i64 0)], none⟩] [0, 4, 8]) (.cond (.t 8) (.seq (.reg [⟨(some 9), .mv, [.t 4], none⟩, ⟨(some 2), .mv, [.c (.i .i64 0)], none⟩, ⟨(some 3), .mv, [.t 9], none⟩] [2, 3]) .ret) .skip))) (.seq (.reg [⟨(some 10), .mv, [.t 0], none⟩, ⟨(some 11), (.call (.pu [])), [.c (.fn 69 [] []), .t 10], none⟩, ⟨(some 2), .mv, [.t 11], none⟩, ⟨(some 3), .mv, [.c (.i .i64 0)], none⟩] [2, 3]) .ret)))

def d42 : DFun := ⟨1, 12, c42, [.t 2, .t 3]⟩

theorem ok42 : Fok Try.prog 42 d42 := ⟨Try.f42, Try.func42, by kernel_rfl, by kernel_rfl⟩

def c47 : DC := (.seq (.reg [⟨(some 4), .mv, [.c (.i .i64 0)], none⟩, ⟨(some 5), .mv, [.c (.i .i64 0)], none⟩] [0, 1]) (.seq (.seq (.reg [⟨(some 7), .mv, [.t 0], none⟩, ⟨(some 8), (.call (.pu [])), [.c (.fn 55 [] []), .t 7], none⟩, ⟨(some 6), .mv, [.t 8], none⟩] [0, 1, 6]) (.seq (.reg [⟨(some 9), .mv, [.t 6], none⟩, ⟨(some 10), (.binI .neq), [.t 9, .c (.i .i64 0)], none⟩] [0, 1, 6, 10]) (.cond (.t 10) (.seq (.reg [⟨(some 11), .mv, [.t 6], none⟩, ⟨(some 4), .mv, [.c (.i .i64 0)], none⟩, ⟨(some 5), .mv, [.t 11], none⟩] [4, 5]) .ret) .skip))) (.seq (.reg [⟨(some 12), .mv, [.t 0], none⟩, ⟨(some 13), (.call .sh), [.c (.fn 58 [] []), .t 12], none⟩, ⟨(some 14), .mv, [.t 1], none⟩, ⟨(some 15), (.lkS (.i .i64 0) false), [.t 13, .t 14], none⟩, ⟨(some 4), .mv, [.t 15], none⟩, ⟨(some 5), .mv, [.c (.i .i64 0)], none⟩] [4, 5]) .ret)))

def d47 : DFun := ⟨2, 16, c47, [.t 4, .t 5]⟩

theorem ok47 : Fok Try.prog 47 d47 := ⟨Try.f47, Try.func47, by kernel_rfl, by kernel_rfl⟩

def c55 : DC := (.seq (.reg [⟨(some 2), .mv, [.c (.i .i64 0)], none⟩] [0]) (.seq (.seq (.reg [⟨(some 3), .mv, [.t 0], none⟩, ⟨(some 4), (.len 0), [.t 3], none⟩, ⟨(some 5), (.binI .gtr), [.t 4, .c (.i .i64 6)], none⟩, ⟨(some 6), .mv, [.t 5], none⟩, ⟨(some 7), .mv, [.t 0], (some (6, false))⟩, ⟨(some 8), (.call .sh), [.c (.fn 75 [] []), .t 7, .c (.fn 76 [] [])], (some (6, false))⟩, ⟨(some 9), .pick, [.t 6, .c (.b true), .t 8], none⟩] [0, 9]) (.cond (.t 9) (.seq (.reg [⟨(some 2), .mv, [.c (.i .i64 2)], none⟩] [2]) .ret) .skip)) (.seq (.seq (.reg [⟨(some 10), .mv, [.t 0], none⟩, ⟨(some 11), (.len 0), [.t 10], none⟩, ⟨(some 12), (.binI .eql), [.t 11, .c (.i .i64 0)], none⟩, ⟨(some 13), .mv, [.t 12], none⟩, ⟨(some 14), .mv, [.t 0], (some (13, false))⟩, ⟨(some 15), (.call .sh), [.c (.fn 77 [] []), .t 14, .c (.fn 78 [] [])], (some (13, false))⟩, ⟨(some 16), .notB, [.t 15], (some (13, false))⟩, ⟨(some 17), .pick, [.t 13, .c (.b true), .t 16], none⟩] [17]) (.cond (.t 17) (.seq (.reg [⟨(some 2), .mv, [.c (.i .i64 10)], none⟩] [2]) .ret) .skip)) (.seq (.reg [⟨(some 2), .mv, [.c (.i .i64 0)], none⟩] [2]) .ret))))

def d55 : DFun := ⟨1, 18, c55, [.t 2]⟩

theorem ok55 : Fok Try.prog 55 d55 := ⟨Try.f55, Try.func55, by kernel_rfl, by kernel_rfl⟩

def a56_0 : DC := (.seq (.reg [⟨(some 4), .mv, [.t 8], none⟩] [3, 4, 9]) (.reg [⟨(some 5), .mv, [.t 9], none⟩] [3, 4, 5]))

def b56_1 : DC := (.block 1 (.reg [⟨(some 10), (.ld 1 false), [.t 3], none⟩, ⟨(some 11), .mv, [.t 4], none⟩, ⟨(some 12), .mv, [.t 5], none⟩, ⟨(some 13), (.build [.nilsl, .nilsl] [(0, 1), (1, 1)]), [.t 11, .t 12], none⟩, ⟨(some 14), (.bsl false [.nilsl, .nilsl] true 1 [0]), [.t 13], none⟩, ⟨(some 15), (.app 2 true 48), [.t 10, .t 14], none⟩, ⟨none, (.st 1), [.t 3, .t 15], none⟩] []))

def c56 : DC := (.seq (.reg [⟨(some 2), .mv, [.c .nilsl], none⟩] [0]) (.seq (.reg [⟨(some 3), (.alloc [.nilsl] false), [], none⟩] [0, 3]) (.seq (.seq (.reg [⟨(some 7), .mv, [.t 0], none⟩] [3, 7]) (.block 0 (.rfunc (.t 7) [8, 9] a56_0 b56_1 [3]))) (.seq (.reg [⟨(some 6), (.alloc [.nilfn] false), [], none⟩, ⟨none, (.st 1), [.t 6, .c (.fn 79 [] [])], none⟩] [3, 6]) (.seq (.reg [⟨(some 16), (.ld 1 false), [.t 3], none⟩, ⟨(some 17), (.ld 1 false), [.t 6], none⟩, ⟨(some 18), (.call .so), [.c (.fn 81 [] []), .t 16, .t 17], none⟩] [3, 6]) (.seq (.reg [⟨(some 19), (.ld 1 false), [.t 3], none⟩, ⟨(some 20), (.mkfn 83 0), [.t 6], none⟩, ⟨(some 21), (.call .sh), [.c (.fn 82 [] []), .t 19, .t 20], none⟩, ⟨(some 2), .mv, [.t 21], none⟩] [2]) .ret))))))

def d56 : DFun := ⟨1, 22, c56, [.t 2]⟩

theorem ok56 : Fok Try.prog 56 d56 := ⟨Try.f56, Try.func56, by kernel_rfl, by kernel_rfl⟩

def c57 : DC := (.seq (.reg [⟨(some 5), (.box false), [.t 0], none⟩, ⟨(some 6), (.box false), [.t 1], none⟩, ⟨(some 7), (.box false), [.t 2], none⟩, ⟨(some 8), (.box false), [.t 3], none⟩, ⟨(some 9), (.box false), [.t 4], none⟩, ⟨(some 10), .mv, [.c .nilfn], none⟩] [5, 6, 7, 8, 9]) (.seq (.reg [⟨(some 11), (.mkfn 84 0), [.t 9, .t 7, .t 8, .t 5, .t 6], none⟩, ⟨(some 10), .mv, [.t 11], none⟩] [10]) .ret))

def d57 : DFun := ⟨5, 12, c57, [.t 10]⟩

theorem ok57 : Fok Try.prog 57 d57 := ⟨Try.f57, Try.func57, by kernel_rfl, by kernel_rfl⟩

def b58_0 : DC := (.seq (.reg [⟨(some 30), (.binI .lss), [.t 29, .t 28], none⟩] [5, 6, 7, 8, 13, 14, 15, 21, 27, 28, 29, 30]) (.seq (.cond (.t 30) .skip (.exit 4)) (.seq (.block 5 (.seq (.reg [⟨(some 31), (.ixS 1 false), [.t 27, .t 29], none⟩, ⟨(some 32), (.ld 1 false), [.t 31], none⟩, ⟨(some 10), .mv, [.t 32], none⟩] [5, 6, 7, 8, 10, 13, 14, 15, 21, 27, 28, 29]) (.reg [⟨(some 33), .mv, [.t 6], none⟩, ⟨(some 34), .mv, [.t 7], none⟩, ⟨(some 35), .mv, [.t 10], none⟩, ⟨(some 36), (.binI .add), [.t 34, .t 35], none⟩, ⟨(some 37), (.lkS (.i .i64 0) false), [.t 33, .t 36], none⟩, ⟨(some 38), .mv, [.t 8], none⟩, ⟨(some 39), (.binI .add), [.t 37, .t 38], none⟩, ⟨none, .setS, [.t 33, .t 36, .t 39], none⟩] [5, 6, 7, 8, 13, 14, 15, 21, 27, 28, 29]))) (.reg [⟨(some 40), (.binI .add), [.t 29, .c (.i .i64 1)], none⟩, ⟨(some 29), .mv, [.t 40], none⟩] [5, 6, 7, 8, 13, 14, 15, 21, 27, 28, 29]))))

def l58_1 : DC := (.loop [5, 6, 7, 8, 13, 14, 15, 21, 27, 28, 29] b58_0)

def b58_2 : DC := (.seq (.reg [⟨(some 27), .mv, [.t 5], none⟩, ⟨(some 28), (.len 0), [.t 27], none⟩, ⟨(some 29), .mv, [.c (.i .i64 0)], none⟩] [5, 6, 7, 8, 13, 14, 15, 21, 27, 28, 29]) (.block 4 l58_1))

def z58_3 : DC := (.reg [⟨(some 41), .mv, [.t 6], none⟩, ⟨(some 3), .mv, [.t 41], none⟩] [3, 13, 14, 15])

def l58_4 : DC := (.mrange 21 22 23 2 3 24 [⟨(some 24), .mv, [.t 24], none⟩, ⟨(some 25), (.ext 0), [.t 24], none⟩, ⟨(some 26), (.ext 1), [.t 24], none⟩, ⟨(some 7), .mv, [.t 25], none⟩, ⟨(some 8), .mv, [.t 26], none⟩] [5, 6, 7, 8, 13, 14, 15, 21] b58_2 [5, 6, 13, 14, 15, 21] z58_3)

def b58_5 : DC := (.seq (.reg [⟨(some 16), (.binI .lss), [.t 15, .t 14], none⟩] [3, 13, 14, 15, 16]) (.seq (.cond (.t 16) .skip (.exit 0)) (.seq (.block 1 (.seq (.reg [⟨(some 17), (.ixS 1 false), [.t 13, .t 15], none⟩, ⟨(some 18), (.ld 1 false), [.t 17], none⟩, ⟨(some 5), .mv, [.t 18], none⟩] [3, 5, 13, 14, 15]) (.seq (.reg [⟨(some 19), .mkS, [], none⟩, ⟨(some 6), .mv, [.t 19], none⟩] [3, 5, 6, 13, 14, 15]) (.seqr (.reg [⟨(some 20), .mv, [.t 3], none⟩, ⟨(some 21), .rngS, [.t 20], none⟩] [5, 6, 13, 14, 15, 21]) l58_4)))) (.reg [⟨(some 42), (.binI .add), [.t 15, .c (.i .i64 1)], none⟩, ⟨(some 15), .mv, [.t 42], none⟩] [3, 13, 14, 15]))))

def l58_6 : DC := (.loop [3, 13, 14, 15] b58_5)

def c58 : DC := (.seq (.reg [⟨(some 2), .mv, [.c .nilmap], none⟩] [0]) (.seq (.reg [⟨(some 11), .mkS, [], none⟩, ⟨none, .setS, [.t 11, .c (.i .i64 0), .c (.i .i64 1)], none⟩, ⟨(some 12), .mv, [.t 11], none⟩, ⟨(some 3), .mv, [.t 12], none⟩] [0, 3]) (.seq (.seq (.reg [⟨(some 13), .mv, [.t 0], none⟩, ⟨(some 14), (.len 0), [.t 13], none⟩, ⟨(some 15), .mv, [.c (.i .i64 0)], none⟩] [3, 13, 14, 15]) (.block 0 l58_6)) (.seq (.reg [⟨(some 43), .mv, [.t 3], none⟩, ⟨(some 2), .mv, [.t 43], none⟩] [2]) .ret))))

def d58 : DFun := ⟨1, 44, c58, [.t 2]⟩

theorem ok58 : Fok Try.prog 58 d58 := ⟨Try.f58, Try.func58, by kernel_rfl, by kernel_rfl⟩

def c60 : DC := (.seq (.reg [⟨(some 4), .mv, [.c (.b false)], none⟩] [0, 1]) (.seq (.reg [⟨(some 5), .mv, [.t 0], none⟩, ⟨(some 6), .mv, [.t 1], none⟩, ⟨(some 7), .mnI, [.t 5, .t 6], none⟩, ⟨(some 8), (.binI .geq), [.t 7, .c (.i .i64 1)], none⟩, ⟨(some 9), .mv, [.t 8], none⟩, ⟨(some 10), .mv, [.t 0], (some (9, true))⟩, ⟨(some 11), .mv, [.t 1], (some (9, true))⟩, ⟨(some 12), .mxI, [.t 10, .t 11], (some (9, true))⟩, ⟨(some 13), (.binI .leq), [.t 12, .c (.i .i64 8)], (some (9, true))⟩, ⟨(some 14), .pick, [.t 9, .t 13, .c (.b false)], none⟩, ⟨(some 4), .mv, [.t 14], none⟩] [4]) .ret))

def d60 : DFun := ⟨2, 15, c60, [.t 4]⟩

theorem ok60 : Fok Try.prog 60 d60 := ⟨Try.f60, Try.func60, by kernel_rfl, by kernel_rfl⟩

def b61_0 : DC := (.seq (.seq (.reg [⟨(some 12), .mv, [.t 7], none⟩, ⟨(some 13), .mv, [.t 0], none⟩, ⟨(some 14), (.binI .leq), [.t 12, .t 13], none⟩] [0, 1, 2, 6, 7, 14]) (.cond (.t 14) .skip (.exit 0))) (.seq (.block 1 (.seq (.reg [⟨(some 17), .mv, [.t 0], none⟩, ⟨(some 18), .mv, [.t 7], none⟩, ⟨(some 19), (.binI .rem), [.t 17, .t 18], none⟩, ⟨(some 20), (.binI .eql), [.t 19, .c (.i .i64 0)], none⟩] [0, 1, 2, 6, 7, 20]) (.cond (.t 20) (.reg [⟨(some 21), .mv, [.t 6], none⟩, ⟨(some 22), (.ld 1 false), [.t 2], none⟩, ⟨(some 23), .mv, [.t 1], none⟩, ⟨(some 24), .mv, [.t 0], none⟩, ⟨(some 25), .mv, [.t 7], none⟩, ⟨(some 26), (.binI .quo), [.t 24, .t 25], none⟩, ⟨(some 27), (.call .sh), [.t 22, .t 23, .t 26], none⟩, ⟨(some 28), (.binI .add), [.t 21, .t 27], none⟩, ⟨(some 6), .mv, [.t 28], none⟩] [0, 1, 2, 6, 7]) .skip))) (.reg [⟨(some 15), .mv, [.t 7], none⟩, ⟨(some 16), (.binI .add), [.t 15, .c (.i .i64 1)], none⟩, ⟨(some 7), .mv, [.t 16], none⟩] [0, 1, 2, 6, 7])))

def l61_1 : DC := (.loop [0, 1, 2, 6, 7] b61_0)

def c61 : DC := (.seq (.reg [⟨(some 5), .mv, [.c (.i .i64 0)], none⟩] [0, 1, 2]) (.seq (.seq (.reg [⟨(some 8), .mv, [.t 0], none⟩, ⟨(some 9), (.binI .eql), [.t 8, .c (.i .i64 1)], none⟩] [0, 1, 2, 9]) (.cond (.t 9) (.seq (.seq (.reg [⟨(some 10), .mv, [.t 1], none⟩, ⟨(some 11), (.binI .eql), [.t 10, .c (.i .i64 1)], none⟩] [11]) (.cond (.t 11) (.seq (.reg [⟨(some 5), .mv, [.c (.i .i64 1)], none⟩] [5]) .ret) .skip)) (.seq (.reg [⟨(some 5), .mv, [.c (.i .i64 0)], none⟩] [5]) .ret)) .skip)) (.seq (.reg [⟨(some 6), .mv, [.c (.i .i64 0)], none⟩] [0, 1, 2, 6]) (.seq (.seq (.reg [⟨(some 7), .mv, [.c (.i .i64 2)], none⟩] [0, 1, 2, 6, 7]) (.block 0 l61_1)) (.seq (.reg [⟨(some 29), .mv, [.t 6], none⟩, ⟨(some 5), .mv, [.t 29], none⟩] [5]) .ret)))))

def d61 : DFun := ⟨3, 30, c61, [.t 5]⟩

theorem ok61 : Fok Try.prog 61 d61 := ⟨Try.f61, Try.func61, by kernel_rfl, by kernel_rfl⟩

def b63_0 : DC := (.seq (.reg [⟨(some 20), (.binI .lss), [.t 19, .t 18], none⟩] [0, 3, 5, 6, 11, 12, 13, 17, 18, 19, 20]) (.seq (.cond (.t 20) .skip (.exit 2)) (.seq (.block 3 (.seq (.reg [⟨(some 21), (.ixS 1 false), [.t 17, .t 19], none⟩, ⟨(some 22), (.ld 1 false), [.t 21], none⟩, ⟨(some 8), .mv, [.t 22], none⟩] [0, 3, 5, 6, 8, 11, 12, 13, 17, 18, 19]) (.seq (.reg [⟨(some 23), .mv, [.t 5], none⟩, ⟨(some 24), .mv, [.t 8], none⟩, ⟨(some 25), (.call (.pu [])), [.c (.fn 65 [] []), .t 23, .t 24], none⟩, ⟨(some 9), (.alloc [(.i .i64 0), (.i .i64 0), (.i .i64 0)] true), [], none⟩, ⟨none, (.st 3), [.t 9, .t 25], none⟩] [0, 3, 5, 6, 9, 11, 12, 13, 17, 18, 19]) (.seq (.reg [⟨(some 26), (.fadr 1 1 false), [.t 9], none⟩, ⟨(some 27), (.ld 1 false), [.t 26], none⟩, ⟨(some 28), (.fadr 0 1 false), [.t 9], none⟩, ⟨(some 29), (.ld 1 false), [.t 28], none⟩, ⟨(some 30), (.fadr 2 1 false), [.t 9], none⟩, ⟨(some 31), (.ld 1 false), [.t 30], none⟩, ⟨(some 32), (.build [(.i .i64 0), (.i .i64 0), (.i .i64 0)] [(0, 1), (1, 1), (2, 1)]), [.t 27, .t 29, .t 31], none⟩, ⟨(some 10), (.alloc [(.i .i64 0), (.i .i64 0), (.i .i64 0)] true), [], none⟩, ⟨none, (.st 3), [.t 10, .t 32], none⟩] [0, 3, 5, 6, 9, 10, 11, 12, 13, 17, 18, 19]) (.reg [⟨(some 33), .mv, [.t 6], none⟩, ⟨(some 34), (.ld 3 true), [.t 9], none⟩, ⟨(some 35), (.ld 3 true), [.t 10], none⟩, ⟨(some 36), (.eqA true [true, true, true]), [.t 34, .t 35], none⟩, ⟨(some 37), .mv, [.t 36], none⟩, ⟨(some 38), (.fadr 0 1 false), [.t 9], (some (37, true))⟩, ⟨(some 39), (.ld 1 false), [.t 38], (some (37, true))⟩, ⟨(some 40), (.fadr 1 1 false), [.t 9], (some (37, true))⟩, ⟨(some 41), (.ld 1 false), [.t 40], (some (37, true))⟩, ⟨(some 42), (.binI .gtr), [.t 39, .t 41], (some (37, true))⟩, ⟨(some 43), .pick, [.t 37, .t 42, .c (.b false)], none⟩, ⟨(some 44), (.bsl false [(.b false)] false 1 [0]), [.t 43], none⟩, ⟨(some 45), (.app 1 false 1), [.t 33, .t 44], none⟩, ⟨(some 6), .mv, [.t 45], none⟩] [0, 3, 5, 6, 11, 12, 13, 17, 18, 19]))))) (.reg [⟨(some 46), (.binI .add), [.t 19, .c (.i .i64 1)], none⟩, ⟨(some 19), .mv, [.t 46], none⟩] [0, 3, 5, 6, 11, 12, 13, 17, 18, 19]))))

def l63_1 : DC := (.loop [0, 3, 5, 6, 11, 12, 13, 17, 18, 19] b63_0)

def b63_2 : DC := (.seq (.reg [⟨(some 14), (.binI .lss), [.t 13, .t 12], none⟩] [0, 3, 11, 12, 13, 14]) (.seq (.cond (.t 14) .skip (.exit 0)) (.seq (.block 1 (.seq (.reg [⟨(some 15), (.ixS 1 false), [.t 11, .t 13], none⟩, ⟨(some 16), (.ld 1 false), [.t 15], none⟩, ⟨(some 5), .mv, [.t 16], none⟩] [0, 3, 5, 11, 12, 13]) (.seq (.reg [⟨(some 6), .mv, [.c .nilsl], none⟩] [0, 3, 5, 6, 11, 12, 13]) (.seq (.seq (.reg [⟨(some 17), .mv, [.t 0], none⟩, ⟨(some 18), (.len 0), [.t 17], none⟩, ⟨(some 19), .mv, [.c (.i .i64 0)], none⟩] [0, 3, 5, 6, 11, 12, 13, 17, 18, 19]) (.block 2 l63_1)) (.reg [⟨(some 47), .mv, [.t 3], none⟩, ⟨(some 48), .mv, [.t 6], none⟩, ⟨(some 49), (.bsl false [.nilsl] false 1 [0]), [.t 48], none⟩, ⟨(some 50), (.app 1 false 24), [.t 47, .t 49], none⟩, ⟨(some 3), .mv, [.t 50], none⟩] [0, 3, 11, 12, 13]))))) (.reg [⟨(some 51), (.binI .add), [.t 13, .c (.i .i64 1)], none⟩, ⟨(some 13), .mv, [.t 51], none⟩] [0, 3, 11, 12, 13]))))

def l63_3 : DC := (.loop [0, 3, 11, 12, 13] b63_2)

def c63 : DC := (.seq (.reg [⟨(some 2), .mv, [.c .nilsl], none⟩] [0]) (.seq (.reg [⟨(some 3), .mv, [.c .nilsl], none⟩] [0, 3]) (.seq (.seq (.reg [⟨(some 11), .mv, [.t 0], none⟩, ⟨(some 12), (.len 0), [.t 11], none⟩, ⟨(some 13), .mv, [.c (.i .i64 0)], none⟩] [0, 3, 11, 12, 13]) (.block 0 l63_3)) (.seq (.reg [⟨(some 52), .mv, [.t 3], none⟩, ⟨(some 2), .mv, [.t 52], none⟩] [2]) .ret))))

def d63 : DFun := ⟨1, 53, c63, [.t 2]⟩

theorem ok63 : Fok Try.prog 63 d63 := ⟨Try.f63, Try.func63, by kernel_rfl, by kernel_rfl⟩

def b65_0 : DC := (.seq (.reg [⟨(some 19), (.binI .lss), [.t 18, .t 17], none⟩] [1, 4, 5, 7, 10, 11, 12, 16, 17, 18, 19]) (.seq (.cond (.t 19) .skip (.exit 2)) (.seq (.block 3 (.seq (.reg [⟨(some 20), (.ixS 1 false), [.t 16, .t 18], none⟩, ⟨(some 21), (.ld 1 false), [.t 20], none⟩, ⟨(some 9), .mv, [.t 21], none⟩] [1, 4, 5, 7, 9, 10, 11, 12, 16, 17, 18]) (.block 4 (.seq (.reg [⟨(some 27), .mv, [.t 7], none⟩, ⟨(some 28), .mv, [.t 9], none⟩, ⟨(some 29), (.binI .gtr), [.t 27, .t 28], none⟩, ⟨(some 26), .mv, [.t 29], none⟩] [1, 4, 5, 7, 9, 10, 11, 12, 16, 17, 18, 26]) (.cond (.t 26) (.reg [⟨(some 30), (.fadr 0 1 false), [.t 5], none⟩, ⟨(some 31), (.ld 1 false), [.t 30], none⟩, ⟨(some 32), (.binI .add), [.t 31, .c (.i .i64 1)], none⟩, ⟨(some 33), (.fadr 0 1 false), [.t 5], none⟩, ⟨none, (.st 1), [.t 33, .t 32], none⟩] [1, 4, 5, 7, 10, 11, 12, 16, 17, 18]) (.seq (.reg [⟨(some 35), .mv, [.t 7], none⟩, ⟨(some 36), .mv, [.t 9], none⟩, ⟨(some 37), (.binI .lss), [.t 35, .t 36], none⟩, ⟨(some 34), .mv, [.t 37], none⟩] [1, 4, 5, 7, 10, 11, 12, 16, 17, 18, 34]) (.cond (.t 34) (.reg [⟨(some 38), (.fadr 1 1 false), [.t 5], none⟩, ⟨(some 39), (.ld 1 false), [.t 38], none⟩, ⟨(some 40), (.binI .add), [.t 39, .c (.i .i64 1)], none⟩, ⟨(some 41), (.fadr 1 1 false), [.t 5], none⟩, ⟨none, (.st 1), [.t 41, .t 40], none⟩] [1, 4, 5, 7, 10, 11, 12, 16, 17, 18]) (.reg [⟨(some 22), (.fadr 2 1 false), [.t 5], none⟩, ⟨(some 23), (.ld 1 false), [.t 22], none⟩, ⟨(some 24), (.binI .add), [.t 23, .c (.i .i64 1)], none⟩, ⟨(some 25), (.fadr 2 1 false), [.t 5], none⟩, ⟨none, (.st 1), [.t 25, .t 24], none⟩] [1, 4, 5, 7, 10, 11, 12, 16, 17, 18])))))))) (.reg [⟨(some 42), (.binI .add), [.t 18, .c (.i .i64 1)], none⟩, ⟨(some 18), .mv, [.t 42], none⟩] [1, 4, 5, 7, 10, 11, 12, 16, 17, 18]))))

def l65_1 : DC := (.loop [1, 4, 5, 7, 10, 11, 12, 16, 17, 18] b65_0)

def b65_2 : DC := (.seq (.reg [⟨(some 13), (.binI .lss), [.t 12, .t 11], none⟩] [1, 4, 5, 10, 11, 12, 13]) (.seq (.cond (.t 13) .skip (.exit 0)) (.seq (.block 1 (.seq (.reg [⟨(some 14), (.ixS 1 false), [.t 10, .t 12], none⟩, ⟨(some 15), (.ld 1 false), [.t 14], none⟩, ⟨(some 7), .mv, [.t 15], none⟩] [1, 4, 5, 7, 10, 11, 12]) (.seq (.reg [⟨(some 16), .mv, [.t 1], none⟩, ⟨(some 17), (.len 0), [.t 16], none⟩, ⟨(some 18), .mv, [.c (.i .i64 0)], none⟩] [1, 4, 5, 7, 10, 11, 12, 16, 17, 18]) (.block 2 l65_1)))) (.reg [⟨(some 43), (.binI .add), [.t 12, .c (.i .i64 1)], none⟩, ⟨(some 12), .mv, [.t 43], none⟩] [1, 4, 5, 10, 11, 12]))))

def l65_3 : DC := (.loop [1, 4, 5, 10, 11, 12] b65_2)

def c65 : DC := (.seq (.reg [⟨(some 4), (.alloc [(.i .i64 0), (.i .i64 0), (.i .i64 0)] true), [], none⟩] [0, 1, 4]) (.seq (.reg [⟨(some 5), (.alloc [(.i .i64 0), (.i .i64 0), (.i .i64 0)] true), [], none⟩] [0, 1, 4, 5]) (.seq (.seq (.reg [⟨(some 10), .mv, [.t 0], none⟩, ⟨(some 11), (.len 0), [.t 10], none⟩, ⟨(some 12), .mv, [.c (.i .i64 0)], none⟩] [1, 4, 5, 10, 11, 12]) (.block 0 l65_3)) (.seq (.reg [⟨(some 44), (.ld 3 true), [.t 5], none⟩, ⟨none, (.st 3), [.t 4, .t 44], none⟩] [4]) .ret))))

def d65 : DFun := ⟨2, 45, c65, [.c 4 3 true]⟩

theorem ok65 : Fok Try.prog 65 d65 := ⟨Try.f65, Try.func65, by kernel_rfl, by kernel_rfl⟩

def b66_0 : DC := (.seq (.reg [⟨(some 15), (.binI .lss), [.t 14, .t 13], none⟩] [2, 3, 6, 13, 14, 15]) (.seq (.cond (.t 15) .skip (.exit 0)) (.seq (.block 1 (.seq (.reg [⟨(some 16), .mv, [.t 14], none⟩, ⟨(some 7), .mv, [.t 16], none⟩] [2, 3, 6, 7, 13, 14]) (.seq (.reg [⟨(some 17), (.ld 1 false), [.t 6], none⟩, ⟨(some 18), .mv, [.t 7], none⟩, ⟨(some 19), (.call .sh), [.t 17, .t 18], none⟩, ⟨(some 20), .notB, [.t 19], none⟩] [2, 3, 6, 13, 14, 20]) (.cond (.t 20) (.seq (.reg [⟨(some 21), (.ld 1 false), [.t 2], none⟩, ⟨none, (.st 1), [.t 2, .t 21], none⟩, ⟨none, (.st 1), [.t 3, .c .nilsl], none⟩] [2, 3]) .ret) .skip)))) (.reg [⟨(some 22), (.binI .add), [.t 14, .c (.i .i64 1)], none⟩, ⟨(some 14), .mv, [.t 22], none⟩] [2, 3, 6, 13, 14]))))

def l66_1 : DC := (.loop [2, 3, 6, 13, 14] b66_0)

def c66 : DC := (.seq (.reg [⟨(some 1), (.box false), [.t 0], none⟩, ⟨(some 2), (.alloc [.nilsl] false), [], none⟩, ⟨(some 3), (.alloc [.nilsl] false), [], none⟩] [1, 2, 3]) (.seq (.reg [⟨(some 8), (.ld 1 false), [.t 1], none⟩, ⟨(some 9), (.len 0), [.t 8], none⟩, ⟨(some 10), (.mksl [(.i .i64 0)] false 8), [.t 9, .t 9], none⟩, ⟨(some 4), (.alloc [.nilsl] false), [], none⟩, ⟨none, (.st 1), [.t 4, .t 10], none⟩] [1, 2, 3, 4]) (.seq (.reg [⟨(some 5), (.alloc [.nilsl] false), [], none⟩] [1, 2, 3, 4, 5]) (.seq (.reg [⟨(some 6), (.alloc [.nilfn] false), [], none⟩] [1, 2, 3, 4, 5, 6]) (.seq (.reg [⟨(some 11), (.mkfn 90 0), [.t 4, .t 5, .t 2, .t 1, .t 6, .t 3], none⟩, ⟨none, (.st 1), [.t 6, .t 11], none⟩] [1, 2, 3, 6]) (.seq (.seq (.reg [⟨(some 12), (.ld 1 false), [.t 1], none⟩, ⟨(some 13), (.len 0), [.t 12], none⟩, ⟨(some 14), .mv, [.c (.i .i64 0)], none⟩] [2, 3, 6, 13, 14]) (.block 0 l66_1)) (.seq (.reg [⟨(some 23), (.ld 1 false), [.t 3], none⟩, ⟨(some 24), (.call .sh), [.c (.fn 92 [] []), .t 23], none⟩] [2, 3]) (.seq (.regd [⟨(some 25), (.ld 1 false), [.t 3], none⟩, ⟨none, (.st 1), [.t 2, .c .nilsl], none⟩, ⟨none, (.st 1), [.t 3, .t 25], none⟩] [2, 3] [(1, 0)]) .ret))))))))

def d66 : DFun := ⟨1, 26, c66, [.c 2 1 false, .c 3 1 false]⟩

theorem ok66 : Fok Try.prog 66 d66 := ⟨Try.f66, Try.func66, by kernel_rfl, by kernel_rfl⟩

def c68 : DC := (.seq (.reg [⟨(some 1), (.box false), [.t 0], none⟩, ⟨(some 2), .mv, [.c .nilfn], none⟩] [1]) (.seq (.reg [⟨(some 3), (.mkfn 93 0), [.t 1], none⟩, ⟨(some 2), .mv, [.t 3], none⟩] [2]) .ret))

def d68 : DFun := ⟨1, 4, c68, [.t 2]⟩

theorem ok68 : Fok Try.prog 68 d68 := ⟨Try.f68, Try.func68, by kernel_rfl, by kernel_rfl⟩

def b69_0 : DC := (.seq (.reg [⟨(some 9), (.binI .lss), [.t 8, .t 7], none⟩] [3, 6, 7, 8, 9]) (.seq (.cond (.t 9) .skip (.exit 0)) (.seq (.block 1 (.seq (.reg [⟨(some 10), (.ixS 1 false), [.t 6, .t 8], none⟩, ⟨(some 11), (.ld 1 false), [.t 10], none⟩, ⟨(some 5), .mv, [.t 11], none⟩] [3, 5, 6, 7, 8]) (.reg [⟨(some 12), .mv, [.t 3], none⟩, ⟨(some 13), .mv, [.t 5], none⟩, ⟨(some 14), (.len 0), [.t 13], none⟩, ⟨(some 15), (.binI .mul), [.t 12, .t 14], none⟩, ⟨(some 3), .mv, [.t 15], none⟩] [3, 6, 7, 8]))) (.reg [⟨(some 16), (.binI .add), [.t 8, .c (.i .i64 1)], none⟩, ⟨(some 8), .mv, [.t 16], none⟩] [3, 6, 7, 8]))))

def l69_1 : DC := (.loop [3, 6, 7, 8] b69_0)

def c69 : DC := (.seq (.reg [⟨(some 2), .mv, [.c (.i .i64 0)], none⟩] [0]) (.seq (.reg [⟨(some 3), .mv, [.c (.i .i64 1)], none⟩] [0, 3]) (.seq (.seq (.reg [⟨(some 6), .mv, [.t 0], none⟩, ⟨(some 7), (.len 0), [.t 6], none⟩, ⟨(some 8), .mv, [.c (.i .i64 0)], none⟩] [3, 6, 7, 8]) (.block 0 l69_1)) (.seq (.reg [⟨(some 17), .mv, [.t 3], none⟩, ⟨(some 2), .mv, [.t 17], none⟩] [2]) .ret))))

def d69 : DFun := ⟨1, 18, c69, [.t 2]⟩

theorem ok69 : Fok Try.prog 69 d69 := ⟨Try.f69, Try.func69, by kernel_rfl, by kernel_rfl⟩

def c75 : DC := (.seq (.reg [⟨(some 4), .mv, [.c (.b false)], none⟩] [0, 1]) (.seq (.reg [⟨(some 5), .mv, [.t 0], none⟩, ⟨(some 6), .mv, [.t 1], none⟩, ⟨(some 7), (.call .sh), [.c (.fn 100 [] []), .t 5, .t 6], none⟩, ⟨(some 8), (.binI .geq), [.t 7, .c (.i .i64 0)], none⟩, ⟨(some 4), .mv, [.t 8], none⟩] [4]) .ret))

def d75 : DFun := ⟨2, 9, c75, [.t 4]⟩

theorem ok75 : Fok Try.prog 75 d75 := ⟨Try.f75, Try.func75, by kernel_rfl, by kernel_rfl⟩

def c76 : DC := (.seq (.reg [⟨(some 2), .mv, [.c (.b false)], none⟩] [0]) (.seq (.reg [⟨(some 3), .mv, [.t 0], none⟩, ⟨(some 4), (.len 0), [.t 3], none⟩, ⟨(some 5), (.binI .gtr), [.t 4, .c (.i .i64 8)], none⟩, ⟨(some 2), .mv, [.t 5], none⟩] [2]) .ret))

def d76 : DFun := ⟨1, 6, c76, [.t 2]⟩

theorem ok76 : Fok Try.prog 76 d76 := ⟨Try.f76, Try.func76, by kernel_rfl, by kernel_rfl⟩

def c77 : DC := (.seq (.reg [⟨(some 3), (.box false), [.t 1], none⟩, ⟨(some 4), .mv, [.c (.b false)], none⟩] [0, 3]) (.seq (.reg [⟨(some 5), .mv, [.t 0], none⟩, ⟨(some 6), (.mkfn 101 0), [.t 3], none⟩, ⟨(some 7), (.call .sh), [.c (.fn 75 [] []), .t 5, .t 6], none⟩, ⟨(some 8), .notB, [.t 7], none⟩, ⟨(some 4), .mv, [.t 8], none⟩] [4]) .ret))

def d77 : DFun := ⟨2, 9, c77, [.t 4]⟩

theorem ok77 : Fok Try.prog 77 d77 := ⟨Try.f77, Try.func77, by kernel_rfl, by kernel_rfl⟩

def c78 : DC := (.seq (.reg [⟨(some 2), .mv, [.c (.b false)], none⟩] [0]) (.seq (.reg [⟨(some 3), .mv, [.t 0], none⟩, ⟨(some 4), (.len 0), [.t 3], none⟩, ⟨(some 5), (.binI .gtr), [.t 4, .c (.i .i64 0)], none⟩, ⟨(some 6), .mv, [.t 5], none⟩, ⟨(some 7), .mv, [.t 0], (some (6, true))⟩, ⟨(some 8), (.ixS 1 false), [.t 7, .c (.i .i64 0)], (some (6, true))⟩, ⟨(some 9), (.ld 1 false), [.t 8], (some (6, true))⟩, ⟨(some 10), (.binI .geq), [.t 9, .c (.i .i64 0)], (some (6, true))⟩, ⟨(some 11), .pick, [.t 6, .t 10, .c (.b false)], none⟩, ⟨(some 12), .mv, [.t 11], none⟩, ⟨(some 13), .mv, [.t 0], (some (12, true))⟩, ⟨(some 14), .mv, [.t 0], (some (12, true))⟩, ⟨(some 15), (.len 0), [.t 14], (some (12, true))⟩, ⟨(some 16), (.binI .sub), [.t 15, .c (.i .i64 1)], (some (12, true))⟩, ⟨(some 17), (.ixS 1 false), [.t 13, .t 16], (some (12, true))⟩, ⟨(some 18), (.ld 1 false), [.t 17], (some (12, true))⟩, ⟨(some 19), (.binI .leq), [.t 18, .c (.i .i64 60)], (some (12, true))⟩, ⟨(some 20), .pick, [.t 12, .t 19, .c (.b false)], none⟩, ⟨(some 21), .mv, [.t 20], none⟩, ⟨(some 22), .mv, [.t 0], (some (21, true))⟩, ⟨(some 23), (.call (.pu [])), [.c (.fn 102 [] []), .t 22], (some (21, true))⟩, ⟨(some 24), .pick, [.t 21, .t 23, .c (.b false)], none⟩, ⟨(some 2), .mv, [.t 24], none⟩] [2]) .ret))

def d78 : DFun := ⟨1, 25, c78, [.t 2]⟩

theorem ok78 : Fok Try.prog 78 d78 := ⟨Try.f78, Try.func78, by kernel_rfl, by kernel_rfl⟩

def c79 : DC := (.seq (.reg [⟨(some 2), (.box true), [.t 0], none⟩, ⟨(some 3), (.box true), [.t 1], none⟩, ⟨(some 4), .mv, [.c (.i .i64 0)], none⟩] [2, 3]) (.seq (.seq (.reg [⟨(some 6), (.ixA 2 1 false), [.t 2, .c (.i .i64 0)], none⟩, ⟨(some 7), (.ld 1 false), [.t 6], none⟩, ⟨(some 8), (.ixA 2 1 false), [.t 3, .c (.i .i64 0)], none⟩, ⟨(some 9), (.ld 1 false), [.t 8], none⟩, ⟨(some 10), (.call (.pu [])), [.c (.fn 80 [] []), .t 7, .t 9], none⟩, ⟨(some 5), .mv, [.t 10], none⟩] [2, 3, 5]) (.seq (.reg [⟨(some 11), .mv, [.t 5], none⟩, ⟨(some 12), (.binI .neq), [.t 11, .c (.i .i64 0)], none⟩] [2, 3, 5, 12]) (.cond (.t 12) (.seq (.reg [⟨(some 13), .mv, [.t 5], none⟩, ⟨(some 4), .mv, [.t 13], none⟩] [4]) .ret) .skip))) (.seq (.reg [⟨(some 14), (.ixA 2 1 false), [.t 2, .c (.i .i64 1)], none⟩, ⟨(some 15), (.ld 1 false), [.t 14], none⟩, ⟨(some 16), (.ixA 2 1 false), [.t 3, .c (.i .i64 1)], none⟩, ⟨(some 17), (.ld 1 false), [.t 16], none⟩, ⟨(some 18), (.call (.pu [])), [.c (.fn 80 [] []), .t 15, .t 17], none⟩, ⟨(some 4), .mv, [.t 18], none⟩] [4]) .ret)))

def d79 : DFun := ⟨2, 19, c79, [.t 4]⟩

theorem ok79 : Fok Try.prog 79 d79 := ⟨Try.f79, Try.func79, by kernel_rfl, by kernel_rfl⟩

def b80_0 : DC := (.seq (.reg [⟨(some 12), (.binI .lss), [.t 11, .t 10], none⟩] [0, 1, 9, 10, 11, 12]) (.seq (.cond (.t 12) .skip (.exit 0)) (.seq (.block 1 (.seq (.reg [⟨(some 13), .mv, [.t 11], none⟩, ⟨(some 14), (.ixS 1 false), [.t 9, .t 11], none⟩, ⟨(some 15), (.ld 1 false), [.t 14], none⟩, ⟨(some 5), .mv, [.t 13], none⟩, ⟨(some 6), .mv, [.t 15], none⟩] [0, 1, 5, 6, 9, 10, 11]) (.seq (.seq (.reg [⟨(some 16), .mv, [.t 5], none⟩, ⟨(some 17), .mv, [.t 1], none⟩, ⟨(some 18), (.len 0), [.t 17], none⟩, ⟨(some 19), (.binI .geq), [.t 16, .t 18], none⟩] [0, 1, 5, 6, 9, 10, 11, 19]) (.cond (.t 19) (.seq (.reg [⟨(some 4), .mv, [.c (.i .i64 1)], none⟩] [4]) .ret) .skip)) (.seq (.reg [⟨(some 20), .mv, [.t 1], none⟩, ⟨(some 21), .mv, [.t 5], none⟩, ⟨(some 22), (.ixS 1 false), [.t 20, .t 21], none⟩, ⟨(some 23), (.ld 1 false), [.t 22], none⟩, ⟨(some 7), .mv, [.t 23], none⟩] [0, 1, 6, 7, 9, 10, 11]) (.seq (.reg [⟨(some 24), .mv, [.t 6], none⟩, ⟨(some 25), .mv, [.t 7], none⟩, ⟨(some 26), (.call (.pu [])), [.c (.fn 103 [] []), .t 24, .t 25], none⟩, ⟨(some 8), .mv, [.t 26], none⟩] [0, 1, 8, 9, 10, 11]) (.seq (.reg [⟨(some 27), .mv, [.t 8], none⟩, ⟨(some 28), (.binI .neq), [.t 27, .c (.i .i64 0)], none⟩] [0, 1, 8, 9, 10, 11, 28]) (.cond (.t 28) (.seq (.reg [⟨(some 29), .mv, [.t 8], none⟩, ⟨(some 4), .mv, [.t 29], none⟩] [4]) .ret) .skip))))))) (.reg [⟨(some 30), (.binI .add), [.t 11, .c (.i .i64 1)], none⟩, ⟨(some 11), .mv, [.t 30], none⟩] [0, 1, 9, 10, 11]))))

def l80_1 : DC := (.loop [0, 1, 9, 10, 11] b80_0)

def c80 : DC := (.seq (.reg [⟨(some 4), .mv, [.c (.i .i64 0)], none⟩] [0, 1]) (.seq (.seq (.reg [⟨(some 9), .mv, [.t 0], none⟩, ⟨(some 10), (.len 0), [.t 9], none⟩, ⟨(some 11), .mv, [.c (.i .i64 0)], none⟩] [0, 1, 9, 10, 11]) (.block 0 l80_1)) (.seq (.seq (.reg [⟨(some 31), .mv, [.t 0], none⟩, ⟨(some 32), (.len 0), [.t 31], none⟩, ⟨(some 33), .mv, [.t 1], none⟩, ⟨(some 34), (.len 0), [.t 33], none⟩, ⟨(some 35), (.binI .lss), [.t 32, .t 34], none⟩] [35]) (.cond (.t 35) (.seq (.reg [⟨(some 4), .mv, [.c (.i .i64 (-1))], none⟩] [4]) .ret) .skip)) (.seq (.reg [⟨(some 4), .mv, [.c (.i .i64 0)], none⟩] [4]) .ret))))

def d80 : DFun := ⟨2, 36, c80, [.t 4]⟩

theorem ok80 : Fok Try.prog 80 d80 := ⟨Try.f80, Try.func80, by kernel_rfl, by kernel_rfl⟩

def b82_0 : DC := (.seq (.seq (.reg [⟨(some 32), .mv, [.t 7], none⟩, ⟨(some 33), .mv, [.t 6], none⟩, ⟨(some 34), (.len 0), [.t 33], none⟩, ⟨(some 35), (.binI .lss), [.t 32, .t 34], none⟩] [0, 1, 5, 6, 7, 35]) (.cond (.t 35) .skip (.exit 2))) (.seq (.block 3 (.seq (.reg [⟨(some 38), .mv, [.t 1], none⟩, ⟨(some 39), .mv, [.t 6], none⟩, ⟨(some 40), .mv, [.t 7], none⟩, ⟨(some 41), (.ixS 2 true), [.t 39, .t 40], none⟩, ⟨(some 42), (.ld 2 true), [.t 41], none⟩, ⟨(some 43), .mv, [.t 6], none⟩, ⟨(some 44), .mv, [.t 7], none⟩, ⟨(some 45), (.binI .sub), [.t 44, .c (.i .i64 1)], none⟩, ⟨(some 46), (.ixS 2 true), [.t 43, .t 45], none⟩, ⟨(some 47), (.ld 2 true), [.t 46], none⟩, ⟨(some 48), (.call .sh), [.t 38, .t 42, .t 47], none⟩, ⟨(some 49), .notB, [.t 48], none⟩] [0, 1, 5, 6, 7, 49]) (.cond (.t 49) (.seq (.reg [⟨(some 50), .mv, [.t 0], none⟩, ⟨(some 51), .mv, [.t 5], none⟩, ⟨(some 52), .mv, [.t 6], none⟩, ⟨(some 53), .mv, [.t 7], none⟩, ⟨(some 54), (.ixS 2 true), [.t 52, .t 53], none⟩, ⟨(some 55), (.ld 2 true), [.t 54], none⟩, ⟨(some 56), (.ixS 2 true), [.t 50, .t 51], none⟩, ⟨none, (.st 2), [.t 56, .t 55], none⟩] [0, 1, 5, 6, 7]) (.reg [⟨(some 57), .mv, [.t 5], none⟩, ⟨(some 58), (.binI .add), [.t 57, .c (.i .i64 1)], none⟩, ⟨(some 5), .mv, [.t 58], none⟩] [0, 1, 5, 6, 7])) .skip))) (.reg [⟨(some 36), .mv, [.t 7], none⟩, ⟨(some 37), (.binI .add), [.t 36, .c (.i .i64 1)], none⟩, ⟨(some 7), .mv, [.t 37], none⟩] [0, 1, 5, 6, 7])))

def l82_1 : DC := (.loop [0, 1, 5, 6, 7] b82_0)

def b82_2 : DC := (.seq (.seq (.reg [⟨(some 12), .mv, [.t 5], none⟩, ⟨(some 13), .mv, [.t 0], none⟩, ⟨(some 14), (.len 0), [.t 13], none⟩, ⟨(some 15), (.binI .lss), [.t 12, .t 14], none⟩] [0, 1, 5, 15]) (.cond (.t 15) .skip (.exit 0))) (.seq (.block 1 (.seq (.reg [⟨(some 18), .mv, [.t 1], none⟩, ⟨(some 19), .mv, [.t 0], none⟩, ⟨(some 20), .mv, [.t 5], none⟩, ⟨(some 21), (.ixS 2 true), [.t 19, .t 20], none⟩, ⟨(some 22), (.ld 2 true), [.t 21], none⟩, ⟨(some 23), .mv, [.t 0], none⟩, ⟨(some 24), .mv, [.t 5], none⟩, ⟨(some 25), (.binI .sub), [.t 24, .c (.i .i64 1)], none⟩, ⟨(some 26), (.ixS 2 true), [.t 23, .t 25], none⟩, ⟨(some 27), (.ld 2 true), [.t 26], none⟩, ⟨(some 28), (.call .sh), [.t 18, .t 22, .t 27], none⟩] [0, 1, 5, 28]) (.cond (.t 28) (.seq (.reg [⟨(some 29), .mv, [.t 0], none⟩, ⟨(some 30), .mv, [.t 5], none⟩, ⟨(some 31), (.slc true false false 2 true), [.t 29, .t 30], none⟩, ⟨(some 6), .mv, [.t 31], none⟩] [0, 1, 5, 6]) (.seq (.seq (.reg [⟨(some 7), .mv, [.c (.i .i64 1)], none⟩] [0, 1, 5, 6, 7]) (.block 2 l82_1)) (.seq (.reg [⟨(some 59), .mv, [.t 0], none⟩, ⟨(some 60), .mv, [.t 5], none⟩, ⟨(some 61), (.slc true false false 2 true), [.t 59, .t 60], none⟩, ⟨none, (.clr [.nilsl, .nilsl]), [.t 61], none⟩] [0, 5]) (.seq (.reg [⟨(some 62), .mv, [.t 0], none⟩, ⟨(some 63), .mv, [.t 5], none⟩, ⟨(some 64), (.slc false true false 2 true), [.t 62, .t 63], none⟩, ⟨(some 4), .mv, [.t 64], none⟩] [4]) .ret)))) .skip))) (.reg [⟨(some 16), .mv, [.t 5], none⟩, ⟨(some 17), (.binI .add), [.t 16, .c (.i .i64 1)], none⟩, ⟨(some 5), .mv, [.t 17], none⟩] [0, 1, 5])))

def l82_3 : DC := (.loop [0, 1, 5] b82_2)

def c82 : DC := (.seq (.reg [⟨(some 4), .mv, [.c .nilsl], none⟩] [0, 1]) (.seq (.seq (.reg [⟨(some 8), .mv, [.t 0], none⟩, ⟨(some 9), (.len 0), [.t 8], none⟩, ⟨(some 10), (.binI .lss), [.t 9, .c (.i .i64 2)], none⟩] [0, 1, 10]) (.cond (.t 10) (.seq (.reg [⟨(some 11), .mv, [.t 0], none⟩, ⟨(some 4), .mv, [.t 11], none⟩] [4]) .ret) .skip)) (.seq (.seq (.reg [⟨(some 5), .mv, [.c (.i .i64 1)], none⟩] [0, 1, 5]) (.block 0 l82_3)) (.seq (.reg [⟨(some 65), .mv, [.t 0], none⟩, ⟨(some 4), .mv, [.t 65], none⟩] [4]) .ret))))

def d82 : DFun := ⟨2, 66, c82, [.t 4]⟩

theorem ok82 : Fok Try.prog 82 d82 := ⟨Try.f82, Try.func82, by kernel_rfl, by kernel_rfl⟩

def c83 : DC := (.seq (.reg [⟨(some 3), (.box true), [.t 0], none⟩, ⟨(some 4), (.box true), [.t 1], none⟩, ⟨(some 5), .mv, [.c (.b false)], none⟩] [2, 3, 4]) (.seq (.reg [⟨(some 6), (.ld 1 false), [.t 2], none⟩, ⟨(some 7), (.ld 2 true), [.t 3], none⟩, ⟨(some 8), (.ld 2 true), [.t 4], none⟩, ⟨(some 9), (.call .sh), [.t 6, .t 7, .t 8], none⟩, ⟨(some 10), (.binI .eql), [.t 9, .c (.i .i64 0)], none⟩, ⟨(some 5), .mv, [.t 10], none⟩] [5]) .ret))

def d83 : DFun := ⟨3, 11, c83, [.t 5]⟩

theorem ok83 : Fok Try.prog 83 d83 := ⟨Try.f83, Try.func83, by kernel_rfl, by kernel_rfl⟩

def b84_0 : DC := (.reg [⟨(some 23), (.ld 1 false), [.t 7], none⟩, ⟨(some 24), .mv, [.t 8], none⟩, ⟨(some 25), .mv, [.t 9], none⟩, ⟨none, .setS, [.t 23, .t 24, .t 25], none⟩] [2, 3, 4, 5, 6, 7, 17])

def z84_1 : DC := (.seq (.reg [⟨(some 26), (.mkfn 85 0), [.t 7], none⟩, ⟨(some 10), (.alloc [.nilfn] false), [], none⟩, ⟨none, (.st 1), [.t 10, .t 26], none⟩] [2, 3, 4, 5, 6, 7, 10]) (.seq (.reg [⟨(some 27), (.mkfn 86 0), [.t 7], none⟩, ⟨(some 11), (.alloc [.nilfn] false), [], none⟩, ⟨none, (.st 1), [.t 11, .t 27], none⟩] [2, 3, 4, 5, 6, 7, 10, 11]) (.seq (.regd [⟨(some 28), (.ld 1 false), [.t 2], none⟩, ⟨(some 29), (.bsl false [(.i .i64 0)] false 1 [0]), [.t 28], none⟩, ⟨(some 30), (.ld 1 false), [.t 3], none⟩, ⟨(some 31), (.bsl false [(.i .i64 0)] false 1 [0]), [.t 30], none⟩, ⟨(some 12), (.alloc [.nilsl] false), [], none⟩, ⟨(some 13), (.alloc [.nilsl] false), [], none⟩, ⟨none, (.st 1), [.t 12, .t 29], none⟩, ⟨none, (.st 1), [.t 13, .t 31], none⟩] [2, 3, 4, 5, 6, 7, 10, 11, 12, 13] [(6, 2), (6, 3)]) (.seq (.seq (.reg [⟨(some 32), (.ld 1 false), [.t 10], none⟩, ⟨(some 33), (.ld 1 false), [.t 2], none⟩, ⟨(some 34), (.ld 1 false), [.t 13], none⟩, ⟨(some 35), (.call .sh), [.t 32, .t 33, .t 34], none⟩, ⟨(some 36), .notB, [.t 35], none⟩] [2, 3, 4, 5, 6, 7, 10, 11, 12, 13, 36]) (.cond (.t 36) .ret .skip)) (.seq (.reg [⟨(some 14), (.alloc [.nilfn] false), [], none⟩] [2, 3, 4, 5, 6, 7, 10, 11, 12, 13, 14]) (.seq (.reg [⟨(some 37), (.mkfn 87 0), [.t 7, .t 12, .t 4, .t 13, .t 5, .t 6, .t 3, .t 10, .t 14, .t 11, .t 2], none⟩, ⟨none, (.st 1), [.t 14, .t 37], none⟩] [14]) (.reg [⟨(some 38), (.ld 1 false), [.t 14], none⟩, ⟨(some 39), (.call .sh), [.t 38], none⟩] [])))))))

def l84_2 : DC := (.mrange 17 18 19 0 1 20 [⟨(some 20), .mv, [.t 20], none⟩, ⟨(some 21), (.ext 0), [.t 20], none⟩, ⟨(some 22), (.ext 1), [.t 20], none⟩, ⟨(some 8), .mv, [.t 21], none⟩, ⟨(some 9), .mv, [.t 22], none⟩] [2, 3, 4, 5, 6, 7, 8, 9, 17] b84_0 [2, 3, 4, 5, 6, 7, 17] z84_1)

def c84 : DC := (.seq (.reg [⟨(some 6), (.box false), [.t 0], none⟩] [1, 2, 3, 4, 5, 6]) (.seq (.reg [⟨(some 15), .mkS, [], none⟩, ⟨(some 7), (.alloc [.nilmap] false), [], none⟩, ⟨none, (.st 1), [.t 7, .t 15], none⟩] [1, 2, 3, 4, 5, 6, 7]) (.seqr (.reg [⟨(some 16), (.ld 1 false), [.t 1], none⟩, ⟨(some 17), .rngS, [.t 16], none⟩] [2, 3, 4, 5, 6, 7, 17]) l84_2)))

def d84 : DFun := ⟨6, 40, c84, []⟩

theorem ok84 : Fok Try.prog 84 d84 := ⟨Try.f84, Try.func84, by kernel_rfl, by kernel_rfl⟩

def b85_0 : DC := (.seq (.reg [⟨(some 28), (.binI .lss), [.t 27, .t 26], none⟩] [0, 2, 25, 26, 27, 28]) (.seq (.cond (.t 28) .skip (.exit 2)) (.seq (.block 3 (.seq (.reg [⟨(some 29), (.ixS 1 false), [.t 25, .t 27], none⟩, ⟨(some 30), (.ld 1 false), [.t 29], none⟩, ⟨(some 9), .mv, [.t 30], none⟩] [0, 2, 9, 25, 26, 27]) (.reg [⟨(some 31), (.ld 1 false), [.t 2], none⟩, ⟨(some 32), .mv, [.t 0], none⟩, ⟨(some 33), .mv, [.t 9], none⟩, ⟨(some 34), (.binI .add), [.t 32, .t 33], none⟩, ⟨(some 35), (.lkS (.i .i64 0) false), [.t 31, .t 34], none⟩, ⟨(some 36), (.binI .add), [.t 35, .c (.i .i64 1)], none⟩, ⟨none, .setS, [.t 31, .t 34, .t 36], none⟩] [0, 2, 25, 26, 27]))) (.reg [⟨(some 37), (.binI .add), [.t 27, .c (.i .i64 1)], none⟩, ⟨(some 27), .mv, [.t 37], none⟩] [0, 2, 25, 26, 27]))))

def l85_1 : DC := (.loop [0, 2, 25, 26, 27] b85_0)

def b85_2 : DC := (.seq (.reg [⟨(some 13), (.binI .lss), [.t 12, .t 11], none⟩] [0, 1, 2, 10, 11, 12, 13]) (.seq (.cond (.t 13) .skip (.exit 0)) (.seq (.block 1 (.seq (.reg [⟨(some 14), .mv, [.t 12], none⟩, ⟨(some 15), (.ixS 1 false), [.t 10, .t 12], none⟩, ⟨(some 16), (.ld 1 false), [.t 15], none⟩, ⟨(some 6), .mv, [.t 14], none⟩, ⟨(some 7), .mv, [.t 16], none⟩] [0, 1, 2, 6, 7, 10, 11, 12]) (.seq (.seq (.reg [⟨(some 17), (.ld 1 false), [.t 2], none⟩, ⟨(some 18), .mv, [.t 0], none⟩, ⟨(some 19), .mv, [.t 7], none⟩, ⟨(some 20), (.binI .add), [.t 18, .t 19], none⟩, ⟨(some 21), (.lkS (.i .i64 0) false), [.t 17, .t 20], none⟩, ⟨(some 22), (.binI .eql), [.t 21, .c (.i .i64 0)], none⟩] [0, 1, 2, 6, 7, 10, 11, 12, 22]) (.cond (.t 22) (.seq (.seq (.reg [⟨(some 23), .mv, [.t 1], none⟩, ⟨(some 24), .mv, [.t 6], none⟩, ⟨(some 25), (.slc false true false 1 false), [.t 23, .t 24], none⟩, ⟨(some 26), (.len 0), [.t 25], none⟩, ⟨(some 27), .mv, [.c (.i .i64 0)], none⟩] [0, 2, 25, 26, 27]) (.block 2 l85_1)) (.seq (.reg [⟨(some 5), .mv, [.c (.b false)], none⟩] [5]) .ret)) .skip)) (.reg [⟨(some 38), (.ld 1 false), [.t 2], none⟩, ⟨(some 39), .mv, [.t 0], none⟩, ⟨(some 40), .mv, [.t 7], none⟩, ⟨(some 41), (.binI .add), [.t 39, .t 40], none⟩, ⟨(some 42), (.lkS (.i .i64 0) false), [.t 38, .t 41], none⟩, ⟨(some 43), (.binI .sub), [.t 42, .c (.i .i64 1)], none⟩, ⟨none, .setS, [.t 38, .t 41, .t 43], none⟩] [0, 1, 2, 10, 11, 12])))) (.reg [⟨(some 44), (.binI .add), [.t 12, .c (.i .i64 1)], none⟩, ⟨(some 12), .mv, [.t 44], none⟩] [0, 1, 2, 10, 11, 12]))))

def l85_3 : DC := (.loop [0, 1, 2, 10, 11, 12] b85_2)

def c85 : DC := (.seq (.reg [⟨(some 5), .mv, [.c (.b false)], none⟩] [0, 1, 2]) (.seq (.seq (.reg [⟨(some 10), .mv, [.t 1], none⟩, ⟨(some 11), (.len 0), [.t 10], none⟩, ⟨(some 12), .mv, [.c (.i .i64 0)], none⟩] [0, 1, 2, 10, 11, 12]) (.block 0 l85_3)) (.seq (.reg [⟨(some 5), .mv, [.c (.b true)], none⟩] [5]) .ret)))

def d85 : DFun := ⟨3, 45, c85, [.t 5]⟩

theorem ok85 : Fok Try.prog 85 d85 := ⟨Try.f85, Try.func85, by kernel_rfl, by kernel_rfl⟩

def b86_0 : DC := (.seq (.reg [⟨(some 10), (.binI .lss), [.t 9, .t 8], none⟩] [0, 2, 7, 8, 9, 10]) (.seq (.cond (.t 10) .skip (.exit 0)) (.seq (.block 1 (.seq (.reg [⟨(some 11), (.ixS 1 false), [.t 7, .t 9], none⟩, ⟨(some 12), (.ld 1 false), [.t 11], none⟩, ⟨(some 6), .mv, [.t 12], none⟩] [0, 2, 6, 7, 8, 9]) (.reg [⟨(some 13), (.ld 1 false), [.t 2], none⟩, ⟨(some 14), .mv, [.t 0], none⟩, ⟨(some 15), .mv, [.t 6], none⟩, ⟨(some 16), (.binI .add), [.t 14, .t 15], none⟩, ⟨(some 17), (.lkS (.i .i64 0) false), [.t 13, .t 16], none⟩, ⟨(some 18), (.binI .add), [.t 17, .c (.i .i64 1)], none⟩, ⟨none, .setS, [.t 13, .t 16, .t 18], none⟩] [0, 2, 7, 8, 9]))) (.reg [⟨(some 19), (.binI .add), [.t 9, .c (.i .i64 1)], none⟩, ⟨(some 9), .mv, [.t 19], none⟩] [0, 2, 7, 8, 9]))))

def l86_1 : DC := (.loop [0, 2, 7, 8, 9] b86_0)

def c86 : DC := (.seq (.reg [⟨(some 7), .mv, [.t 1], none⟩, ⟨(some 8), (.len 0), [.t 7], none⟩, ⟨(some 9), .mv, [.c (.i .i64 0)], none⟩] [0, 2, 7, 8, 9]) (.block 0 l86_1))

def d86 : DFun := ⟨3, 20, c86, []⟩

theorem ok86 : Fok Try.prog 86 d86 := ⟨Try.f86, Try.func86, by kernel_rfl, by kernel_rfl⟩

def b87_0 : DC := (.seq (.reg [⟨(some 27), .mv, [.t 15], none⟩, ⟨(some 28), (.binI .gtr), [.t 27, .c (.i .i64 0)], none⟩, ⟨(some 29), .mv, [.t 28], none⟩, ⟨(some 30), .mv, [.t 13], (some (29, true))⟩, ⟨(some 31), .notB, [.t 30], (some (29, true))⟩, ⟨(some 32), .mv, [.t 31], (some (29, true))⟩, ⟨(some 33), .mv, [.t 14], (some (32, false))⟩, ⟨(some 34), .mv, [.t 12], (some (32, false))⟩, ⟨(some 35), (.binI .lss), [.t 33, .t 34], (some (32, false))⟩, ⟨(some 36), .pick, [.t 32, .c (.b true), .t 35], (some (29, true))⟩, ⟨(some 37), .pick, [.t 29, .t 36, .c (.b false)], none⟩] [1, 2, 3, 4, 5, 6, 7, 8, 9, 10, 12, 13, 14, 21, 37]) (.cond (.t 37) (.reg [⟨(some 38), .mv, [.t 14], none⟩, ⟨(some 12), .mv, [.t 38], none⟩, ⟨(some 13), .mv, [.c (.b true)], none⟩] [1, 2, 3, 4, 5, 6, 7, 8, 9, 10, 12, 13, 21]) .skip))

def z87_1 : DC := (.seq (.seq (.reg [⟨(some 39), .mv, [.t 13], none⟩, ⟨(some 40), .notB, [.t 39], none⟩] [1, 2, 3, 4, 5, 6, 7, 8, 9, 10, 12, 40]) (.cond (.t 40) (.seq (.reg [⟨(some 41), (.ld 1 false), [.t 1], none⟩, ⟨(some 42), (.len 0), [.t 41], none⟩, ⟨(some 43), (.ld 1 false), [.t 2], none⟩, ⟨(some 44), (.binI .lss), [.t 42, .t 43], none⟩, ⟨(some 45), .mv, [.t 44], none⟩, ⟨(some 46), (.ld 1 false), [.t 3], (some (45, false))⟩, ⟨(some 47), (.len 0), [.t 46], (some (45, false))⟩, ⟨(some 48), (.ld 1 false), [.t 4], (some (45, false))⟩, ⟨(some 49), (.binI .lss), [.t 47, .t 48], (some (45, false))⟩, ⟨(some 50), .pick, [.t 45, .c (.b true), .t 49], none⟩, ⟨(some 51), .mv, [.t 50], none⟩, ⟨(some 52), (.ld 1 false), [.t 5], (some (51, false))⟩, ⟨(some 53), (.ld 1 false), [.t 1], (some (51, false))⟩, ⟨(some 54), (.call (.pu [])), [.c (.fn 88 [] []), .t 53], (some (51, false))⟩, ⟨(some 55), (.ld 1 false), [.t 3], (some (51, false))⟩, ⟨(some 56), (.call (.pu [])), [.c (.fn 88 [] []), .t 55], (some (51, false))⟩, ⟨(some 57), (.call .sh), [.t 52, .t 54, .t 56], (some (51, false))⟩, ⟨(some 58), .pick, [.t 51, .c (.b true), .t 57], none⟩, ⟨(some 11), .mv, [.t 58], none⟩] [11]) .ret) .skip)) (.seq (.seq (.reg [⟨(some 59), .mv, [.t 12], none⟩, ⟨(some 60), (.ld 1 false), [.t 6], none⟩, ⟨(some 61), (.binI .sub), [.t 59, .t 60], none⟩, ⟨(some 16), .mv, [.t 61], none⟩] [1, 2, 3, 4, 7, 8, 9, 10, 12, 16]) (.seq (.reg [⟨(some 62), (.ld 1 false), [.t 1], none⟩, ⟨(some 63), (.len 0), [.t 62], none⟩, ⟨(some 64), (.ld 1 false), [.t 2], none⟩, ⟨(some 65), (.binI .lss), [.t 63, .t 64], none⟩, ⟨(some 66), .mv, [.t 65], none⟩, ⟨(some 67), .mv, [.t 16], (some (66, true))⟩, ⟨(some 68), (.ld 1 false), [.t 1], (some (66, true))⟩, ⟨(some 69), (.ld 1 false), [.t 1], (some (66, true))⟩, ⟨(some 70), (.len 0), [.t 69], (some (66, true))⟩, ⟨(some 71), (.binI .sub), [.t 70, .c (.i .i64 1)], (some (66, true))⟩, ⟨(some 72), (.ixS 1 false), [.t 68, .t 71], (some (66, true))⟩, ⟨(some 73), (.ld 1 false), [.t 72], (some (66, true))⟩, ⟨(some 74), (.binI .geq), [.t 67, .t 73], (some (66, true))⟩, ⟨(some 75), .pick, [.t 66, .t 74, .c (.b false)], none⟩, ⟨(some 76), .mv, [.t 75], none⟩, ⟨(some 77), .mv, [.t 16], (some (76, true))⟩, ⟨(some 78), (.binI .leq), [.t 77, .c (.i .i64 60)], (some (76, true))⟩, ⟨(some 79), .pick, [.t 76, .t 78, .c (.b false)], none⟩, ⟨(some 80), .mv, [.t 79], none⟩, ⟨(some 81), (.ld 1 false), [.t 7], (some (80, true))⟩, ⟨(some 82), .mv, [.t 16], (some (80, true))⟩, ⟨(some 83), (.ld 1 false), [.t 3], (some (80, true))⟩, ⟨(some 84), (.call .sh), [.t 81, .t 82, .t 83], (some (80, true))⟩, ⟨(some 85), .pick, [.t 80, .t 84, .c (.b false)], none⟩] [1, 3, 4, 7, 8, 9, 10, 12, 16, 85]) (.cond (.t 85) (.seq (.reg [⟨(some 86), (.ld 1 false), [.t 1], none⟩, ⟨(some 87), .mv, [.t 16], none⟩, ⟨(some 88), (.bsl false [(.i .i64 0)] false 1 [0]), [.t 87], none⟩, ⟨(some 89), (.app 1 false 8), [.t 86, .t 88], none⟩, ⟨none, (.st 1), [.t 1, .t 89], none⟩] [1, 3, 4, 7, 8, 9, 10, 12, 16]) (.seq (.reg [⟨(some 90), (.ld 1 false), [.t 8], none⟩, ⟨(some 91), (.call .sh), [.t 90], none⟩, ⟨(some 17), .mv, [.t 91], none⟩] [1, 3, 4, 7, 8, 9, 10, 12, 16, 17]) (.seq (.reg [⟨(some 92), (.ld 1 false), [.t 1], none⟩, ⟨(some 93), (.ld 1 false), [.t 1], none⟩, ⟨(some 94), (.len 0), [.t 93], none⟩, ⟨(some 95), (.binI .sub), [.t 94, .c (.i .i64 1)], none⟩, ⟨(some 96), (.slc false true false 1 false), [.t 92, .t 95], none⟩, ⟨none, (.st 1), [.t 1, .t 96], none⟩] [1, 3, 4, 7, 8, 9, 10, 12, 16, 17]) (.seq (.reg [⟨(some 97), (.ld 1 false), [.t 9], none⟩, ⟨(some 98), .mv, [.t 16], none⟩, ⟨(some 99), (.ld 1 false), [.t 3], none⟩, ⟨(some 100), (.call .sh), [.t 97, .t 98, .t 99], none⟩] [1, 3, 4, 7, 8, 9, 10, 12, 17]) (.seq (.reg [⟨(some 101), .mv, [.t 17], none⟩, ⟨(some 102), .notB, [.t 101], none⟩] [1, 3, 4, 7, 8, 9, 10, 12, 102]) (.cond (.t 102) (.seq (.reg [⟨(some 11), .mv, [.c (.b false)], none⟩] [11]) .ret) .skip)))))) .skip))) (.seq (.seq (.reg [⟨(some 103), .mv, [.t 12], none⟩, ⟨(some 104), (.ld 1 false), [.t 10], none⟩, ⟨(some 105), (.binI .sub), [.t 103, .t 104], none⟩, ⟨(some 18), .mv, [.t 105], none⟩] [1, 3, 4, 7, 8, 9, 18]) (.seq (.reg [⟨(some 106), (.ld 1 false), [.t 3], none⟩, ⟨(some 107), (.len 0), [.t 106], none⟩, ⟨(some 108), (.ld 1 false), [.t 4], none⟩, ⟨(some 109), (.binI .lss), [.t 107, .t 108], none⟩, ⟨(some 110), .mv, [.t 109], none⟩, ⟨(some 111), .mv, [.t 18], (some (110, true))⟩, ⟨(some 112), (.ld 1 false), [.t 3], (some (110, true))⟩, ⟨(some 113), (.ld 1 false), [.t 3], (some (110, true))⟩, ⟨(some 114), (.len 0), [.t 113], (some (110, true))⟩, ⟨(some 115), (.binI .sub), [.t 114, .c (.i .i64 1)], (some (110, true))⟩, ⟨(some 116), (.ixS 1 false), [.t 112, .t 115], (some (110, true))⟩, ⟨(some 117), (.ld 1 false), [.t 116], (some (110, true))⟩, ⟨(some 118), (.binI .geq), [.t 111, .t 117], (some (110, true))⟩, ⟨(some 119), .pick, [.t 110, .t 118, .c (.b false)], none⟩, ⟨(some 120), .mv, [.t 119], none⟩, ⟨(some 121), .mv, [.t 18], (some (120, true))⟩, ⟨(some 122), (.binI .leq), [.t 121, .c (.i .i64 60)], (some (120, true))⟩, ⟨(some 123), .pick, [.t 120, .t 122, .c (.b false)], none⟩, ⟨(some 124), .mv, [.t 123], none⟩, ⟨(some 125), (.ld 1 false), [.t 7], (some (124, true))⟩, ⟨(some 126), .mv, [.t 18], (some (124, true))⟩, ⟨(some 127), (.ld 1 false), [.t 1], (some (124, true))⟩, ⟨(some 128), (.call .sh), [.t 125, .t 126, .t 127], (some (124, true))⟩, ⟨(some 129), .pick, [.t 124, .t 128, .c (.b false)], none⟩] [1, 3, 8, 9, 18, 129]) (.cond (.t 129) (.seq (.reg [⟨(some 130), (.ld 1 false), [.t 3], none⟩, ⟨(some 131), .mv, [.t 18], none⟩, ⟨(some 132), (.bsl false [(.i .i64 0)] false 1 [0]), [.t 131], none⟩, ⟨(some 133), (.app 1 false 8), [.t 130, .t 132], none⟩, ⟨none, (.st 1), [.t 3, .t 133], none⟩] [1, 3, 8, 9, 18]) (.seq (.reg [⟨(some 134), (.ld 1 false), [.t 8], none⟩, ⟨(some 135), (.call .sh), [.t 134], none⟩, ⟨(some 19), .mv, [.t 135], none⟩] [1, 3, 9, 18, 19]) (.seq (.reg [⟨(some 136), (.ld 1 false), [.t 3], none⟩, ⟨(some 137), (.ld 1 false), [.t 3], none⟩, ⟨(some 138), (.len 0), [.t 137], none⟩, ⟨(some 139), (.binI .sub), [.t 138, .c (.i .i64 1)], none⟩, ⟨(some 140), (.slc false true false 1 false), [.t 136, .t 139], none⟩, ⟨none, (.st 1), [.t 3, .t 140], none⟩] [1, 9, 18, 19]) (.seq (.reg [⟨(some 141), (.ld 1 false), [.t 9], none⟩, ⟨(some 142), .mv, [.t 18], none⟩, ⟨(some 143), (.ld 1 false), [.t 1], none⟩, ⟨(some 144), (.call .sh), [.t 141, .t 142, .t 143], none⟩] [19]) (.seq (.reg [⟨(some 145), .mv, [.t 19], none⟩, ⟨(some 146), .notB, [.t 145], none⟩] [146]) (.cond (.t 146) (.seq (.reg [⟨(some 11), .mv, [.c (.b false)], none⟩] [11]) .ret) .skip)))))) .skip))) (.seq (.reg [⟨(some 11), .mv, [.c (.b true)], none⟩] [11]) .ret))))

def l87_2 : DC := (.mrange 21 22 23 0 1 24 [⟨(some 24), .mv, [.t 24], none⟩, ⟨(some 25), (.ext 0), [.t 24], none⟩, ⟨(some 26), (.ext 1), [.t 24], none⟩, ⟨(some 14), .mv, [.t 25], none⟩, ⟨(some 15), .mv, [.t 26], none⟩] [1, 2, 3, 4, 5, 6, 7, 8, 9, 10, 12, 13, 14, 15, 21] b87_0 [1, 2, 3, 4, 5, 6, 7, 8, 9, 10, 12, 13, 21] z87_1)

def c87 : DC := (.seq (.reg [⟨(some 11), .mv, [.c (.b false)], none⟩] [0, 1, 2, 3, 4, 5, 6, 7, 8, 9, 10]) (.seq (.reg [⟨(some 12), .mv, [.c (.i .i64 0)], none⟩, ⟨(some 13), .mv, [.c (.b false)], none⟩] [0, 1, 2, 3, 4, 5, 6, 7, 8, 9, 10, 12, 13]) (.seqr (.reg [⟨(some 20), (.ld 1 false), [.t 0], none⟩, ⟨(some 21), .rngS, [.t 20], none⟩] [1, 2, 3, 4, 5, 6, 7, 8, 9, 10, 12, 13, 21]) l87_2)))

def d87 : DFun := ⟨11, 147, c87, [.t 11]⟩

theorem ok87 : Fok Try.prog 87 d87 := ⟨Try.f87, Try.func87, by kernel_rfl, by kernel_rfl⟩

def c88 : DC := (.seq (.reg [⟨(some 2), .mv, [.c .nilsl], none⟩] [0]) (.seq (.seq (.reg [⟨(some 3), .mv, [.t 0], none⟩, ⟨(some 4), (.eqN 0 false), [.t 3, .c .nilsl], none⟩] [0, 4]) (.cond (.t 4) (.seq (.reg [⟨(some 2), .mv, [.c .nilsl], none⟩] [2]) .ret) .skip)) (.seq (.reg [⟨(some 5), (.bsl false [(.i .i64 0)] false 0 []), [], none⟩, ⟨(some 6), .mv, [.t 0], none⟩, ⟨(some 7), (.app 1 false 8), [.t 5, .t 6], none⟩, ⟨(some 2), .mv, [.t 7], none⟩] [2]) .ret)))

def d88 : DFun := ⟨1, 8, c88, [.t 2]⟩

theorem ok88 : Fok Try.prog 88 d88 := ⟨Try.f88, Try.func88, by kernel_rfl, by kernel_rfl⟩

def b90_0 : DC := (.seq (.reg [⟨(some 40), (.binI .lss), [.t 39, .t 38], none⟩] [0, 1, 2, 5, 6, 37, 38, 39, 40]) (.seq (.cond (.t 40) .skip (.exit 0)) (.seq (.block 1 (.seq (.reg [⟨(some 41), .mv, [.t 39], none⟩, ⟨(some 42), (.ixS 1 false), [.t 37, .t 39], none⟩, ⟨(some 43), (.ld 1 false), [.t 42], none⟩, ⟨(some 9), .mv, [.t 41], none⟩, ⟨(some 10), .mv, [.t 43], none⟩] [0, 1, 2, 5, 6, 9, 10, 37, 38, 39]) (.seq (.reg [⟨(some 44), .mv, [.t 10], none⟩, ⟨(some 45), .mv, [.t 44], none⟩, ⟨(some 46), (.ld 1 false), [.t 5], (some (45, true))⟩, ⟨(some 47), .mv, [.t 9], (some (45, true))⟩, ⟨(some 48), (.call .sh), [.t 46, .t 47], (some (45, true))⟩, ⟨(some 49), .notB, [.t 48], (some (45, true))⟩, ⟨(some 50), .pick, [.t 45, .t 49, .c (.b false)], none⟩] [0, 1, 2, 5, 6, 37, 38, 39, 50]) (.cond (.t 50) (.seq (.reg [⟨(some 8), .mv, [.c (.b false)], none⟩] [8]) .ret) .skip)))) (.reg [⟨(some 51), (.binI .add), [.t 39, .c (.i .i64 1)], none⟩, ⟨(some 39), .mv, [.t 51], none⟩] [0, 1, 2, 5, 6, 37, 38, 39]))))

def l90_1 : DC := (.loop [0, 1, 2, 5, 6, 37, 38, 39] b90_0)

def c90 : DC := (.seq (.reg [⟨(some 8), .mv, [.c (.b false)], none⟩] [0, 1, 2, 3, 4, 5, 6]) (.seq (.seq (.reg [⟨(some 11), (.ld 1 false), [.t 1], none⟩, ⟨(some 12), .mv, [.t 0], none⟩, ⟨(some 13), (.ixS 1 false), [.t 11, .t 12], none⟩, ⟨(some 14), (.ld 1 false), [.t 13], none⟩, ⟨(some 15), (.binI .eql), [.t 14, .c (.i .i64 1)], none⟩] [0, 1, 2, 3, 4, 5, 6, 15]) (.cond (.t 15) (.seq (.reg [⟨(some 16), (.ld 1 false), [.t 2], none⟩, ⟨(some 17), (.ld 1 false), [.t 2], none⟩, ⟨(some 18), .mv, [.t 0], none⟩, ⟨(some 19), (.call (.pu [])), [.c (.fn 91 [] []), .t 17, .t 18], none⟩, ⟨(some 20), (.slc true false false 1 false), [.t 16, .t 19], none⟩, ⟨(some 21), (.call (.pu [])), [.c (.fn 88 [] []), .t 20], none⟩, ⟨none, (.st 1), [.t 3, .t 21], none⟩] []) (.seq (.reg [⟨(some 8), .mv, [.c (.b false)], none⟩] [8]) .ret)) .skip)) (.seq (.seq (.reg [⟨(some 22), (.ld 1 false), [.t 1], none⟩, ⟨(some 23), .mv, [.t 0], none⟩, ⟨(some 24), (.ixS 1 false), [.t 22, .t 23], none⟩, ⟨(some 25), (.ld 1 false), [.t 24], none⟩, ⟨(some 26), (.binI .eql), [.t 25, .c (.i .i64 2)], none⟩] [0, 1, 2, 4, 5, 6, 26]) (.cond (.t 26) (.seq (.reg [⟨(some 8), .mv, [.c (.b true)], none⟩] [8]) .ret) .skip)) (.seq (.reg [⟨(some 27), (.ld 1 false), [.t 1], none⟩, ⟨(some 28), .mv, [.t 0], none⟩, ⟨(some 29), (.ixS 1 false), [.t 27, .t 28], none⟩, ⟨none, (.st 1), [.t 29, .c (.i .i64 1)], none⟩] [0, 1, 2, 4, 5, 6]) (.seq (.reg [⟨(some 30), (.ld 1 false), [.t 2], none⟩, ⟨(some 31), .mv, [.t 0], none⟩, ⟨(some 32), (.bsl false [(.i .i64 0)] false 1 [0]), [.t 31], none⟩, ⟨(some 33), (.app 1 false 8), [.t 30, .t 32], none⟩, ⟨none, (.st 1), [.t 2, .t 33], none⟩] [0, 1, 2, 4, 5, 6]) (.seq (.seq (.reg [⟨(some 34), (.ld 1 false), [.t 4], none⟩, ⟨(some 35), .mv, [.t 0], none⟩, ⟨(some 36), (.ixS 1 false), [.t 34, .t 35], none⟩, ⟨(some 37), (.ld 1 false), [.t 36], none⟩, ⟨(some 38), (.len 0), [.t 37], none⟩, ⟨(some 39), .mv, [.c (.i .i64 0)], none⟩] [0, 1, 2, 5, 6, 37, 38, 39]) (.block 0 l90_1)) (.seq (.reg [⟨(some 52), (.ld 1 false), [.t 2], none⟩, ⟨(some 53), (.ld 1 false), [.t 2], none⟩, ⟨(some 54), (.len 0), [.t 53], none⟩, ⟨(some 55), (.binI .sub), [.t 54, .c (.i .i64 1)], none⟩, ⟨(some 56), (.slc false true false 1 false), [.t 52, .t 55], none⟩, ⟨none, (.st 1), [.t 2, .t 56], none⟩] [0, 1, 6]) (.seq (.reg [⟨(some 57), (.ld 1 false), [.t 1], none⟩, ⟨(some 58), .mv, [.t 0], none⟩, ⟨(some 59), (.ixS 1 false), [.t 57, .t 58], none⟩, ⟨none, (.st 1), [.t 59, .c (.i .i64 2)], none⟩] [0, 6]) (.seq (.reg [⟨(some 60), (.ld 1 false), [.t 6], none⟩, ⟨(some 61), .mv, [.t 0], none⟩, ⟨(some 62), (.bsl false [(.i .i64 0)] false 1 [0]), [.t 61], none⟩, ⟨(some 63), (.app 1 false 8), [.t 60, .t 62], none⟩, ⟨none, (.st 1), [.t 6, .t 63], none⟩] []) (.seq (.reg [⟨(some 8), .mv, [.c (.b true)], none⟩] [8]) .ret))))))))))

def d90 : DFun := ⟨7, 64, c90, [.t 8]⟩

theorem ok90 : Fok Try.prog 90 d90 := ⟨Try.f90, Try.func90, by kernel_rfl, by kernel_rfl⟩

def b91_0 : DC := (.seq (.reg [⟨(some 9), (.binI .lss), [.t 8, .t 7], none⟩] [0, 1, 7, 8, 9]) (.seq (.cond (.t 9) .skip (.exit 0)) (.seq (.block 1 (.seq (.reg [⟨(some 10), .mv, [.t 8], none⟩, ⟨(some 5), .mv, [.t 10], none⟩] [0, 1, 5, 7, 8]) (.seq (.reg [⟨(some 11), .mv, [.t 1], none⟩, ⟨(some 12), .mv, [.t 0], none⟩, ⟨(some 13), .mv, [.t 5], none⟩, ⟨(some 14), (.ixS 1 false), [.t 12, .t 13], none⟩, ⟨(some 15), (.ld 1 false), [.t 14], none⟩, ⟨(some 16), (.binI .eql), [.t 11, .t 15], none⟩] [0, 1, 5, 7, 8, 16]) (.cond (.t 16) (.seq (.reg [⟨(some 17), .mv, [.t 5], none⟩, ⟨(some 4), .mv, [.t 17], none⟩] [4]) .ret) .skip)))) (.reg [⟨(some 18), (.binI .add), [.t 8, .c (.i .i64 1)], none⟩, ⟨(some 8), .mv, [.t 18], none⟩] [0, 1, 7, 8]))))

def l91_1 : DC := (.loop [0, 1, 7, 8] b91_0)

def c91 : DC := (.seq (.reg [⟨(some 4), .mv, [.c (.i .i64 0)], none⟩] [0, 1]) (.seq (.seq (.reg [⟨(some 6), .mv, [.t 0], none⟩, ⟨(some 7), (.len 0), [.t 6], none⟩, ⟨(some 8), .mv, [.c (.i .i64 0)], none⟩] [0, 1, 7, 8]) (.block 0 l91_1)) (.seq (.reg [⟨(some 4), .mv, [.c (.i .i64 (-1))], none⟩] [4]) .ret)))

def d91 : DFun := ⟨2, 19, c91, [.t 4]⟩

theorem ok91 : Fok Try.prog 91 d91 := ⟨Try.f91, Try.func91, by kernel_rfl, by kernel_rfl⟩

def b92_0 : DC := (.seq (.seq (.reg [⟨(some 7), .mv, [.t 2], none⟩, ⟨(some 8), .mv, [.t 3], none⟩, ⟨(some 9), (.binI .lss), [.t 7, .t 8], none⟩] [0, 2, 3, 9]) (.cond (.t 9) .skip (.exit 0))) (.seq (.block 1 (.reg [⟨(some 14), .mv, [.t 0], none⟩, ⟨(some 15), .mv, [.t 2], none⟩, ⟨(some 16), .mv, [.t 0], none⟩, ⟨(some 17), .mv, [.t 3], none⟩, ⟨(some 18), .mv, [.t 0], none⟩, ⟨(some 19), .mv, [.t 3], none⟩, ⟨(some 20), (.ixS 1 false), [.t 18, .t 19], none⟩, ⟨(some 21), (.ld 1 false), [.t 20], none⟩, ⟨(some 22), .mv, [.t 0], none⟩, ⟨(some 23), .mv, [.t 2], none⟩, ⟨(some 24), (.ixS 1 false), [.t 22, .t 23], none⟩, ⟨(some 25), (.ld 1 false), [.t 24], none⟩, ⟨(some 26), (.ixS 1 false), [.t 14, .t 15], none⟩, ⟨none, (.st 1), [.t 26, .t 21], none⟩, ⟨(some 27), (.ixS 1 false), [.t 16, .t 17], none⟩, ⟨none, (.st 1), [.t 27, .t 25], none⟩] [0, 2, 3])) (.reg [⟨(some 10), .mv, [.t 2], none⟩, ⟨(some 11), (.binI .add), [.t 10, .c (.i .i64 1)], none⟩, ⟨(some 12), .mv, [.t 3], none⟩, ⟨(some 13), (.binI .sub), [.t 12, .c (.i .i64 1)], none⟩, ⟨(some 2), .mv, [.t 11], none⟩, ⟨(some 3), .mv, [.t 13], none⟩] [0, 2, 3])))

def l92_1 : DC := (.loop [0, 2, 3] b92_0)

def c92 : DC := (.seq (.reg [⟨(some 4), .mv, [.t 0], none⟩, ⟨(some 5), (.len 0), [.t 4], none⟩, ⟨(some 6), (.binI .sub), [.t 5, .c (.i .i64 1)], none⟩, ⟨(some 2), .mv, [.c (.i .i64 0)], none⟩, ⟨(some 3), .mv, [.t 6], none⟩] [0, 2, 3]) (.block 0 l92_1))

def d92 : DFun := ⟨1, 28, c92, []⟩

theorem ok92 : Fok Try.prog 92 d92 := ⟨Try.f92, Try.func92, by kernel_rfl, by kernel_rfl⟩

def c93 : DC := (.seq (.reg [⟨(some 2), (.box false), [.t 0], none⟩] [1, 2]) (.seq (.reg [⟨(some 3), (.alloc [.nilsl] false), [], none⟩] [1, 2, 3]) (.seq (.reg [⟨(some 4), (.alloc [.nilfn] false), [], none⟩] [1, 2, 3, 4]) (.seq (.reg [⟨(some 5), (.mkfn 94 0), [.t 3, .t 1, .t 2, .t 4], none⟩, ⟨none, (.st 1), [.t 4, .t 5], none⟩] [4]) (.reg [⟨(some 6), (.ld 1 false), [.t 4], none⟩, ⟨(some 7), (.call .sh), [.t 6], none⟩] [])))))

def d93 : DFun := ⟨2, 8, c93, []⟩

theorem ok93 : Fok Try.prog 93 d93 := ⟨Try.f93, Try.func93, by kernel_rfl, by kernel_rfl⟩

def b94_0 : DC := (.seq (.reg [⟨(some 16), (.binI .lss), [.t 15, .t 14], none⟩] [0, 3, 14, 15, 16]) (.seq (.cond (.t 16) .skip (.exit 0)) (.seq (.block 1 (.seq (.reg [⟨(some 17), .mv, [.t 15], none⟩, ⟨(some 5), .mv, [.t 17], none⟩] [0, 3, 5, 14, 15]) (.seq (.seq (.reg [⟨(some 18), (.ld 1 false), [.t 0], none⟩, ⟨(some 19), .mv, [.t 5], none⟩, ⟨(some 20), (.call (.pu [])), [.c (.fn 95 [] []), .t 18, .t 19], none⟩] [0, 3, 5, 14, 15, 20]) (.cond (.t 20) (.exit 1) .skip)) (.seq (.reg [⟨(some 21), (.ld 1 false), [.t 0], none⟩, ⟨(some 22), .mv, [.t 5], none⟩, ⟨(some 23), (.bsl false [(.i .i64 0)] false 1 [0]), [.t 22], none⟩, ⟨(some 24), (.app 1 false 8), [.t 21, .t 23], none⟩, ⟨none, (.st 1), [.t 0, .t 24], none⟩] [0, 3, 14, 15]) (.seq (.seq (.reg [⟨(some 25), (.ld 1 false), [.t 3], none⟩, ⟨(some 26), (.call .sh), [.t 25], none⟩, ⟨(some 27), .notB, [.t 26], none⟩] [0, 3, 14, 15, 27]) (.cond (.t 27) (.seq (.reg [⟨(some 4), .mv, [.c (.b false)], none⟩] [4]) .ret) .skip)) (.reg [⟨(some 28), (.ld 1 false), [.t 0], none⟩, ⟨(some 29), (.ld 1 false), [.t 0], none⟩, ⟨(some 30), (.len 0), [.t 29], none⟩, ⟨(some 31), (.binI .sub), [.t 30, .c (.i .i64 1)], none⟩, ⟨(some 32), (.slc false true false 1 false), [.t 28, .t 31], none⟩, ⟨none, (.st 1), [.t 0, .t 32], none⟩] [0, 3, 14, 15])))))) (.reg [⟨(some 33), (.binI .add), [.t 15, .c (.i .i64 1)], none⟩, ⟨(some 15), .mv, [.t 33], none⟩] [0, 3, 14, 15]))))

def l94_1 : DC := (.loop [0, 3, 14, 15] b94_0)

def c94 : DC := (.seq (.reg [⟨(some 4), .mv, [.c (.b false)], none⟩] [0, 1, 2, 3]) (.seq (.seq (.reg [⟨(some 6), (.ld 1 false), [.t 0], none⟩, ⟨(some 7), (.len 0), [.t 6], none⟩, ⟨(some 8), (.ld 1 false), [.t 1], none⟩, ⟨(some 9), (.binI .eql), [.t 7, .t 8], none⟩] [0, 1, 2, 3, 9]) (.cond (.t 9) (.seq (.reg [⟨(some 10), (.ld 1 false), [.t 2], none⟩, ⟨(some 11), (.ld 1 false), [.t 0], none⟩, ⟨(some 12), (.call (.pu [])), [.c (.fn 88 [] []), .t 11], none⟩, ⟨(some 13), (.call .sh), [.t 10, .t 12], none⟩, ⟨(some 4), .mv, [.t 13], none⟩] [4]) .ret) .skip)) (.seq (.seq (.reg [⟨(some 14), (.ld 1 false), [.t 1], none⟩, ⟨(some 15), .mv, [.c (.i .i64 0)], none⟩] [0, 3, 14, 15]) (.block 0 l94_1)) (.seq (.reg [⟨(some 4), .mv, [.c (.b true)], none⟩] [4]) .ret))))

def d94 : DFun := ⟨4, 34, c94, [.t 4]⟩

theorem ok94 : Fok Try.prog 94 d94 := ⟨Try.f94, Try.func94, by kernel_rfl, by kernel_rfl⟩

def c95 : DC := (.seq (.reg [⟨(some 4), .mv, [.c (.b false)], none⟩] [0, 1]) (.seq (.reg [⟨(some 5), .mv, [.t 0], none⟩, ⟨(some 6), .mv, [.t 1], none⟩, ⟨(some 7), (.call (.pu [])), [.c (.fn 91 [] []), .t 5, .t 6], none⟩, ⟨(some 8), (.binI .geq), [.t 7, .c (.i .i64 0)], none⟩, ⟨(some 4), .mv, [.t 8], none⟩] [4]) .ret))

def d95 : DFun := ⟨2, 9, c95, [.t 4]⟩

theorem ok95 : Fok Try.prog 95 d95 := ⟨Try.f95, Try.func95, by kernel_rfl, by kernel_rfl⟩

def b100_0 : DC := (.seq (.reg [⟨(some 9), (.binI .lss), [.t 8, .t 7], none⟩] [0, 1, 7, 8, 9]) (.seq (.cond (.t 9) .skip (.exit 0)) (.seq (.block 1 (.seq (.reg [⟨(some 10), .mv, [.t 8], none⟩, ⟨(some 5), .mv, [.t 10], none⟩] [0, 1, 5, 7, 8]) (.seq (.reg [⟨(some 11), .mv, [.t 1], none⟩, ⟨(some 12), .mv, [.t 0], none⟩, ⟨(some 13), .mv, [.t 5], none⟩, ⟨(some 14), (.ixS 1 false), [.t 12, .t 13], none⟩, ⟨(some 15), (.ld 1 false), [.t 14], none⟩, ⟨(some 16), (.call .sh), [.t 11, .t 15], none⟩] [0, 1, 5, 7, 8, 16]) (.cond (.t 16) (.seq (.reg [⟨(some 17), .mv, [.t 5], none⟩, ⟨(some 4), .mv, [.t 17], none⟩] [4]) .ret) .skip)))) (.reg [⟨(some 18), (.binI .add), [.t 8, .c (.i .i64 1)], none⟩, ⟨(some 8), .mv, [.t 18], none⟩] [0, 1, 7, 8]))))

def l100_1 : DC := (.loop [0, 1, 7, 8] b100_0)

def c100 : DC := (.seq (.reg [⟨(some 4), .mv, [.c (.i .i64 0)], none⟩] [0, 1]) (.seq (.seq (.reg [⟨(some 6), .mv, [.t 0], none⟩, ⟨(some 7), (.len 0), [.t 6], none⟩, ⟨(some 8), .mv, [.c (.i .i64 0)], none⟩] [0, 1, 7, 8]) (.block 0 l100_1)) (.seq (.reg [⟨(some 4), .mv, [.c (.i .i64 (-1))], none⟩] [4]) .ret)))

def d100 : DFun := ⟨2, 19, c100, [.t 4]⟩

theorem ok100 : Fok Try.prog 100 d100 := ⟨Try.f100, Try.func100, by kernel_rfl, by kernel_rfl⟩

def c101 : DC := (.seq (.reg [⟨(some 3), .mv, [.c (.b false)], none⟩] [0, 1]) (.seq (.reg [⟨(some 4), (.ld 1 false), [.t 1], none⟩, ⟨(some 5), .mv, [.t 0], none⟩, ⟨(some 6), (.call .sh), [.t 4, .t 5], none⟩, ⟨(some 7), .notB, [.t 6], none⟩, ⟨(some 3), .mv, [.t 7], none⟩] [3]) .ret))

def d101 : DFun := ⟨2, 8, c101, [.t 3]⟩

theorem ok101 : Fok Try.prog 101 d101 := ⟨Try.f101, Try.func101, by kernel_rfl, by kernel_rfl⟩

def b102_0 : DC := (.seq (.seq (.reg [⟨(some 7), .mv, [.t 3], none⟩, ⟨(some 8), (.binI .gtr), [.t 7, .c (.i .i64 0)], none⟩] [0, 3, 8]) (.cond (.t 8) .skip (.exit 0))) (.seq (.block 1 (.seq (.reg [⟨(some 11), .mv, [.t 0], none⟩, ⟨(some 12), .mv, [.t 3], none⟩, ⟨(some 13), (.ixS 1 false), [.t 11, .t 12], none⟩, ⟨(some 14), (.ld 1 false), [.t 13], none⟩, ⟨(some 15), .mv, [.t 0], none⟩, ⟨(some 16), .mv, [.t 3], none⟩, ⟨(some 17), (.binI .sub), [.t 16, .c (.i .i64 1)], none⟩, ⟨(some 18), (.ixS 1 false), [.t 15, .t 17], none⟩, ⟨(some 19), (.ld 1 false), [.t 18], none⟩, ⟨(some 20), (.call (.pu [])), [.c (.fn 109 [] []), .t 14, .t 19], none⟩] [0, 3, 20]) (.cond (.t 20) (.seq (.reg [⟨(some 2), .mv, [.c (.b false)], none⟩] [2]) .ret) .skip))) (.reg [⟨(some 9), .mv, [.t 3], none⟩, ⟨(some 10), (.binI .sub), [.t 9, .c (.i .i64 1)], none⟩, ⟨(some 3), .mv, [.t 10], none⟩] [0, 3])))

def l102_1 : DC := (.loop [0, 3] b102_0)

def c102 : DC := (.seq (.reg [⟨(some 2), .mv, [.c (.b false)], none⟩] [0]) (.seq (.seq (.reg [⟨(some 4), .mv, [.t 0], none⟩, ⟨(some 5), (.len 0), [.t 4], none⟩, ⟨(some 6), (.binI .sub), [.t 5, .c (.i .i64 1)], none⟩, ⟨(some 3), .mv, [.t 6], none⟩] [0, 3]) (.block 0 l102_1)) (.seq (.reg [⟨(some 2), .mv, [.c (.b true)], none⟩] [2]) .ret)))

def d102 : DFun := ⟨1, 21, c102, [.t 2]⟩

theorem ok102 : Fok Try.prog 102 d102 := ⟨Try.f102, Try.func102, by kernel_rfl, by kernel_rfl⟩

def c103 : DC := (.seq (.reg [⟨(some 4), .mv, [.c (.i .i64 0)], none⟩] [0, 1]) (.seq (.reg [⟨(some 7), .mv, [.t 0], none⟩, ⟨(some 8), (.call (.pu [])), [.c (.fn 110 [] []), .t 7], none⟩, ⟨(some 5), .mv, [.t 8], none⟩] [0, 1, 5]) (.seq (.reg [⟨(some 9), .mv, [.t 1], none⟩, ⟨(some 10), (.call (.pu [])), [.c (.fn 110 [] []), .t 9], none⟩, ⟨(some 6), .mv, [.t 10], none⟩] [0, 1, 5, 6]) (.seq (.seq (.reg [⟨(some 11), .mv, [.t 5], none⟩] [0, 1, 6, 11]) (.cond (.t 11) (.seq (.seq (.reg [⟨(some 12), .mv, [.t 6], none⟩] [12]) (.cond (.t 12) (.seq (.reg [⟨(some 4), .mv, [.c (.i .i64 0)], none⟩] [4]) .ret) .skip)) (.seq (.reg [⟨(some 4), .mv, [.c (.i .i64 (-1))], none⟩] [4]) .ret)) .skip)) (.seq (.seq (.reg [⟨(some 13), .mv, [.t 6], none⟩] [0, 1, 13]) (.cond (.t 13) (.seq (.reg [⟨(some 4), .mv, [.c (.i .i64 1)], none⟩] [4]) .ret) .skip)) (.seq (.seq (.reg [⟨(some 14), .mv, [.t 0], none⟩, ⟨(some 15), .mv, [.t 1], none⟩, ⟨(some 16), (.binI .lss), [.t 14, .t 15], none⟩] [0, 1, 16]) (.cond (.t 16) (.seq (.reg [⟨(some 4), .mv, [.c (.i .i64 (-1))], none⟩] [4]) .ret) .skip)) (.seq (.seq (.reg [⟨(some 17), .mv, [.t 0], none⟩, ⟨(some 18), .mv, [.t 1], none⟩, ⟨(some 19), (.binI .gtr), [.t 17, .t 18], none⟩] [19]) (.cond (.t 19) (.seq (.reg [⟨(some 4), .mv, [.c (.i .i64 1)], none⟩] [4]) .ret) .skip)) (.seq (.reg [⟨(some 4), .mv, [.c (.i .i64 0)], none⟩] [4]) .ret))))))))

def d103 : DFun := ⟨2, 20, c103, [.t 4]⟩

theorem ok103 : Fok Try.prog 103 d103 := ⟨Try.f103, Try.func103, by kernel_rfl, by kernel_rfl⟩

def c109 : DC := (.seq (.reg [⟨(some 4), .mv, [.c (.b false)], none⟩] [0, 1]) (.seq (.reg [⟨(some 5), .mv, [.t 0], none⟩, ⟨(some 6), (.call (.pu [])), [.c (.fn 110 [] []), .t 5], none⟩, ⟨(some 7), .mv, [.t 6], none⟩, ⟨(some 8), .mv, [.t 1], (some (7, true))⟩, ⟨(some 9), (.call (.pu [])), [.c (.fn 110 [] []), .t 8], (some (7, true))⟩, ⟨(some 10), .notB, [.t 9], (some (7, true))⟩, ⟨(some 11), .pick, [.t 7, .t 10, .c (.b false)], none⟩, ⟨(some 12), .mv, [.t 11], none⟩, ⟨(some 13), .mv, [.t 0], (some (12, false))⟩, ⟨(some 14), .mv, [.t 1], (some (12, false))⟩, ⟨(some 15), (.binI .lss), [.t 13, .t 14], (some (12, false))⟩, ⟨(some 16), .pick, [.t 12, .c (.b true), .t 15], none⟩, ⟨(some 4), .mv, [.t 16], none⟩] [4]) .ret))

def d109 : DFun := ⟨2, 17, c109, [.t 4]⟩

theorem ok109 : Fok Try.prog 109 d109 := ⟨Try.f109, Try.func109, by kernel_rfl, by kernel_rfl⟩

def c110 : DC := (.seq (.reg [⟨(some 2), .mv, [.c (.b false)], none⟩] [0]) (.seq (.reg [⟨(some 3), .mv, [.t 0], none⟩, ⟨(some 4), .mv, [.t 0], none⟩, ⟨(some 5), (.binI .neq), [.t 3, .t 4], none⟩, ⟨(some 2), .mv, [.t 5], none⟩] [2]) .ret))

def d110 : DFun := ⟨1, 6, c110, [.t 2]⟩

theorem ok110 : Fok Try.prog 110 d110 := ⟨Try.f110, Try.func110, by kernel_rfl, by kernel_rfl⟩

end Go.Proofs.Try.Dn

