import Derived.Test.YtijeefncmgjlpaaProg
import Derived.Test.YtijeefncmgjlpaaDc
set_option linter.unusedVariables false
set_option maxRecDepth 100000
namespace Go.Proofs.Try.Dn
open Go.Dn

def c36 : DC := (.seq (.reg [oO 2 .mv [.c .nilsl], oO 3 .mv [.c (.b false)], oO 4 .mv [.c (.i .i64 0)]] [0]) (.seq (.seq (.reg [oM 8 0, ⟨(some 9), (.call (.pu [])), [.c (.fn 55 [] []), .t 8], none⟩, oM 5 9] [0, 5]) (.seq (.reg [oM 10 5, oO 11 (.binI .neq) [.t 10, .c (.i .i64 0)]] [0, 5, 11]) (.cond (.t 11) (.seq (.reg [oM 12 5, oO 2 .mv [.c .nilsl], oO 3 .mv [.c (.b false)], oM 4 12] [2, 3, 4]) .ret) .skip))) (.seq (.reg [oM 14 0, ⟨(some 15), (.call (.pu [])), [.c (.fn 63 [] []), .t 14], none⟩, ⟨(some 16), (.call .sh), [.c (.fn 66 [] []), .t 15], none⟩, oM 13 16, oO 17 (.ext 0) [.t 13], oO 18 (.ext 1) [.t 13], oM 6 17, oM 7 18] [7]) (.seq (.reg [oM 19 7, oM 20 7, oO 21 (.eqN 0 true) [.t 20, .c .nilsl], oM 2 19, oM 3 21, oO 4 .mv [.c (.i .i64 0)]] [2, 3, 4]) .ret))))

def d36 : DFun := ⟨1, 22, c36, [.t 2, .t 3, .t 4]⟩

theorem ok36 : Fok Try.prog 36 d36 := ⟨Try.f36, Try.func36, by kernel_rfl, by kernel_rfl⟩

def b41_0 : DC := (.seq (.reg [oO 45 (.binI .lss) [.t 44, .t 43]] [1, 5, 6, 7, 35, 36, 37, 42, 43, 44, 45]) (.seq (.cond (.t 45) .skip (.exit 2)) (.seq (.block 3 (.seq (.reg [oO 46 (.ixS 1 false) [.t 42, .t 44], oO 47 (.ld 1 false) [.t 46], oM 10 47] [1, 5, 6, 7, 10, 35, 36, 37, 42, 43, 44]) (.seq (.seq (.reg [oM 49 5, oM 50 10, oO 51 (.lkS (.i .i64 0) true) [.t 49, .t 50], oM 48 51, oO 52 (.ext 0) [.t 48], oO 53 (.ext 1) [.t 48], oM 11 52, oM 12 53] [1, 5, 6, 7, 10, 11, 12, 35, 36, 37, 42, 43, 44]) (.seq (.reg [oM 54 12, oM 55 54, oP 56 .mv [.t 11] 55 true, oP 57 .mv [.t 7] 55 true, oP 58 (.binI .neq) [.t 56, .t 57] 55 true, oO 59 .pick [.t 55, .t 58, .c (.b false)]] [1, 5, 6, 7, 10, 35, 36, 37, 42, 43, 44, 59]) (.cond (.t 59) (.seq (.reg [oO 6 .mv [.c (.b true)]] [1, 6]) (.exit 0)) .skip))) (.reg [oM 60 5, oM 61 10, oM 62 7, ⟨none, .setS, [.t 60, .t 61, .t 62], none⟩] [1, 5, 6, 7, 35, 36, 37, 42, 43, 44])))) (.reg [oO 63 (.binI .add) [.t 44, .c (.i .i64 1)], oM 44 63] [1, 5, 6, 7, 35, 36, 37, 42, 43, 44]))))

def l41_1 : DC := (.loop [1, 5, 6, 7, 35, 36, 37, 42, 43, 44] b41_0)

def b41_2 : DC := (.seq (.reg [oO 38 (.binI .lss) [.t 37, .t 36]] [1, 5, 6, 35, 36, 37, 38]) (.seq (.cond (.t 38) .skip (.exit 0)) (.seq (.block 1 (.seq (.reg [oM 39 37, oO 40 (.ixS 1 false) [.t 35, .t 37], oO 41 (.ld 1 false) [.t 40], oM 7 39, oM 8 41] [1, 5, 6, 7, 8, 35, 36, 37]) (.seq (.reg [oM 42 8, oO 43 (.len 0) [.t 42], oO 44 .mv [.c (.i .i64 0)]] [1, 5, 6, 7, 35, 36, 37, 42, 43, 44]) (.block 2 l41_1)))) (.reg [oO 64 (.binI .add) [.t 37, .c (.i .i64 1)], oM 37 64] [1, 5, 6, 35, 36, 37]))))

def l41_3 : DC := (.loop [1, 5, 6, 35, 36, 37] b41_2)

def b41_4 : DC := (.seq (.reg [oM 95 21, oM 96 20, oO 97 (.binI .lss) [.t 95, .t 96]] [1, 13, 15, 18, 20, 22, 72, 73, 74, 82, 83, 84, 89, 97]) (.cond (.t 97) (.reg [oM 98 18, oM 99 20, oO 100 (.lkS (.i .i64 0) false) [.t 98, .t 99], oM 101 22, oO 102 (.binI .add) [.t 100, .t 101], ⟨none, .setS, [.t 98, .t 99, .t 102], none⟩] [1, 13, 15, 18, 20, 72, 73, 74, 82, 83, 84, 89]) .skip))

def z41_5 : DC := .skip

def l41_6 : DC := (.mrange 89 90 91 10 11 92 [oM 92 92, oO 93 (.ext 0) [.t 92], oO 94 (.ext 1) [.t 92], oM 21 93, oM 22 94] [1, 13, 15, 18, 20, 21, 22, 72, 73, 74, 82, 83, 84, 89] b41_4 [1, 13, 15, 18, 20, 72, 73, 74, 82, 83, 84, 89] z41_5)

def b41_7 : DC := (.seq (.reg [oO 85 (.binI .lss) [.t 84, .t 83]] [1, 13, 15, 18, 72, 73, 74, 82, 83, 84, 85]) (.seq (.cond (.t 85) .skip (.exit 8)) (.seq (.block 9 (.seq (.reg [oO 86 (.ixS 1 false) [.t 82, .t 84], oO 87 (.ld 1 false) [.t 86], oM 20 87] [1, 13, 15, 18, 20, 72, 73, 74, 82, 83, 84]) (.seq (.reg [oM 88 15, oO 89 .rngS [.t 88]] [1, 13, 15, 18, 20, 72, 73, 74, 82, 83, 84, 89]) l41_6))) (.reg [oO 103 (.binI .add) [.t 84, .c (.i .i64 1)], oM 84 103] [1, 13, 15, 18, 72, 73, 74, 82, 83, 84]))))

def l41_8 : DC := (.loop [1, 13, 15, 18, 72, 73, 74, 82, 83, 84] b41_7)

def b41_9 : DC := (.seq (.reg [oO 75 (.binI .lss) [.t 74, .t 73]] [1, 13, 15, 72, 73, 74, 75]) (.seq (.cond (.t 75) .skip (.exit 6)) (.seq (.block 7 (.seq (.reg [oO 76 (.ixS 1 false) [.t 72, .t 74], oO 77 (.ld 1 false) [.t 76], oM 17 77] [1, 13, 15, 17, 72, 73, 74]) (.seq (.reg [oO 78 .mkS [], oM 18 78] [1, 13, 15, 17, 18, 72, 73, 74]) (.seq (.seq (.reg [oO 79 (.ld 1 false) [.t 1], oM 80 17, oO 81 (.ixS 1 false) [.t 79, .t 80], oO 82 (.ld 1 false) [.t 81], oO 83 (.len 0) [.t 82], oO 84 .mv [.c (.i .i64 0)]] [1, 13, 15, 18, 72, 73, 74, 82, 83, 84]) (.block 8 l41_8)) (.reg [oM 104 18, oM 15 104] [1, 13, 15, 72, 73, 74]))))) (.reg [oO 105 (.binI .add) [.t 74, .c (.i .i64 1)], oM 74 105] [1, 13, 15, 72, 73, 74]))))

def l41_10 : DC := (.loop [1, 13, 15, 72, 73, 74] b41_9)

def b41_11 : DC := (.reg [oM 112 23, oM 113 25, oO 114 (.binI .add) [.t 112, .t 113], oM 23 114] [13, 23, 107])

def z41_12 : DC := (.reg [oO 115 (.ld 1 false) [.t 13], oM 116 23, oO 117 (.bsl false [(.i .i64 0)] false 1 [0]) [.t 116], oO 118 (.app 1 false 8) [.t 115, .t 117], ⟨none, (.st 1), [.t 13, .t 118], none⟩] [])

def l41_13 : DC := (.mrange 107 108 109 12 13 110 [oM 110 110, oO 111 (.ext 1) [.t 110], oM 25 111] [13, 23, 25, 107] b41_11 [13, 23, 107] z41_12)

def a41_14 : DC := (.reg [oM 14 69] [1, 13, 14])

def b41_15 : DC := (.block 5 (.seq (.reg [oO 70 .mkS [], ⟨none, .setS, [.t 70, .c (.i .i64 (-1)), .c (.i .i64 1)], none⟩, oM 71 70, oM 15 71] [1, 13, 14, 15]) (.seq (.seq (.reg [oM 72 14, oO 73 (.len 0) [.t 72], oO 74 .mv [.c (.i .i64 0)]] [1, 13, 15, 72, 73, 74]) (.block 6 l41_10)) (.seq (.reg [oO 23 .mv [.c (.i .i64 0)]] [13, 15, 23]) (.seqr (.reg [oM 106 15, oO 107 .rngS [.t 106]] [13, 23, 107]) l41_13)))))

def c41 : DC := (.seq (.reg [oO 1 (.box false) [.t 0], oO 2 .mv [.c .nilsl], oO 3 .mv [.c (.i .i64 0)]] [1]) (.scope (.seq (.seq (.reg [oO 26 (.ld 1 false) [.t 1], ⟨(some 27), (.call (.pu [])), [.c (.fn 55 [] []), .t 26], none⟩, oM 4 27] [1, 4]) (.seq (.reg [oM 28 4, oO 29 (.binI .neq) [.t 28, .c (.i .i64 0)]] [1, 4, 29]) (.cond (.t 29) (.seq (.reg [oM 30 4, oO 2 .mv [.c .nilsl], oM 3 30] [2, 3]) .ret) .skip))) (.seq (.seq (.reg [oO 31 (.ld 1 false) [.t 1], oO 32 (.len 0) [.t 31], oO 33 (.binI .gtr) [.t 32, .c (.i .i64 4)]] [1, 33]) (.cond (.t 33) (.seq (.reg [oO 2 .mv [.c .nilsl], oO 3 .mv [.c (.i .i64 2)]] [2, 3]) .ret) .skip)) (.seq (.reg [oO 34 .mkS [], oM 5 34] [1, 5]) (.seq (.reg [oO 6 .mv [.c (.b false)]] [1, 5, 6]) (.seq .skip (.seq (.seq (.reg [oO 35 (.ld 1 false) [.t 1], oO 36 (.len 0) [.t 35], oO 37 .mv [.c (.i .i64 0)]] [1, 5, 6, 35, 36, 37]) (.block 0 l41_3)) (.seq (.seq (.reg [oM 65 6] [1, 65]) (.cond (.t 65) (.seq (.reg [oO 2 .mv [.c .nilsl], oO 3 .mv [.c (.i .i64 10)]] [2, 3]) .ret) .skip)) (.seq (.reg [oO 13 (.alloc [.nilsl] false) []] [1, 13]) (.seq (.seq (.reg [oO 66 (.ld 1 false) [.t 1], oO 67 (.len 0) [.t 66], ⟨(some 68), (.call .sh), [.c (.fn 68 [] []), .t 67], none⟩] [1, 13, 68]) (.block 4 (.rfunc (.t 68) [69] a41_14 b41_15 [1, 13]))) (.seq (.reg [oO 119 (.ld 1 false) [.t 13], oM 2 119, oO 3 .mv [.c (.i .i64 0)]] [2, 3]) .ret))))))))))))

def d41 : DFun := ⟨1, 120, c41, [.t 2, .t 3]⟩

theorem ok41 : Fok Try.prog 41 d41 := ⟨Try.f41, Try.func41, by kernel_rfl, by kernel_rfl⟩

def c42 : DC := (.seq (.reg [oO 2 .mv [.c (.i .i64 0)], oO 3 .mv [.c (.i .i64 0)]] [0]) (.seq (.seq (.reg [oM 5 0, ⟨(some 6), (.call (.pu [])), [.c (.fn 55 [] []), .t 5], none⟩, oM 4 6] [0, 4]) (.seq (.reg [oM 7 4, oO 8 (.binI .neq) [.t 7, .c (.i .i64 0)]] [0, 4, 8]) (.cond (.t 8) (.seq (.reg [oM 9 4, oO 2 .mv [.c (.i .i64 0)], oM 3 9] [2, 3]) .ret) .skip))) (.seq (.reg [oM 10 0, ⟨(some 11), (.call (.pu [])), [.c (.fn 69 [] []), .t 10], none⟩, oM 2 11, oO 3 .mv [.c (.i .i64 0)]] [2, 3]) .ret)))

def d42 : DFun := ⟨1, 12, c42, [.t 2, .t 3]⟩

theorem ok42 : Fok Try.prog 42 d42 := ⟨Try.f42, Try.func42, by kernel_rfl, by kernel_rfl⟩

def c43 : DC := (.seq (.reg [oO 2 .mv [.c .nilsl], oO 3 .mv [.c (.i .i64 0)]] [0]) (.seq (.seq (.reg [oM 5 0, ⟨(some 6), (.call (.pu [])), [.c (.fn 55 [] []), .t 5], none⟩, oM 4 6] [0, 4]) (.seq (.reg [oM 7 4, oO 8 (.binI .neq) [.t 7, .c (.i .i64 0)]] [0, 4, 8]) (.cond (.t 8) (.seq (.reg [oM 9 4, oO 2 .mv [.c .nilsl], oM 3 9] [2, 3]) .ret) .skip))) (.seq (.reg [oM 10 0, ⟨(some 11), (.call .sh), [.c (.fn 70 [] []), .t 10], none⟩, oM 2 11, oO 3 .mv [.c (.i .i64 0)]] [2, 3]) .ret)))

def d43 : DFun := ⟨1, 12, c43, [.t 2, .t 3]⟩

theorem ok43 : Fok Try.prog 43 d43 := ⟨Try.f43, Try.func43, by kernel_rfl, by kernel_rfl⟩

def b44_0 : DC := (.seq (.seq (.reg [oM 8 5, oM 9 3, oO 10 (.len 0) [.t 9], oO 11 (.binI .lss) [.t 8, .t 10]] [3, 4, 5, 11]) (.cond (.t 11) .skip (.exit 0))) (.seq (.block 1 (.seq (.reg [oM 14 3, oM 15 5, oO 16 (.ixS 1 false) [.t 14, .t 15], oO 17 (.ld 1 false) [.t 16], oO 18 (.binI .gtr) [.t 17, .c (.i .i64 0)]] [3, 4, 5, 18]) (.cond (.t 18) (.reg [oM 19 4, oM 20 5, oM 21 3, oM 22 5, oO 23 (.ixS 1 false) [.t 21, .t 22], oO 24 (.ld 1 false) [.t 23], oO 25 (.build [(.i .i64 0), (.i .i64 0)] [(0, 1), (1, 1)]) [.t 20, .t 24], oO 26 (.bsl false [(.i .i64 0), (.i .i64 0)] true 1 [0]) [.t 25], oO 27 (.app 2 true 16) [.t 19, .t 26], oM 4 27] [3, 4, 5]) .skip))) (.reg [oM 12 5, oO 13 (.binI .add) [.t 12, .c (.i .i64 1)], oM 5 13] [3, 4, 5])))

def l44_1 : DC := (.loop [3, 4, 5] b44_0)

def c44 : DC := (.seq (.reg [oO 2 .mv [.c .nilsl]] [0]) (.seq (.reg [oM 6 0, ⟨(some 7), (.call (.pu [])), [.c (.fn 46 [] []), .t 6], none⟩, oM 3 7] [3]) (.seq (.reg [oO 4 .mv [.c .nilsl]] [3, 4]) (.seq (.seq (.reg [oO 5 .mv [.c (.i .i64 0)]] [3, 4, 5]) (.block 0 l44_1)) (.seq (.reg [oM 28 4, oM 2 28] [2]) .ret)))))

def d44 : DFun := ⟨1, 29, c44, [.t 2]⟩

theorem ok44 : Fok Try.prog 44 d44 := ⟨Try.f44, Try.func44, by kernel_rfl, by kernel_rfl⟩

def b46_0 : DC := (.seq (.seq (.reg [oM 37 7, oM 38 0, oM 39 4, oO 40 (.ixS 1 false) [.t 38, .t 39], oO 41 (.ld 1 false) [.t 40], oO 42 (.len 0) [.t 41], oO 43 (.binI .lss) [.t 37, .t 42]] [0, 3, 4, 5, 6, 7, 43]) (.cond (.t 43) .skip (.exit 4))) (.seq (.block 5 (.reg [oM 46 5, oM 47 6, oM 48 0, oM 49 4, oO 50 (.ixS 1 false) [.t 48, .t 49], oO 51 (.ld 1 false) [.t 50], oM 52 7, oO 53 (.ixS 1 false) [.t 51, .t 52], oO 54 (.ld 1 false) [.t 53], oO 55 (.binI .add) [.t 47, .t 54], oM 56 5, oM 57 6, oM 58 0, oM 59 4, oO 60 (.ixS 1 false) [.t 58, .t 59], oO 61 (.ld 1 false) [.t 60], oM 62 7, oO 63 (.ixS 1 false) [.t 61, .t 62], oO 64 (.ld 1 false) [.t 63], oO 65 (.binI .add) [.t 57, .t 64], oO 66 (.ixS 1 false) [.t 56, .t 65], oO 67 (.ld 1 false) [.t 66], oM 68 3, oM 69 6, oO 70 (.ixS 1 false) [.t 68, .t 69], oO 71 (.ld 1 false) [.t 70], oO 72 (.binI .add) [.t 67, .t 71], oO 73 (.ixS 1 false) [.t 46, .t 55], ⟨none, (.st 1), [.t 73, .t 72], none⟩] [0, 3, 4, 5, 6, 7])) (.reg [oM 44 7, oO 45 (.binI .add) [.t 44, .c (.i .i64 1)], oM 7 45] [0, 3, 4, 5, 6, 7])))

def l46_1 : DC := (.loop [0, 3, 4, 5, 6, 7] b46_0)

def b46_2 : DC := (.seq (.seq (.reg [oM 31 6, oM 32 3, oO 33 (.len 0) [.t 32], oO 34 (.binI .lss) [.t 31, .t 33]] [0, 3, 4, 5, 6, 34]) (.cond (.t 34) .skip (.exit 2))) (.seq (.block 3 (.seq (.reg [oO 7 .mv [.c (.i .i64 0)]] [0, 3, 4, 5, 6, 7]) (.block 4 l46_1))) (.reg [oM 35 6, oO 36 (.binI .add) [.t 35, .c (.i .i64 1)], oM 6 36] [0, 3, 4, 5, 6])))

def l46_3 : DC := (.loop [0, 3, 4, 5, 6] b46_2)

def b46_4 : DC := (.seq (.seq (.reg [oM 9 4, oM 10 0, oO 11 (.len 0) [.t 10], oO 12 (.binI .lss) [.t 9, .t 11]] [0, 3, 4, 12]) (.cond (.t 12) .skip (.exit 0))) (.seq (.block 1 (.seq (.reg [oM 15 3, oO 16 (.len 0) [.t 15], oM 17 0, oM 18 4, oO 19 (.ixS 1 false) [.t 17, .t 18], oO 20 (.ld 1 false) [.t 19], oM 21 0, oM 22 4, oO 23 (.ixS 1 false) [.t 21, .t 22], oO 24 (.ld 1 false) [.t 23], oO 25 (.len 0) [.t 24], oO 26 (.binI .sub) [.t 25, .c (.i .i64 1)], oO 27 (.ixS 1 false) [.t 20, .t 26], oO 28 (.ld 1 false) [.t 27], oO 29 (.binI .add) [.t 16, .t 28], oO 30 (.mksl [(.i .i64 0)] false 8) [.t 29, .t 29], oM 5 30] [0, 3, 4, 5]) (.seq (.seq (.reg [oO 6 .mv [.c (.i .i64 0)]] [0, 3, 4, 5, 6]) (.block 2 l46_3)) (.reg [oM 74 5, oM 3 74] [0, 3, 4])))) (.reg [oM 13 4, oO 14 (.binI .add) [.t 13, .c (.i .i64 1)], oM 4 14] [0, 3, 4])))

def l46_5 : DC := (.loop [0, 3, 4] b46_4)

def c46 : DC := (.seq (.reg [oO 2 .mv [.c .nilsl]] [0]) (.seq (.reg [oO 8 (.bsl false [(.i .i64 0)] false 1 [0]) [.c (.i .i64 1)], oM 3 8] [0, 3]) (.seq (.seq (.reg [oO 4 .mv [.c (.i .i64 0)]] [0, 3, 4]) (.block 0 l46_5)) (.seq (.reg [oM 75 3, oM 2 75] [2]) .ret))))

def d46 : DFun := ⟨1, 76, c46, [.t 2]⟩

theorem ok46 : Fok Try.prog 46 d46 := ⟨Try.f46, Try.func46, by kernel_rfl, by kernel_rfl⟩

def c47 : DC := (.seq (.reg [oO 4 .mv [.c (.i .i64 0)], oO 5 .mv [.c (.i .i64 0)]] [0, 1]) (.seq (.seq (.reg [oM 7 0, ⟨(some 8), (.call (.pu [])), [.c (.fn 55 [] []), .t 7], none⟩, oM 6 8] [0, 1, 6]) (.seq (.reg [oM 9 6, oO 10 (.binI .neq) [.t 9, .c (.i .i64 0)]] [0, 1, 6, 10]) (.cond (.t 10) (.seq (.reg [oM 11 6, oO 4 .mv [.c (.i .i64 0)], oM 5 11] [4, 5]) .ret) .skip))) (.seq (.reg [oM 12 0, ⟨(some 13), (.call .sh), [.c (.fn 58 [] []), .t 12], none⟩, oM 14 1, oO 15 (.lkS (.i .i64 0) false) [.t 13, .t 14], oM 4 15, oO 5 .mv [.c (.i .i64 0)]] [4, 5]) .ret)))

def d47 : DFun := ⟨2, 16, c47, [.t 4, .t 5]⟩

theorem ok47 : Fok Try.prog 47 d47 := ⟨Try.f47, Try.func47, by kernel_rfl, by kernel_rfl⟩

def b48_0 : DC := (.seq (.seq (.reg [oM 11 5, oM 12 0, oO 13 (.len 0) [.t 12], oO 14 (.binI .lss) [.t 11, .t 13]] [0, 1, 5, 14]) (.cond (.t 14) .skip (.exit 0))) (.seq (.block 1 (.seq (.reg [oM 17 0, oM 18 5, oO 19 (.ixS 1 false) [.t 17, .t 18], oO 20 (.ld 1 false) [.t 19], oM 21 1, oM 22 5, oO 23 (.ixS 1 false) [.t 21, .t 22], oO 24 (.ld 1 false) [.t 23], oO 25 (.binI .neq) [.t 20, .t 24]] [0, 1, 5, 25]) (.cond (.t 25) (.seq (.reg [oO 4 .mv [.c (.b false)]] [4]) .ret) .skip))) (.reg [oM 15 5, oO 16 (.binI .add) [.t 15, .c (.i .i64 1)], oM 5 16] [0, 1, 5])))

def l48_1 : DC := (.loop [0, 1, 5] b48_0)

def c48 : DC := (.seq (.reg [oO 4 .mv [.c (.b false)]] [0, 1]) (.seq (.seq (.reg [oM 6 0, oO 7 (.len 0) [.t 6], oM 8 1, oO 9 (.len 0) [.t 8], oO 10 (.binI .neq) [.t 7, .t 9]] [0, 1, 10]) (.cond (.t 10) (.seq (.reg [oO 4 .mv [.c (.b false)]] [4]) .ret) .skip)) (.seq (.seq (.reg [oO 5 .mv [.c (.i .i64 0)]] [0, 1, 5]) (.block 0 l48_1)) (.seq (.reg [oO 4 .mv [.c (.b true)]] [4]) .ret))))

def d48 : DFun := ⟨2, 26, c48, [.t 4]⟩

theorem ok48 : Fok Try.prog 48 d48 := ⟨Try.f48, Try.func48, by kernel_rfl, by kernel_rfl⟩

def b54_0 : DC := (.seq (.seq (.reg [oM 5 4, oM 6 0, oO 7 (.len 0) [.t 6], oO 8 (.binI .lss) [.t 5, .t 7], oM 9 8, oP 10 .mv [.t 4] 9 true, oP 11 (.binI .leq) [.t 10, .c (.i .i64 6)] 9 true, oO 12 .pick [.t 9, .t 11, .c (.b false)]] [0, 3, 4, 12]) (.cond (.t 12) .skip (.exit 0))) (.seq (.block 1 (.reg [oM 15 3, oM 16 0, oM 17 4, oO 18 (.ixS 1 false) [.t 16, .t 17], oO 19 (.ld 1 false) [.t 18], ⟨(some 20), (.call (.pu [])), [.c (.fn 31 [] []), .t 19], none⟩, oO 21 (.bsl false [.nilsl] false 1 [0]) [.t 20], oO 22 (.app 1 false 24) [.t 15, .t 21], oM 3 22] [0, 3, 4])) (.reg [oM 13 4, oO 14 (.binI .add) [.t 13, .c (.i .i64 1)], oM 4 14] [0, 3, 4])))

def l54_1 : DC := (.loop [0, 3, 4] b54_0)

def c54 : DC := (.seq (.reg [oO 2 .mv [.c .nilsl]] [0]) (.seq (.reg [oO 3 .mv [.c .nilsl]] [0, 3]) (.seq (.seq (.reg [oO 4 .mv [.c (.i .i64 0)]] [0, 3, 4]) (.block 0 l54_1)) (.seq (.reg [oM 23 3, oM 2 23] [2]) .ret))))

def d54 : DFun := ⟨1, 24, c54, [.t 2]⟩

theorem ok54 : Fok Try.prog 54 d54 := ⟨Try.f54, Try.func54, by kernel_rfl, by kernel_rfl⟩

def c55 : DC := (.seq (.reg [oO 2 .mv [.c (.i .i64 0)]] [0]) (.seq (.seq (.reg [oM 3 0, oO 4 (.len 0) [.t 3], oO 5 (.binI .gtr) [.t 4, .c (.i .i64 6)], oM 6 5, oP 7 .mv [.t 0] 6 false, ⟨(some 8), (.call .sh), [.c (.fn 75 [] []), .t 7, .c (.fn 76 [] [])], (some (6, false))⟩, oO 9 .pick [.t 6, .c (.b true), .t 8]] [0, 9]) (.cond (.t 9) (.seq (.reg [oO 2 .mv [.c (.i .i64 2)]] [2]) .ret) .skip)) (.seq (.seq (.reg [oM 10 0, oO 11 (.len 0) [.t 10], oO 12 (.binI .eql) [.t 11, .c (.i .i64 0)], oM 13 12, oP 14 .mv [.t 0] 13 false, ⟨(some 15), (.call .sh), [.c (.fn 77 [] []), .t 14, .c (.fn 78 [] [])], (some (13, false))⟩, oP 16 .notB [.t 15] 13 false, oO 17 .pick [.t 13, .c (.b true), .t 16]] [17]) (.cond (.t 17) (.seq (.reg [oO 2 .mv [.c (.i .i64 10)]] [2]) .ret) .skip)) (.seq (.reg [oO 2 .mv [.c (.i .i64 0)]] [2]) .ret))))

def d55 : DFun := ⟨1, 18, c55, [.t 2]⟩

theorem ok55 : Fok Try.prog 55 d55 := ⟨Try.f55, Try.func55, by kernel_rfl, by kernel_rfl⟩

def a56_0 : DC := (.seq (.reg [oM 4 8] [3, 4, 9]) (.reg [oM 5 9] [3, 4, 5]))

def b56_1 : DC := (.block 1 (.reg [oO 10 (.ld 1 false) [.t 3], oM 11 4, oM 12 5, oO 13 (.build [.nilsl, .nilsl] [(0, 1), (1, 1)]) [.t 11, .t 12], oO 14 (.bsl false [.nilsl, .nilsl] true 1 [0]) [.t 13], oO 15 (.app 2 true 48) [.t 10, .t 14], ⟨none, (.st 1), [.t 3, .t 15], none⟩] []))

def c56 : DC := (.seq (.reg [oO 2 .mv [.c .nilsl]] [0]) (.seq (.reg [oO 3 (.alloc [.nilsl] false) []] [0, 3]) (.seq (.seq (.reg [oM 7 0] [3, 7]) (.block 0 (.rfunc (.t 7) [8, 9] a56_0 b56_1 [3]))) (.seq (.reg [oO 6 (.alloc [.nilfn] false) [], ⟨none, (.st 1), [.t 6, .c (.fn 79 [] [])], none⟩] [3, 6]) (.seq (.reg [oO 16 (.ld 1 false) [.t 3], oO 17 (.ld 1 false) [.t 6], ⟨(some 18), (.call .so), [.c (.fn 81 [] []), .t 16, .t 17], none⟩] [3, 6]) (.seq (.reg [oO 19 (.ld 1 false) [.t 3], oO 20 (.mkfn 83 0) [.t 6], ⟨(some 21), (.call .sh), [.c (.fn 82 [] []), .t 19, .t 20], none⟩, oM 2 21] [2]) .ret))))))

def d56 : DFun := ⟨1, 22, c56, [.t 2]⟩

theorem ok56 : Fok Try.prog 56 d56 := ⟨Try.f56, Try.func56, by kernel_rfl, by kernel_rfl⟩

def c57 : DC := (.seq (.reg [oO 5 (.box false) [.t 0], oO 6 (.box false) [.t 1], oO 7 (.box false) [.t 2], oO 8 (.box false) [.t 3], oO 9 (.box false) [.t 4], oO 10 .mv [.c .nilfn]] [5, 6, 7, 8, 9]) (.seq (.reg [oO 11 (.mkfn 84 0) [.t 9, .t 7, .t 8, .t 5, .t 6], oM 10 11] [10]) .ret))

def d57 : DFun := ⟨5, 12, c57, [.t 10]⟩

theorem ok57 : Fok Try.prog 57 d57 := ⟨Try.f57, Try.func57, by kernel_rfl, by kernel_rfl⟩

def b58_0 : DC := (.seq (.reg [oO 30 (.binI .lss) [.t 29, .t 28]] [5, 6, 7, 8, 13, 14, 15, 21, 27, 28, 29, 30]) (.seq (.cond (.t 30) .skip (.exit 4)) (.seq (.block 5 (.seq (.reg [oO 31 (.ixS 1 false) [.t 27, .t 29], oO 32 (.ld 1 false) [.t 31], oM 10 32] [5, 6, 7, 8, 10, 13, 14, 15, 21, 27, 28, 29]) (.reg [oM 33 6, oM 34 7, oM 35 10, oO 36 (.binI .add) [.t 34, .t 35], oO 37 (.lkS (.i .i64 0) false) [.t 33, .t 36], oM 38 8, oO 39 (.binI .add) [.t 37, .t 38], ⟨none, .setS, [.t 33, .t 36, .t 39], none⟩] [5, 6, 7, 8, 13, 14, 15, 21, 27, 28, 29]))) (.reg [oO 40 (.binI .add) [.t 29, .c (.i .i64 1)], oM 29 40] [5, 6, 7, 8, 13, 14, 15, 21, 27, 28, 29]))))

def l58_1 : DC := (.loop [5, 6, 7, 8, 13, 14, 15, 21, 27, 28, 29] b58_0)

def b58_2 : DC := (.seq (.reg [oM 27 5, oO 28 (.len 0) [.t 27], oO 29 .mv [.c (.i .i64 0)]] [5, 6, 7, 8, 13, 14, 15, 21, 27, 28, 29]) (.block 4 l58_1))

def z58_3 : DC := (.reg [oM 41 6, oM 3 41] [3, 13, 14, 15])

def l58_4 : DC := (.mrange 21 22 23 2 3 24 [oM 24 24, oO 25 (.ext 0) [.t 24], oO 26 (.ext 1) [.t 24], oM 7 25, oM 8 26] [5, 6, 7, 8, 13, 14, 15, 21] b58_2 [5, 6, 13, 14, 15, 21] z58_3)

def b58_5 : DC := (.seq (.reg [oO 16 (.binI .lss) [.t 15, .t 14]] [3, 13, 14, 15, 16]) (.seq (.cond (.t 16) .skip (.exit 0)) (.seq (.block 1 (.seq (.reg [oO 17 (.ixS 1 false) [.t 13, .t 15], oO 18 (.ld 1 false) [.t 17], oM 5 18] [3, 5, 13, 14, 15]) (.seq (.reg [oO 19 .mkS [], oM 6 19] [3, 5, 6, 13, 14, 15]) (.seqr (.reg [oM 20 3, oO 21 .rngS [.t 20]] [5, 6, 13, 14, 15, 21]) l58_4)))) (.reg [oO 42 (.binI .add) [.t 15, .c (.i .i64 1)], oM 15 42] [3, 13, 14, 15]))))

def l58_6 : DC := (.loop [3, 13, 14, 15] b58_5)

def c58 : DC := (.seq (.reg [oO 2 .mv [.c .nilmap]] [0]) (.seq (.reg [oO 11 .mkS [], ⟨none, .setS, [.t 11, .c (.i .i64 0), .c (.i .i64 1)], none⟩, oM 12 11, oM 3 12] [0, 3]) (.seq (.seq (.reg [oM 13 0, oO 14 (.len 0) [.t 13], oO 15 .mv [.c (.i .i64 0)]] [3, 13, 14, 15]) (.block 0 l58_6)) (.seq (.reg [oM 43 3, oM 2 43] [2]) .ret))))

def d58 : DFun := ⟨1, 44, c58, [.t 2]⟩

theorem ok58 : Fok Try.prog 58 d58 := ⟨Try.f58, Try.func58, by kernel_rfl, by kernel_rfl⟩

def c60 : DC := (.seq (.reg [oO 4 .mv [.c (.b false)]] [0, 1]) (.seq (.reg [oM 5 0, oM 6 1, oO 7 .mnI [.t 5, .t 6], oO 8 (.binI .geq) [.t 7, .c (.i .i64 1)], oM 9 8, oP 10 .mv [.t 0] 9 true, oP 11 .mv [.t 1] 9 true, oP 12 .mxI [.t 10, .t 11] 9 true, oP 13 (.binI .leq) [.t 12, .c (.i .i64 8)] 9 true, oO 14 .pick [.t 9, .t 13, .c (.b false)], oM 4 14] [4]) .ret))

def d60 : DFun := ⟨2, 15, c60, [.t 4]⟩

theorem ok60 : Fok Try.prog 60 d60 := ⟨Try.f60, Try.func60, by kernel_rfl, by kernel_rfl⟩

def b61_0 : DC := (.seq (.seq (.reg [oM 12 7, oM 13 0, oO 14 (.binI .leq) [.t 12, .t 13]] [0, 1, 2, 6, 7, 14]) (.cond (.t 14) .skip (.exit 0))) (.seq (.block 1 (.seq (.reg [oM 17 0, oM 18 7, oO 19 (.binI .rem) [.t 17, .t 18], oO 20 (.binI .eql) [.t 19, .c (.i .i64 0)]] [0, 1, 2, 6, 7, 20]) (.cond (.t 20) (.reg [oM 21 6, oO 22 (.ld 1 false) [.t 2], oM 23 1, oM 24 0, oM 25 7, oO 26 (.binI .quo) [.t 24, .t 25], oO 27 (.call .sh) [.t 22, .t 23, .t 26], oO 28 (.binI .add) [.t 21, .t 27], oM 6 28] [0, 1, 2, 6, 7]) .skip))) (.reg [oM 15 7, oO 16 (.binI .add) [.t 15, .c (.i .i64 1)], oM 7 16] [0, 1, 2, 6, 7])))

def l61_1 : DC := (.loop [0, 1, 2, 6, 7] b61_0)

def c61 : DC := (.seq (.reg [oO 5 .mv [.c (.i .i64 0)]] [0, 1, 2]) (.seq (.seq (.reg [oM 8 0, oO 9 (.binI .eql) [.t 8, .c (.i .i64 1)]] [0, 1, 2, 9]) (.cond (.t 9) (.seq (.seq (.reg [oM 10 1, oO 11 (.binI .eql) [.t 10, .c (.i .i64 1)]] [11]) (.cond (.t 11) (.seq (.reg [oO 5 .mv [.c (.i .i64 1)]] [5]) .ret) .skip)) (.seq (.reg [oO 5 .mv [.c (.i .i64 0)]] [5]) .ret)) .skip)) (.seq (.reg [oO 6 .mv [.c (.i .i64 0)]] [0, 1, 2, 6]) (.seq (.seq (.reg [oO 7 .mv [.c (.i .i64 2)]] [0, 1, 2, 6, 7]) (.block 0 l61_1)) (.seq (.reg [oM 29 6, oM 5 29] [5]) .ret)))))

def d61 : DFun := ⟨3, 30, c61, [.t 5]⟩

theorem ok61 : Fok Try.prog 61 d61 := ⟨Try.f61, Try.func61, by kernel_rfl, by kernel_rfl⟩

def b63_0 : DC := (.seq (.reg [oO 20 (.binI .lss) [.t 19, .t 18]] [0, 3, 5, 6, 11, 12, 13, 17, 18, 19, 20]) (.seq (.cond (.t 20) .skip (.exit 2)) (.seq (.block 3 (.seq (.reg [oO 21 (.ixS 1 false) [.t 17, .t 19], oO 22 (.ld 1 false) [.t 21], oM 8 22] [0, 3, 5, 6, 8, 11, 12, 13, 17, 18, 19]) (.seq (.reg [oM 23 5, oM 24 8, ⟨(some 25), (.call (.pu [])), [.c (.fn 65 [] []), .t 23, .t 24], none⟩, oO 9 (.alloc [(.i .i64 0), (.i .i64 0), (.i .i64 0)] true) [], ⟨none, (.st 3), [.t 9, .t 25], none⟩] [0, 3, 5, 6, 9, 11, 12, 13, 17, 18, 19]) (.seq (.reg [oO 26 (.fadr 1 1 false) [.t 9], oO 27 (.ld 1 false) [.t 26], oO 28 (.fadr 0 1 false) [.t 9], oO 29 (.ld 1 false) [.t 28], oO 30 (.fadr 2 1 false) [.t 9], oO 31 (.ld 1 false) [.t 30], oO 32 (.build [(.i .i64 0), (.i .i64 0), (.i .i64 0)] [(0, 1), (1, 1), (2, 1)]) [.t 27, .t 29, .t 31], oO 10 (.alloc [(.i .i64 0), (.i .i64 0), (.i .i64 0)] true) [], ⟨none, (.st 3), [.t 10, .t 32], none⟩] [0, 3, 5, 6, 9, 10, 11, 12, 13, 17, 18, 19]) (.reg [oM 33 6, oO 34 (.ld 3 true) [.t 9], oO 35 (.ld 3 true) [.t 10], oO 36 (.eqA true [true, true, true]) [.t 34, .t 35], oM 37 36, oP 38 (.fadr 0 1 false) [.t 9] 37 true, oP 39 (.ld 1 false) [.t 38] 37 true, oP 40 (.fadr 1 1 false) [.t 9] 37 true, oP 41 (.ld 1 false) [.t 40] 37 true, oP 42 (.binI .gtr) [.t 39, .t 41] 37 true, oO 43 .pick [.t 37, .t 42, .c (.b false)], oO 44 (.bsl false [(.b false)] false 1 [0]) [.t 43], oO 45 (.app 1 false 1) [.t 33, .t 44], oM 6 45] [0, 3, 5, 6, 11, 12, 13, 17, 18, 19]))))) (.reg [oO 46 (.binI .add) [.t 19, .c (.i .i64 1)], oM 19 46] [0, 3, 5, 6, 11, 12, 13, 17, 18, 19]))))

def l63_1 : DC := (.loop [0, 3, 5, 6, 11, 12, 13, 17, 18, 19] b63_0)

def b63_2 : DC := (.seq (.reg [oO 14 (.binI .lss) [.t 13, .t 12]] [0, 3, 11, 12, 13, 14]) (.seq (.cond (.t 14) .skip (.exit 0)) (.seq (.block 1 (.seq (.reg [oO 15 (.ixS 1 false) [.t 11, .t 13], oO 16 (.ld 1 false) [.t 15], oM 5 16] [0, 3, 5, 11, 12, 13]) (.seq (.reg [oO 6 .mv [.c .nilsl]] [0, 3, 5, 6, 11, 12, 13]) (.seq (.seq (.reg [oM 17 0, oO 18 (.len 0) [.t 17], oO 19 .mv [.c (.i .i64 0)]] [0, 3, 5, 6, 11, 12, 13, 17, 18, 19]) (.block 2 l63_1)) (.reg [oM 47 3, oM 48 6, oO 49 (.bsl false [.nilsl] false 1 [0]) [.t 48], oO 50 (.app 1 false 24) [.t 47, .t 49], oM 3 50] [0, 3, 11, 12, 13]))))) (.reg [oO 51 (.binI .add) [.t 13, .c (.i .i64 1)], oM 13 51] [0, 3, 11, 12, 13]))))

def l63_3 : DC := (.loop [0, 3, 11, 12, 13] b63_2)

def c63 : DC := (.seq (.reg [oO 2 .mv [.c .nilsl]] [0]) (.seq (.reg [oO 3 .mv [.c .nilsl]] [0, 3]) (.seq (.seq (.reg [oM 11 0, oO 12 (.len 0) [.t 11], oO 13 .mv [.c (.i .i64 0)]] [0, 3, 11, 12, 13]) (.block 0 l63_3)) (.seq (.reg [oM 52 3, oM 2 52] [2]) .ret))))

def d63 : DFun := ⟨1, 53, c63, [.t 2]⟩

theorem ok63 : Fok Try.prog 63 d63 := ⟨Try.f63, Try.func63, by kernel_rfl, by kernel_rfl⟩

def b65_0 : DC := (.seq (.reg [oO 19 (.binI .lss) [.t 18, .t 17]] [1, 4, 5, 7, 10, 11, 12, 16, 17, 18, 19]) (.seq (.cond (.t 19) .skip (.exit 2)) (.seq (.block 3 (.seq (.reg [oO 20 (.ixS 1 false) [.t 16, .t 18], oO 21 (.ld 1 false) [.t 20], oM 9 21] [1, 4, 5, 7, 9, 10, 11, 12, 16, 17, 18]) (.block 4 (.seq (.reg [oM 27 7, oM 28 9, oO 29 (.binI .gtr) [.t 27, .t 28], oM 26 29] [1, 4, 5, 7, 9, 10, 11, 12, 16, 17, 18, 26]) (.cond (.t 26) (.reg [oO 30 (.fadr 0 1 false) [.t 5], oO 31 (.ld 1 false) [.t 30], oO 32 (.binI .add) [.t 31, .c (.i .i64 1)], oO 33 (.fadr 0 1 false) [.t 5], ⟨none, (.st 1), [.t 33, .t 32], none⟩] [1, 4, 5, 7, 10, 11, 12, 16, 17, 18]) (.seq (.reg [oM 35 7, oM 36 9, oO 37 (.binI .lss) [.t 35, .t 36], oM 34 37] [1, 4, 5, 7, 10, 11, 12, 16, 17, 18, 34]) (.cond (.t 34) (.reg [oO 38 (.fadr 1 1 false) [.t 5], oO 39 (.ld 1 false) [.t 38], oO 40 (.binI .add) [.t 39, .c (.i .i64 1)], oO 41 (.fadr 1 1 false) [.t 5], ⟨none, (.st 1), [.t 41, .t 40], none⟩] [1, 4, 5, 7, 10, 11, 12, 16, 17, 18]) (.reg [oO 22 (.fadr 2 1 false) [.t 5], oO 23 (.ld 1 false) [.t 22], oO 24 (.binI .add) [.t 23, .c (.i .i64 1)], oO 25 (.fadr 2 1 false) [.t 5], ⟨none, (.st 1), [.t 25, .t 24], none⟩] [1, 4, 5, 7, 10, 11, 12, 16, 17, 18])))))))) (.reg [oO 42 (.binI .add) [.t 18, .c (.i .i64 1)], oM 18 42] [1, 4, 5, 7, 10, 11, 12, 16, 17, 18]))))

def l65_1 : DC := (.loop [1, 4, 5, 7, 10, 11, 12, 16, 17, 18] b65_0)

def b65_2 : DC := (.seq (.reg [oO 13 (.binI .lss) [.t 12, .t 11]] [1, 4, 5, 10, 11, 12, 13]) (.seq (.cond (.t 13) .skip (.exit 0)) (.seq (.block 1 (.seq (.reg [oO 14 (.ixS 1 false) [.t 10, .t 12], oO 15 (.ld 1 false) [.t 14], oM 7 15] [1, 4, 5, 7, 10, 11, 12]) (.seq (.reg [oM 16 1, oO 17 (.len 0) [.t 16], oO 18 .mv [.c (.i .i64 0)]] [1, 4, 5, 7, 10, 11, 12, 16, 17, 18]) (.block 2 l65_1)))) (.reg [oO 43 (.binI .add) [.t 12, .c (.i .i64 1)], oM 12 43] [1, 4, 5, 10, 11, 12]))))

def l65_3 : DC := (.loop [1, 4, 5, 10, 11, 12] b65_2)

def c65 : DC := (.seq (.reg [oO 4 (.alloc [(.i .i64 0), (.i .i64 0), (.i .i64 0)] true) []] [0, 1, 4]) (.seq (.reg [oO 5 (.alloc [(.i .i64 0), (.i .i64 0), (.i .i64 0)] true) []] [0, 1, 4, 5]) (.seq (.seq (.reg [oM 10 0, oO 11 (.len 0) [.t 10], oO 12 .mv [.c (.i .i64 0)]] [1, 4, 5, 10, 11, 12]) (.block 0 l65_3)) (.seq (.reg [oO 44 (.ld 3 true) [.t 5], ⟨none, (.st 3), [.t 4, .t 44], none⟩] [4]) .ret))))

def d65 : DFun := ⟨2, 45, c65, [.c 4 3 true]⟩

theorem ok65 : Fok Try.prog 65 d65 := ⟨Try.f65, Try.func65, by kernel_rfl, by kernel_rfl⟩

def b66_0 : DC := (.seq (.reg [oO 15 (.binI .lss) [.t 14, .t 13]] [2, 3, 6, 13, 14, 15]) (.seq (.cond (.t 15) .skip (.exit 0)) (.seq (.block 1 (.seq (.reg [oM 16 14, oM 7 16] [2, 3, 6, 7, 13, 14]) (.seq (.reg [oO 17 (.ld 1 false) [.t 6], oM 18 7, oO 19 (.call .sh) [.t 17, .t 18], oO 20 .notB [.t 19]] [2, 3, 6, 13, 14, 20]) (.cond (.t 20) (.seq (.reg [oO 21 (.ld 1 false) [.t 2], ⟨none, (.st 1), [.t 2, .t 21], none⟩, ⟨none, (.st 1), [.t 3, .c .nilsl], none⟩] [2, 3]) .ret) .skip)))) (.reg [oO 22 (.binI .add) [.t 14, .c (.i .i64 1)], oM 14 22] [2, 3, 6, 13, 14]))))

def l66_1 : DC := (.loop [2, 3, 6, 13, 14] b66_0)

def c66 : DC := (.seq (.reg [oO 1 (.box false) [.t 0], oO 2 (.alloc [.nilsl] false) [], oO 3 (.alloc [.nilsl] false) []] [1, 2, 3]) (.seq (.reg [oO 8 (.ld 1 false) [.t 1], oO 9 (.len 0) [.t 8], oO 10 (.mksl [(.i .i64 0)] false 8) [.t 9, .t 9], oO 4 (.alloc [.nilsl] false) [], ⟨none, (.st 1), [.t 4, .t 10], none⟩] [1, 2, 3, 4]) (.seq (.reg [oO 5 (.alloc [.nilsl] false) []] [1, 2, 3, 4, 5]) (.seq (.reg [oO 6 (.alloc [.nilfn] false) []] [1, 2, 3, 4, 5, 6]) (.seq (.reg [oO 11 (.mkfn 90 0) [.t 4, .t 5, .t 2, .t 1, .t 6, .t 3], ⟨none, (.st 1), [.t 6, .t 11], none⟩] [1, 2, 3, 6]) (.seq (.seq (.reg [oO 12 (.ld 1 false) [.t 1], oO 13 (.len 0) [.t 12], oO 14 .mv [.c (.i .i64 0)]] [2, 3, 6, 13, 14]) (.block 0 l66_1)) (.seq (.reg [oO 23 (.ld 1 false) [.t 3], ⟨(some 24), (.call .sh), [.c (.fn 92 [] []), .t 23], none⟩] [2, 3]) (.seq (.regd [oO 25 (.ld 1 false) [.t 3], ⟨none, (.st 1), [.t 2, .c .nilsl], none⟩, ⟨none, (.st 1), [.t 3, .t 25], none⟩] [2, 3] [(1, 0)]) .ret))))))))

def d66 : DFun := ⟨1, 26, c66, [.c 2 1 false, .c 3 1 false]⟩

theorem ok66 : Fok Try.prog 66 d66 := ⟨Try.f66, Try.func66, by kernel_rfl, by kernel_rfl⟩

def c68 : DC := (.seq (.reg [oO 1 (.box false) [.t 0], oO 2 .mv [.c .nilfn]] [1]) (.seq (.reg [oO 3 (.mkfn 93 0) [.t 1], oM 2 3] [2]) .ret))

def d68 : DFun := ⟨1, 4, c68, [.t 2]⟩

theorem ok68 : Fok Try.prog 68 d68 := ⟨Try.f68, Try.func68, by kernel_rfl, by kernel_rfl⟩

def b69_0 : DC := (.seq (.reg [oO 9 (.binI .lss) [.t 8, .t 7]] [3, 6, 7, 8, 9]) (.seq (.cond (.t 9) .skip (.exit 0)) (.seq (.block 1 (.seq (.reg [oO 10 (.ixS 1 false) [.t 6, .t 8], oO 11 (.ld 1 false) [.t 10], oM 5 11] [3, 5, 6, 7, 8]) (.reg [oM 12 3, oM 13 5, oO 14 (.len 0) [.t 13], oO 15 (.binI .mul) [.t 12, .t 14], oM 3 15] [3, 6, 7, 8]))) (.reg [oO 16 (.binI .add) [.t 8, .c (.i .i64 1)], oM 8 16] [3, 6, 7, 8]))))

def l69_1 : DC := (.loop [3, 6, 7, 8] b69_0)

def c69 : DC := (.seq (.reg [oO 2 .mv [.c (.i .i64 0)]] [0]) (.seq (.reg [oO 3 .mv [.c (.i .i64 1)]] [0, 3]) (.seq (.seq (.reg [oM 6 0, oO 7 (.len 0) [.t 6], oO 8 .mv [.c (.i .i64 0)]] [3, 6, 7, 8]) (.block 0 l69_1)) (.seq (.reg [oM 17 3, oM 2 17] [2]) .ret))))

def d69 : DFun := ⟨1, 18, c69, [.t 2]⟩

theorem ok69 : Fok Try.prog 69 d69 := ⟨Try.f69, Try.func69, by kernel_rfl, by kernel_rfl⟩

def b70_0 : DC := (.reg [oM 14 3, oM 15 4, oM 16 5, oO 17 (.build [(.i .i64 0), (.i .i64 0)] [(0, 1), (1, 1)]) [.t 15, .t 16], oO 18 (.bsl true [(.i .i64 0), (.i .i64 0)] true 1 [0]) [.t 17], oO 19 (.app 2 true 16) [.t 14, .t 18], oM 3 19] [3, 8])

def z70_1 : DC := (.seq (.reg [oM 20 3, ⟨(some 21), (.call .so), [.c (.fn 96 [] []), .t 20, .c (.fn 97 [] [])], none⟩] [3]) (.seq (.reg [oM 22 3, oM 2 22] [2]) .ret))

def l70_2 : DC := (.mrange 8 9 10 0 1 11 [oM 11 11, oO 12 (.ext 0) [.t 11], oO 13 (.ext 1) [.t 11], oM 4 12, oM 5 13] [3, 4, 5, 8] b70_0 [3, 8] z70_1)

def c70 : DC := (.seq (.reg [oO 2 .mv [.c .nilsl]] [0]) (.seq (.reg [oO 3 .mv [.c .nilsl]] [0, 3]) (.seqr (.reg [oM 6 0, ⟨(some 7), (.call .sh), [.c (.fn 58 [] []), .t 6], none⟩, oO 8 .rngS [.t 7]] [3, 8]) l70_2)))

def d70 : DFun := ⟨1, 23, c70, [.t 2]⟩

theorem ok70 : Fok Try.prog 70 d70 := ⟨Try.f70, Try.func70, by kernel_rfl, by kernel_rfl⟩

def c75 : DC := (.seq (.reg [oO 4 .mv [.c (.b false)]] [0, 1]) (.seq (.reg [oM 5 0, oM 6 1, ⟨(some 7), (.call .sh), [.c (.fn 100 [] []), .t 5, .t 6], none⟩, oO 8 (.binI .geq) [.t 7, .c (.i .i64 0)], oM 4 8] [4]) .ret))

def d75 : DFun := ⟨2, 9, c75, [.t 4]⟩

theorem ok75 : Fok Try.prog 75 d75 := ⟨Try.f75, Try.func75, by kernel_rfl, by kernel_rfl⟩

def c76 : DC := (.seq (.reg [oO 2 .mv [.c (.b false)]] [0]) (.seq (.reg [oM 3 0, oO 4 (.len 0) [.t 3], oO 5 (.binI .gtr) [.t 4, .c (.i .i64 8)], oM 2 5] [2]) .ret))

def d76 : DFun := ⟨1, 6, c76, [.t 2]⟩

theorem ok76 : Fok Try.prog 76 d76 := ⟨Try.f76, Try.func76, by kernel_rfl, by kernel_rfl⟩

def c77 : DC := (.seq (.reg [oO 3 (.box false) [.t 1], oO 4 .mv [.c (.b false)]] [0, 3]) (.seq (.reg [oM 5 0, oO 6 (.mkfn 101 0) [.t 3], ⟨(some 7), (.call .sh), [.c (.fn 75 [] []), .t 5, .t 6], none⟩, oO 8 .notB [.t 7], oM 4 8] [4]) .ret))

def d77 : DFun := ⟨2, 9, c77, [.t 4]⟩

theorem ok77 : Fok Try.prog 77 d77 := ⟨Try.f77, Try.func77, by kernel_rfl, by kernel_rfl⟩

def c78 : DC := (.seq (.reg [oO 2 .mv [.c (.b false)]] [0]) (.seq (.reg [oM 3 0, oO 4 (.len 0) [.t 3], oO 5 (.binI .gtr) [.t 4, .c (.i .i64 0)], oM 6 5, oP 7 .mv [.t 0] 6 true, oP 8 (.ixS 1 false) [.t 7, .c (.i .i64 0)] 6 true, oP 9 (.ld 1 false) [.t 8] 6 true, oP 10 (.binI .geq) [.t 9, .c (.i .i64 0)] 6 true, oO 11 .pick [.t 6, .t 10, .c (.b false)], oM 12 11, oP 13 .mv [.t 0] 12 true, oP 14 .mv [.t 0] 12 true, oP 15 (.len 0) [.t 14] 12 true, oP 16 (.binI .sub) [.t 15, .c (.i .i64 1)] 12 true, oP 17 (.ixS 1 false) [.t 13, .t 16] 12 true, oP 18 (.ld 1 false) [.t 17] 12 true, oP 19 (.binI .leq) [.t 18, .c (.i .i64 60)] 12 true, oO 20 .pick [.t 12, .t 19, .c (.b false)], oM 21 20, oP 22 .mv [.t 0] 21 true, ⟨(some 23), (.call (.pu [])), [.c (.fn 102 [] []), .t 22], (some (21, true))⟩, oO 24 .pick [.t 21, .t 23, .c (.b false)], oM 2 24] [2]) .ret))

def d78 : DFun := ⟨1, 25, c78, [.t 2]⟩

theorem ok78 : Fok Try.prog 78 d78 := ⟨Try.f78, Try.func78, by kernel_rfl, by kernel_rfl⟩

def c79 : DC := (.seq (.reg [oO 2 (.box true) [.t 0], oO 3 (.box true) [.t 1], oO 4 .mv [.c (.i .i64 0)]] [2, 3]) (.seq (.seq (.reg [oO 6 (.ixA 2 1 false) [.t 2, .c (.i .i64 0)], oO 7 (.ld 1 false) [.t 6], oO 8 (.ixA 2 1 false) [.t 3, .c (.i .i64 0)], oO 9 (.ld 1 false) [.t 8], ⟨(some 10), (.call (.pu [])), [.c (.fn 80 [] []), .t 7, .t 9], none⟩, oM 5 10] [2, 3, 5]) (.seq (.reg [oM 11 5, oO 12 (.binI .neq) [.t 11, .c (.i .i64 0)]] [2, 3, 5, 12]) (.cond (.t 12) (.seq (.reg [oM 13 5, oM 4 13] [4]) .ret) .skip))) (.seq (.reg [oO 14 (.ixA 2 1 false) [.t 2, .c (.i .i64 1)], oO 15 (.ld 1 false) [.t 14], oO 16 (.ixA 2 1 false) [.t 3, .c (.i .i64 1)], oO 17 (.ld 1 false) [.t 16], ⟨(some 18), (.call (.pu [])), [.c (.fn 80 [] []), .t 15, .t 17], none⟩, oM 4 18] [4]) .ret)))

def d79 : DFun := ⟨2, 19, c79, [.t 4]⟩

theorem ok79 : Fok Try.prog 79 d79 := ⟨Try.f79, Try.func79, by kernel_rfl, by kernel_rfl⟩

def b80_0 : DC := (.seq (.reg [oO 12 (.binI .lss) [.t 11, .t 10]] [0, 1, 9, 10, 11, 12]) (.seq (.cond (.t 12) .skip (.exit 0)) (.seq (.block 1 (.seq (.reg [oM 13 11, oO 14 (.ixS 1 false) [.t 9, .t 11], oO 15 (.ld 1 false) [.t 14], oM 5 13, oM 6 15] [0, 1, 5, 6, 9, 10, 11]) (.seq (.seq (.reg [oM 16 5, oM 17 1, oO 18 (.len 0) [.t 17], oO 19 (.binI .geq) [.t 16, .t 18]] [0, 1, 5, 6, 9, 10, 11, 19]) (.cond (.t 19) (.seq (.reg [oO 4 .mv [.c (.i .i64 1)]] [4]) .ret) .skip)) (.seq (.reg [oM 20 1, oM 21 5, oO 22 (.ixS 1 false) [.t 20, .t 21], oO 23 (.ld 1 false) [.t 22], oM 7 23] [0, 1, 6, 7, 9, 10, 11]) (.seq (.reg [oM 24 6, oM 25 7, ⟨(some 26), (.call (.pu [])), [.c (.fn 103 [] []), .t 24, .t 25], none⟩, oM 8 26] [0, 1, 8, 9, 10, 11]) (.seq (.reg [oM 27 8, oO 28 (.binI .neq) [.t 27, .c (.i .i64 0)]] [0, 1, 8, 9, 10, 11, 28]) (.cond (.t 28) (.seq (.reg [oM 29 8, oM 4 29] [4]) .ret) .skip))))))) (.reg [oO 30 (.binI .add) [.t 11, .c (.i .i64 1)], oM 11 30] [0, 1, 9, 10, 11]))))

def l80_1 : DC := (.loop [0, 1, 9, 10, 11] b80_0)

def c80 : DC := (.seq (.reg [oO 4 .mv [.c (.i .i64 0)]] [0, 1]) (.seq (.seq (.reg [oM 9 0, oO 10 (.len 0) [.t 9], oO 11 .mv [.c (.i .i64 0)]] [0, 1, 9, 10, 11]) (.block 0 l80_1)) (.seq (.seq (.reg [oM 31 0, oO 32 (.len 0) [.t 31], oM 33 1, oO 34 (.len 0) [.t 33], oO 35 (.binI .lss) [.t 32, .t 34]] [35]) (.cond (.t 35) (.seq (.reg [oO 4 .mv [.c (.i .i64 (-1))]] [4]) .ret) .skip)) (.seq (.reg [oO 4 .mv [.c (.i .i64 0)]] [4]) .ret))))

def d80 : DFun := ⟨2, 36, c80, [.t 4]⟩

theorem ok80 : Fok Try.prog 80 d80 := ⟨Try.f80, Try.func80, by kernel_rfl, by kernel_rfl⟩

def b82_0 : DC := (.seq (.seq (.reg [oM 32 7, oM 33 6, oO 34 (.len 0) [.t 33], oO 35 (.binI .lss) [.t 32, .t 34]] [0, 1, 5, 6, 7, 35]) (.cond (.t 35) .skip (.exit 2))) (.seq (.block 3 (.seq (.reg [oM 38 1, oM 39 6, oM 40 7, oO 41 (.ixS 2 true) [.t 39, .t 40], oO 42 (.ld 2 true) [.t 41], oM 43 6, oM 44 7, oO 45 (.binI .sub) [.t 44, .c (.i .i64 1)], oO 46 (.ixS 2 true) [.t 43, .t 45], oO 47 (.ld 2 true) [.t 46], oO 48 (.call .sh) [.t 38, .t 42, .t 47], oO 49 .notB [.t 48]] [0, 1, 5, 6, 7, 49]) (.cond (.t 49) (.seq (.reg [oM 50 0, oM 51 5, oM 52 6, oM 53 7, oO 54 (.ixS 2 true) [.t 52, .t 53], oO 55 (.ld 2 true) [.t 54], oO 56 (.ixS 2 true) [.t 50, .t 51], ⟨none, (.st 2), [.t 56, .t 55], none⟩] [0, 1, 5, 6, 7]) (.reg [oM 57 5, oO 58 (.binI .add) [.t 57, .c (.i .i64 1)], oM 5 58] [0, 1, 5, 6, 7])) .skip))) (.reg [oM 36 7, oO 37 (.binI .add) [.t 36, .c (.i .i64 1)], oM 7 37] [0, 1, 5, 6, 7])))

def l82_1 : DC := (.loop [0, 1, 5, 6, 7] b82_0)

def b82_2 : DC := (.seq (.seq (.reg [oM 12 5, oM 13 0, oO 14 (.len 0) [.t 13], oO 15 (.binI .lss) [.t 12, .t 14]] [0, 1, 5, 15]) (.cond (.t 15) .skip (.exit 0))) (.seq (.block 1 (.seq (.reg [oM 18 1, oM 19 0, oM 20 5, oO 21 (.ixS 2 true) [.t 19, .t 20], oO 22 (.ld 2 true) [.t 21], oM 23 0, oM 24 5, oO 25 (.binI .sub) [.t 24, .c (.i .i64 1)], oO 26 (.ixS 2 true) [.t 23, .t 25], oO 27 (.ld 2 true) [.t 26], oO 28 (.call .sh) [.t 18, .t 22, .t 27]] [0, 1, 5, 28]) (.cond (.t 28) (.seq (.reg [oM 29 0, oM 30 5, oO 31 (.slc true false false 2 true) [.t 29, .t 30], oM 6 31] [0, 1, 5, 6]) (.seq (.seq (.reg [oO 7 .mv [.c (.i .i64 1)]] [0, 1, 5, 6, 7]) (.block 2 l82_1)) (.seq (.reg [oM 59 0, oM 60 5, oO 61 (.slc true false false 2 true) [.t 59, .t 60], ⟨none, (.clr [.nilsl, .nilsl]), [.t 61], none⟩] [0, 5]) (.seq (.reg [oM 62 0, oM 63 5, oO 64 (.slc false true false 2 true) [.t 62, .t 63], oM 4 64] [4]) .ret)))) .skip))) (.reg [oM 16 5, oO 17 (.binI .add) [.t 16, .c (.i .i64 1)], oM 5 17] [0, 1, 5])))

def l82_3 : DC := (.loop [0, 1, 5] b82_2)

def c82 : DC := (.seq (.reg [oO 4 .mv [.c .nilsl]] [0, 1]) (.seq (.seq (.reg [oM 8 0, oO 9 (.len 0) [.t 8], oO 10 (.binI .lss) [.t 9, .c (.i .i64 2)]] [0, 1, 10]) (.cond (.t 10) (.seq (.reg [oM 11 0, oM 4 11] [4]) .ret) .skip)) (.seq (.seq (.reg [oO 5 .mv [.c (.i .i64 1)]] [0, 1, 5]) (.block 0 l82_3)) (.seq (.reg [oM 65 0, oM 4 65] [4]) .ret))))

def d82 : DFun := ⟨2, 66, c82, [.t 4]⟩

theorem ok82 : Fok Try.prog 82 d82 := ⟨Try.f82, Try.func82, by kernel_rfl, by kernel_rfl⟩

def c83 : DC := (.seq (.reg [oO 3 (.box true) [.t 0], oO 4 (.box true) [.t 1], oO 5 .mv [.c (.b false)]] [2, 3, 4]) (.seq (.reg [oO 6 (.ld 1 false) [.t 2], oO 7 (.ld 2 true) [.t 3], oO 8 (.ld 2 true) [.t 4], oO 9 (.call .sh) [.t 6, .t 7, .t 8], oO 10 (.binI .eql) [.t 9, .c (.i .i64 0)], oM 5 10] [5]) .ret))

def d83 : DFun := ⟨3, 11, c83, [.t 5]⟩

theorem ok83 : Fok Try.prog 83 d83 := ⟨Try.f83, Try.func83, by kernel_rfl, by kernel_rfl⟩

def b84_0 : DC := (.reg [oO 23 (.ld 1 false) [.t 7], oM 24 8, oM 25 9, ⟨none, .setS, [.t 23, .t 24, .t 25], none⟩] [2, 3, 4, 5, 6, 7, 17])

def z84_1 : DC := (.seq (.reg [oO 26 (.mkfn 85 0) [.t 7], oO 10 (.alloc [.nilfn] false) [], ⟨none, (.st 1), [.t 10, .t 26], none⟩] [2, 3, 4, 5, 6, 7, 10]) (.seq (.reg [oO 27 (.mkfn 86 0) [.t 7], oO 11 (.alloc [.nilfn] false) [], ⟨none, (.st 1), [.t 11, .t 27], none⟩] [2, 3, 4, 5, 6, 7, 10, 11]) (.seq (.regd [oO 28 (.ld 1 false) [.t 2], oO 29 (.bsl false [(.i .i64 0)] false 1 [0]) [.t 28], oO 30 (.ld 1 false) [.t 3], oO 31 (.bsl false [(.i .i64 0)] false 1 [0]) [.t 30], oO 12 (.alloc [.nilsl] false) [], oO 13 (.alloc [.nilsl] false) [], ⟨none, (.st 1), [.t 12, .t 29], none⟩, ⟨none, (.st 1), [.t 13, .t 31], none⟩] [2, 3, 4, 5, 6, 7, 10, 11, 12, 13] [(6, 2), (6, 3)]) (.seq (.seq (.reg [oO 32 (.ld 1 false) [.t 10], oO 33 (.ld 1 false) [.t 2], oO 34 (.ld 1 false) [.t 13], oO 35 (.call .sh) [.t 32, .t 33, .t 34], oO 36 .notB [.t 35]] [2, 3, 4, 5, 6, 7, 10, 11, 12, 13, 36]) (.cond (.t 36) .ret .skip)) (.seq (.reg [oO 14 (.alloc [.nilfn] false) []] [2, 3, 4, 5, 6, 7, 10, 11, 12, 13, 14]) (.seq (.reg [oO 37 (.mkfn 87 0) [.t 7, .t 12, .t 4, .t 13, .t 5, .t 6, .t 3, .t 10, .t 14, .t 11, .t 2], ⟨none, (.st 1), [.t 14, .t 37], none⟩] [14]) (.reg [oO 38 (.ld 1 false) [.t 14], oO 39 (.call .sh) [.t 38]] [])))))))

def l84_2 : DC := (.mrange 17 18 19 0 1 20 [oM 20 20, oO 21 (.ext 0) [.t 20], oO 22 (.ext 1) [.t 20], oM 8 21, oM 9 22] [2, 3, 4, 5, 6, 7, 8, 9, 17] b84_0 [2, 3, 4, 5, 6, 7, 17] z84_1)

def c84 : DC := (.seq (.reg [oO 6 (.box false) [.t 0]] [1, 2, 3, 4, 5, 6]) (.seq (.reg [oO 15 .mkS [], oO 7 (.alloc [.nilmap] false) [], ⟨none, (.st 1), [.t 7, .t 15], none⟩] [1, 2, 3, 4, 5, 6, 7]) (.seqr (.reg [oO 16 (.ld 1 false) [.t 1], oO 17 .rngS [.t 16]] [2, 3, 4, 5, 6, 7, 17]) l84_2)))

def d84 : DFun := ⟨6, 40, c84, []⟩

theorem ok84 : Fok Try.prog 84 d84 := ⟨Try.f84, Try.func84, by kernel_rfl, by kernel_rfl⟩

def b85_0 : DC := (.seq (.reg [oO 28 (.binI .lss) [.t 27, .t 26]] [0, 2, 25, 26, 27, 28]) (.seq (.cond (.t 28) .skip (.exit 2)) (.seq (.block 3 (.seq (.reg [oO 29 (.ixS 1 false) [.t 25, .t 27], oO 30 (.ld 1 false) [.t 29], oM 9 30] [0, 2, 9, 25, 26, 27]) (.reg [oO 31 (.ld 1 false) [.t 2], oM 32 0, oM 33 9, oO 34 (.binI .add) [.t 32, .t 33], oO 35 (.lkS (.i .i64 0) false) [.t 31, .t 34], oO 36 (.binI .add) [.t 35, .c (.i .i64 1)], ⟨none, .setS, [.t 31, .t 34, .t 36], none⟩] [0, 2, 25, 26, 27]))) (.reg [oO 37 (.binI .add) [.t 27, .c (.i .i64 1)], oM 27 37] [0, 2, 25, 26, 27]))))

def l85_1 : DC := (.loop [0, 2, 25, 26, 27] b85_0)

def b85_2 : DC := (.seq (.reg [oO 13 (.binI .lss) [.t 12, .t 11]] [0, 1, 2, 10, 11, 12, 13]) (.seq (.cond (.t 13) .skip (.exit 0)) (.seq (.block 1 (.seq (.reg [oM 14 12, oO 15 (.ixS 1 false) [.t 10, .t 12], oO 16 (.ld 1 false) [.t 15], oM 6 14, oM 7 16] [0, 1, 2, 6, 7, 10, 11, 12]) (.seq (.seq (.reg [oO 17 (.ld 1 false) [.t 2], oM 18 0, oM 19 7, oO 20 (.binI .add) [.t 18, .t 19], oO 21 (.lkS (.i .i64 0) false) [.t 17, .t 20], oO 22 (.binI .eql) [.t 21, .c (.i .i64 0)]] [0, 1, 2, 6, 7, 10, 11, 12, 22]) (.cond (.t 22) (.seq (.seq (.reg [oM 23 1, oM 24 6, oO 25 (.slc false true false 1 false) [.t 23, .t 24], oO 26 (.len 0) [.t 25], oO 27 .mv [.c (.i .i64 0)]] [0, 2, 25, 26, 27]) (.block 2 l85_1)) (.seq (.reg [oO 5 .mv [.c (.b false)]] [5]) .ret)) .skip)) (.reg [oO 38 (.ld 1 false) [.t 2], oM 39 0, oM 40 7, oO 41 (.binI .add) [.t 39, .t 40], oO 42 (.lkS (.i .i64 0) false) [.t 38, .t 41], oO 43 (.binI .sub) [.t 42, .c (.i .i64 1)], ⟨none, .setS, [.t 38, .t 41, .t 43], none⟩] [0, 1, 2, 10, 11, 12])))) (.reg [oO 44 (.binI .add) [.t 12, .c (.i .i64 1)], oM 12 44] [0, 1, 2, 10, 11, 12]))))

def l85_3 : DC := (.loop [0, 1, 2, 10, 11, 12] b85_2)

def c85 : DC := (.seq (.reg [oO 5 .mv [.c (.b false)]] [0, 1, 2]) (.seq (.seq (.reg [oM 10 1, oO 11 (.len 0) [.t 10], oO 12 .mv [.c (.i .i64 0)]] [0, 1, 2, 10, 11, 12]) (.block 0 l85_3)) (.seq (.reg [oO 5 .mv [.c (.b true)]] [5]) .ret)))

def d85 : DFun := ⟨3, 45, c85, [.t 5]⟩

theorem ok85 : Fok Try.prog 85 d85 := ⟨Try.f85, Try.func85, by kernel_rfl, by kernel_rfl⟩

def b86_0 : DC := (.seq (.reg [oO 10 (.binI .lss) [.t 9, .t 8]] [0, 2, 7, 8, 9, 10]) (.seq (.cond (.t 10) .skip (.exit 0)) (.seq (.block 1 (.seq (.reg [oO 11 (.ixS 1 false) [.t 7, .t 9], oO 12 (.ld 1 false) [.t 11], oM 6 12] [0, 2, 6, 7, 8, 9]) (.reg [oO 13 (.ld 1 false) [.t 2], oM 14 0, oM 15 6, oO 16 (.binI .add) [.t 14, .t 15], oO 17 (.lkS (.i .i64 0) false) [.t 13, .t 16], oO 18 (.binI .add) [.t 17, .c (.i .i64 1)], ⟨none, .setS, [.t 13, .t 16, .t 18], none⟩] [0, 2, 7, 8, 9]))) (.reg [oO 19 (.binI .add) [.t 9, .c (.i .i64 1)], oM 9 19] [0, 2, 7, 8, 9]))))

def l86_1 : DC := (.loop [0, 2, 7, 8, 9] b86_0)

def c86 : DC := (.seq (.reg [oM 7 1, oO 8 (.len 0) [.t 7], oO 9 .mv [.c (.i .i64 0)]] [0, 2, 7, 8, 9]) (.block 0 l86_1))

def d86 : DFun := ⟨3, 20, c86, []⟩

theorem ok86 : Fok Try.prog 86 d86 := ⟨Try.f86, Try.func86, by kernel_rfl, by kernel_rfl⟩

def b87_0 : DC := (.seq (.reg [oM 27 15, oO 28 (.binI .gtr) [.t 27, .c (.i .i64 0)], oM 29 28, oP 30 .mv [.t 13] 29 true, oP 31 .notB [.t 30] 29 true, oP 32 .mv [.t 31] 29 true, oP 33 .mv [.t 14] 32 false, oP 34 .mv [.t 12] 32 false, oP 35 (.binI .lss) [.t 33, .t 34] 32 false, oP 36 .pick [.t 32, .c (.b true), .t 35] 29 true, oO 37 .pick [.t 29, .t 36, .c (.b false)]] [1, 2, 3, 4, 5, 6, 7, 8, 9, 10, 12, 13, 14, 21, 37]) (.cond (.t 37) (.reg [oM 38 14, oM 12 38, oO 13 .mv [.c (.b true)]] [1, 2, 3, 4, 5, 6, 7, 8, 9, 10, 12, 13, 21]) .skip))

def z87_1 : DC := (.seq (.seq (.reg [oM 39 13, oO 40 .notB [.t 39]] [1, 2, 3, 4, 5, 6, 7, 8, 9, 10, 12, 40]) (.cond (.t 40) (.seq (.regd [oO 41 (.ld 1 false) [.t 1], oO 42 (.len 0) [.t 41], oO 43 (.ld 1 false) [.t 2], oO 44 (.binI .lss) [.t 42, .t 43], oM 45 44, oP 46 (.ld 1 false) [.t 3] 45 false, oP 47 (.len 0) [.t 46] 45 false, oP 48 (.ld 1 false) [.t 4] 45 false, oP 49 (.binI .lss) [.t 47, .t 48] 45 false, oO 50 .pick [.t 45, .c (.b true), .t 49], oM 51 50, oP 52 (.ld 1 false) [.t 5] 51 false, oP 53 (.ld 1 false) [.t 1] 51 false, ⟨(some 54), (.call .sh), [.c (.fn 88 [] []), .t 53], (some (51, false))⟩, oP 55 (.ld 1 false) [.t 3] 51 false, ⟨(some 56), (.call .sh), [.c (.fn 88 [] []), .t 55], (some (51, false))⟩, oP 57 (.call .sh) [.t 52, .t 54, .t 56] 51 false, oO 58 .pick [.t 51, .c (.b true), .t 57], oM 11 58] [11] [(13, 11), (13, 14), (15, 11)]) .ret) .skip)) (.seq (.seq (.reg [oM 59 12, oO 60 (.ld 1 false) [.t 6], oO 61 (.binI .sub) [.t 59, .t 60], oM 16 61] [1, 2, 3, 4, 7, 8, 9, 10, 12, 16]) (.seq (.reg [oO 62 (.ld 1 false) [.t 1], oO 63 (.len 0) [.t 62], oO 64 (.ld 1 false) [.t 2], oO 65 (.binI .lss) [.t 63, .t 64], oM 66 65, oP 67 .mv [.t 16] 66 true, oP 68 (.ld 1 false) [.t 1] 66 true, oP 69 (.ld 1 false) [.t 1] 66 true, oP 70 (.len 0) [.t 69] 66 true, oP 71 (.binI .sub) [.t 70, .c (.i .i64 1)] 66 true, oP 72 (.ixS 1 false) [.t 68, .t 71] 66 true, oP 73 (.ld 1 false) [.t 72] 66 true, oP 74 (.binI .geq) [.t 67, .t 73] 66 true, oO 75 .pick [.t 66, .t 74, .c (.b false)], oM 76 75, oP 77 .mv [.t 16] 76 true, oP 78 (.binI .leq) [.t 77, .c (.i .i64 60)] 76 true, oO 79 .pick [.t 76, .t 78, .c (.b false)], oM 80 79, oP 81 (.ld 1 false) [.t 7] 80 true, oP 82 .mv [.t 16] 80 true, oP 83 (.ld 1 false) [.t 3] 80 true, oP 84 (.call .sh) [.t 81, .t 82, .t 83] 80 true, oO 85 .pick [.t 80, .t 84, .c (.b false)]] [1, 3, 4, 7, 8, 9, 10, 12, 16, 85]) (.cond (.t 85) (.seq (.reg [oO 86 (.ld 1 false) [.t 1], oM 87 16, oO 88 (.bsl false [(.i .i64 0)] false 1 [0]) [.t 87], oO 89 (.app 1 false 8) [.t 86, .t 88], ⟨none, (.st 1), [.t 1, .t 89], none⟩] [1, 3, 4, 7, 8, 9, 10, 12, 16]) (.seq (.reg [oO 90 (.ld 1 false) [.t 8], oO 91 (.call .sh) [.t 90], oM 17 91] [1, 3, 4, 7, 8, 9, 10, 12, 16, 17]) (.seq (.reg [oO 92 (.ld 1 false) [.t 1], oO 93 (.ld 1 false) [.t 1], oO 94 (.len 0) [.t 93], oO 95 (.binI .sub) [.t 94, .c (.i .i64 1)], oO 96 (.slc false true false 1 false) [.t 92, .t 95], ⟨none, (.st 1), [.t 1, .t 96], none⟩] [1, 3, 4, 7, 8, 9, 10, 12, 16, 17]) (.seq (.reg [oO 97 (.ld 1 false) [.t 9], oM 98 16, oO 99 (.ld 1 false) [.t 3], oO 100 (.call .sh) [.t 97, .t 98, .t 99]] [1, 3, 4, 7, 8, 9, 10, 12, 17]) (.seq (.reg [oM 101 17, oO 102 .notB [.t 101]] [1, 3, 4, 7, 8, 9, 10, 12, 102]) (.cond (.t 102) (.seq (.reg [oO 11 .mv [.c (.b false)]] [11]) .ret) .skip)))))) .skip))) (.seq (.seq (.reg [oM 103 12, oO 104 (.ld 1 false) [.t 10], oO 105 (.binI .sub) [.t 103, .t 104], oM 18 105] [1, 3, 4, 7, 8, 9, 18]) (.seq (.reg [oO 106 (.ld 1 false) [.t 3], oO 107 (.len 0) [.t 106], oO 108 (.ld 1 false) [.t 4], oO 109 (.binI .lss) [.t 107, .t 108], oM 110 109, oP 111 .mv [.t 18] 110 true, oP 112 (.ld 1 false) [.t 3] 110 true, oP 113 (.ld 1 false) [.t 3] 110 true, oP 114 (.len 0) [.t 113] 110 true, oP 115 (.binI .sub) [.t 114, .c (.i .i64 1)] 110 true, oP 116 (.ixS 1 false) [.t 112, .t 115] 110 true, oP 117 (.ld 1 false) [.t 116] 110 true, oP 118 (.binI .geq) [.t 111, .t 117] 110 true, oO 119 .pick [.t 110, .t 118, .c (.b false)], oM 120 119, oP 121 .mv [.t 18] 120 true, oP 122 (.binI .leq) [.t 121, .c (.i .i64 60)] 120 true, oO 123 .pick [.t 120, .t 122, .c (.b false)], oM 124 123, oP 125 (.ld 1 false) [.t 7] 124 true, oP 126 .mv [.t 18] 124 true, oP 127 (.ld 1 false) [.t 1] 124 true, oP 128 (.call .sh) [.t 125, .t 126, .t 127] 124 true, oO 129 .pick [.t 124, .t 128, .c (.b false)]] [1, 3, 8, 9, 18, 129]) (.cond (.t 129) (.seq (.reg [oO 130 (.ld 1 false) [.t 3], oM 131 18, oO 132 (.bsl false [(.i .i64 0)] false 1 [0]) [.t 131], oO 133 (.app 1 false 8) [.t 130, .t 132], ⟨none, (.st 1), [.t 3, .t 133], none⟩] [1, 3, 8, 9, 18]) (.seq (.reg [oO 134 (.ld 1 false) [.t 8], oO 135 (.call .sh) [.t 134], oM 19 135] [1, 3, 9, 18, 19]) (.seq (.reg [oO 136 (.ld 1 false) [.t 3], oO 137 (.ld 1 false) [.t 3], oO 138 (.len 0) [.t 137], oO 139 (.binI .sub) [.t 138, .c (.i .i64 1)], oO 140 (.slc false true false 1 false) [.t 136, .t 139], ⟨none, (.st 1), [.t 3, .t 140], none⟩] [1, 9, 18, 19]) (.seq (.reg [oO 141 (.ld 1 false) [.t 9], oM 142 18, oO 143 (.ld 1 false) [.t 1], oO 144 (.call .sh) [.t 141, .t 142, .t 143]] [19]) (.seq (.reg [oM 145 19, oO 146 .notB [.t 145]] [146]) (.cond (.t 146) (.seq (.reg [oO 11 .mv [.c (.b false)]] [11]) .ret) .skip)))))) .skip))) (.seq (.reg [oO 11 .mv [.c (.b true)]] [11]) .ret))))

def l87_2 : DC := (.mrange 21 22 23 0 1 24 [oM 24 24, oO 25 (.ext 0) [.t 24], oO 26 (.ext 1) [.t 24], oM 14 25, oM 15 26] [1, 2, 3, 4, 5, 6, 7, 8, 9, 10, 12, 13, 14, 15, 21] b87_0 [1, 2, 3, 4, 5, 6, 7, 8, 9, 10, 12, 13, 21] z87_1)

def c87 : DC := (.seq (.reg [oO 11 .mv [.c (.b false)]] [0, 1, 2, 3, 4, 5, 6, 7, 8, 9, 10]) (.seq (.reg [oO 12 .mv [.c (.i .i64 0)], oO 13 .mv [.c (.b false)]] [0, 1, 2, 3, 4, 5, 6, 7, 8, 9, 10, 12, 13]) (.seqr (.reg [oO 20 (.ld 1 false) [.t 0], oO 21 .rngS [.t 20]] [1, 2, 3, 4, 5, 6, 7, 8, 9, 10, 12, 13, 21]) l87_2)))

def d87 : DFun := ⟨11, 147, c87, [.t 11]⟩

theorem ok87 : Fok Try.prog 87 d87 := ⟨Try.f87, Try.func87, by kernel_rfl, by kernel_rfl⟩

def c88 : DC := (.seq (.reg [oO 2 .mv [.c .nilsl]] [0]) (.seq (.seq (.reg [oM 3 0, oO 4 (.eqN 0 false) [.t 3, .c .nilsl]] [0, 4]) (.cond (.t 4) (.seq (.reg [oO 2 .mv [.c .nilsl]] [2]) .ret) .skip)) (.seq (.reg [oO 5 (.bsl false [(.i .i64 0)] false 0 []) [], oM 6 0, oO 7 (.app 1 false 8) [.t 5, .t 6], oM 2 7] [2]) .ret)))

def d88 : DFun := ⟨1, 8, c88, [.t 2]⟩

theorem ok88 : Fok Try.prog 88 d88 := ⟨Try.f88, Try.func88, by kernel_rfl, by kernel_rfl⟩

def b90_0 : DC := (.seq (.reg [oO 40 (.binI .lss) [.t 39, .t 38]] [0, 1, 2, 5, 6, 37, 38, 39, 40]) (.seq (.cond (.t 40) .skip (.exit 0)) (.seq (.block 1 (.seq (.reg [oM 41 39, oO 42 (.ixS 1 false) [.t 37, .t 39], oO 43 (.ld 1 false) [.t 42], oM 9 41, oM 10 43] [0, 1, 2, 5, 6, 9, 10, 37, 38, 39]) (.seq (.reg [oM 44 10, oM 45 44, oP 46 (.ld 1 false) [.t 5] 45 true, oP 47 .mv [.t 9] 45 true, oP 48 (.call .sh) [.t 46, .t 47] 45 true, oP 49 .notB [.t 48] 45 true, oO 50 .pick [.t 45, .t 49, .c (.b false)]] [0, 1, 2, 5, 6, 37, 38, 39, 50]) (.cond (.t 50) (.seq (.reg [oO 8 .mv [.c (.b false)]] [8]) .ret) .skip)))) (.reg [oO 51 (.binI .add) [.t 39, .c (.i .i64 1)], oM 39 51] [0, 1, 2, 5, 6, 37, 38, 39]))))

def l90_1 : DC := (.loop [0, 1, 2, 5, 6, 37, 38, 39] b90_0)

def c90 : DC := (.seq (.reg [oO 8 .mv [.c (.b false)]] [0, 1, 2, 3, 4, 5, 6]) (.seq (.seq (.reg [oO 11 (.ld 1 false) [.t 1], oM 12 0, oO 13 (.ixS 1 false) [.t 11, .t 12], oO 14 (.ld 1 false) [.t 13], oO 15 (.binI .eql) [.t 14, .c (.i .i64 1)]] [0, 1, 2, 3, 4, 5, 6, 15]) (.cond (.t 15) (.seq (.reg [oO 16 (.ld 1 false) [.t 2], oO 17 (.ld 1 false) [.t 2], oM 18 0, ⟨(some 19), (.call (.pu [])), [.c (.fn 91 [] []), .t 17, .t 18], none⟩, oO 20 (.slc true false false 1 false) [.t 16, .t 19], ⟨(some 21), (.call (.pu [])), [.c (.fn 88 [] []), .t 20], none⟩, ⟨none, (.st 1), [.t 3, .t 21], none⟩] []) (.seq (.reg [oO 8 .mv [.c (.b false)]] [8]) .ret)) .skip)) (.seq (.seq (.reg [oO 22 (.ld 1 false) [.t 1], oM 23 0, oO 24 (.ixS 1 false) [.t 22, .t 23], oO 25 (.ld 1 false) [.t 24], oO 26 (.binI .eql) [.t 25, .c (.i .i64 2)]] [0, 1, 2, 4, 5, 6, 26]) (.cond (.t 26) (.seq (.reg [oO 8 .mv [.c (.b true)]] [8]) .ret) .skip)) (.seq (.reg [oO 27 (.ld 1 false) [.t 1], oM 28 0, oO 29 (.ixS 1 false) [.t 27, .t 28], ⟨none, (.st 1), [.t 29, .c (.i .i64 1)], none⟩] [0, 1, 2, 4, 5, 6]) (.seq (.reg [oO 30 (.ld 1 false) [.t 2], oM 31 0, oO 32 (.bsl false [(.i .i64 0)] false 1 [0]) [.t 31], oO 33 (.app 1 false 8) [.t 30, .t 32], ⟨none, (.st 1), [.t 2, .t 33], none⟩] [0, 1, 2, 4, 5, 6]) (.seq (.seq (.reg [oO 34 (.ld 1 false) [.t 4], oM 35 0, oO 36 (.ixS 1 false) [.t 34, .t 35], oO 37 (.ld 1 false) [.t 36], oO 38 (.len 0) [.t 37], oO 39 .mv [.c (.i .i64 0)]] [0, 1, 2, 5, 6, 37, 38, 39]) (.block 0 l90_1)) (.seq (.reg [oO 52 (.ld 1 false) [.t 2], oO 53 (.ld 1 false) [.t 2], oO 54 (.len 0) [.t 53], oO 55 (.binI .sub) [.t 54, .c (.i .i64 1)], oO 56 (.slc false true false 1 false) [.t 52, .t 55], ⟨none, (.st 1), [.t 2, .t 56], none⟩] [0, 1, 6]) (.seq (.reg [oO 57 (.ld 1 false) [.t 1], oM 58 0, oO 59 (.ixS 1 false) [.t 57, .t 58], ⟨none, (.st 1), [.t 59, .c (.i .i64 2)], none⟩] [0, 6]) (.seq (.reg [oO 60 (.ld 1 false) [.t 6], oM 61 0, oO 62 (.bsl false [(.i .i64 0)] false 1 [0]) [.t 61], oO 63 (.app 1 false 8) [.t 60, .t 62], ⟨none, (.st 1), [.t 6, .t 63], none⟩] []) (.seq (.reg [oO 8 .mv [.c (.b true)]] [8]) .ret))))))))))

def d90 : DFun := ⟨7, 64, c90, [.t 8]⟩

theorem ok90 : Fok Try.prog 90 d90 := ⟨Try.f90, Try.func90, by kernel_rfl, by kernel_rfl⟩

def b91_0 : DC := (.seq (.reg [oO 9 (.binI .lss) [.t 8, .t 7]] [0, 1, 7, 8, 9]) (.seq (.cond (.t 9) .skip (.exit 0)) (.seq (.block 1 (.seq (.reg [oM 10 8, oM 5 10] [0, 1, 5, 7, 8]) (.seq (.reg [oM 11 1, oM 12 0, oM 13 5, oO 14 (.ixS 1 false) [.t 12, .t 13], oO 15 (.ld 1 false) [.t 14], oO 16 (.binI .eql) [.t 11, .t 15]] [0, 1, 5, 7, 8, 16]) (.cond (.t 16) (.seq (.reg [oM 17 5, oM 4 17] [4]) .ret) .skip)))) (.reg [oO 18 (.binI .add) [.t 8, .c (.i .i64 1)], oM 8 18] [0, 1, 7, 8]))))

def l91_1 : DC := (.loop [0, 1, 7, 8] b91_0)

def c91 : DC := (.seq (.reg [oO 4 .mv [.c (.i .i64 0)]] [0, 1]) (.seq (.seq (.reg [oM 6 0, oO 7 (.len 0) [.t 6], oO 8 .mv [.c (.i .i64 0)]] [0, 1, 7, 8]) (.block 0 l91_1)) (.seq (.reg [oO 4 .mv [.c (.i .i64 (-1))]] [4]) .ret)))

def d91 : DFun := ⟨2, 19, c91, [.t 4]⟩

theorem ok91 : Fok Try.prog 91 d91 := ⟨Try.f91, Try.func91, by kernel_rfl, by kernel_rfl⟩

def b92_0 : DC := (.seq (.seq (.reg [oM 7 2, oM 8 3, oO 9 (.binI .lss) [.t 7, .t 8]] [0, 2, 3, 9]) (.cond (.t 9) .skip (.exit 0))) (.seq (.block 1 (.reg [oM 14 0, oM 15 2, oM 16 0, oM 17 3, oM 18 0, oM 19 3, oO 20 (.ixS 1 false) [.t 18, .t 19], oO 21 (.ld 1 false) [.t 20], oM 22 0, oM 23 2, oO 24 (.ixS 1 false) [.t 22, .t 23], oO 25 (.ld 1 false) [.t 24], oO 26 (.ixS 1 false) [.t 14, .t 15], ⟨none, (.st 1), [.t 26, .t 21], none⟩, oO 27 (.ixS 1 false) [.t 16, .t 17], ⟨none, (.st 1), [.t 27, .t 25], none⟩] [0, 2, 3])) (.reg [oM 10 2, oO 11 (.binI .add) [.t 10, .c (.i .i64 1)], oM 12 3, oO 13 (.binI .sub) [.t 12, .c (.i .i64 1)], oM 2 11, oM 3 13] [0, 2, 3])))

def l92_1 : DC := (.loop [0, 2, 3] b92_0)

def c92 : DC := (.seq (.reg [oM 4 0, oO 5 (.len 0) [.t 4], oO 6 (.binI .sub) [.t 5, .c (.i .i64 1)], oO 2 .mv [.c (.i .i64 0)], oM 3 6] [0, 2, 3]) (.block 0 l92_1))

def d92 : DFun := ⟨1, 28, c92, []⟩

theorem ok92 : Fok Try.prog 92 d92 := ⟨Try.f92, Try.func92, by kernel_rfl, by kernel_rfl⟩

def c93 : DC := (.seq (.reg [oO 2 (.box false) [.t 0]] [1, 2]) (.seq (.reg [oO 3 (.alloc [.nilsl] false) []] [1, 2, 3]) (.seq (.reg [oO 4 (.alloc [.nilfn] false) []] [1, 2, 3, 4]) (.seq (.reg [oO 5 (.mkfn 94 0) [.t 3, .t 1, .t 2, .t 4], ⟨none, (.st 1), [.t 4, .t 5], none⟩] [4]) (.reg [oO 6 (.ld 1 false) [.t 4], oO 7 (.call .sh) [.t 6]] [])))))

def d93 : DFun := ⟨2, 8, c93, []⟩

theorem ok93 : Fok Try.prog 93 d93 := ⟨Try.f93, Try.func93, by kernel_rfl, by kernel_rfl⟩

def b94_0 : DC := (.seq (.reg [oO 16 (.binI .lss) [.t 15, .t 14]] [0, 3, 14, 15, 16]) (.seq (.cond (.t 16) .skip (.exit 0)) (.seq (.block 1 (.seq (.reg [oM 17 15, oM 5 17] [0, 3, 5, 14, 15]) (.seq (.seq (.reg [oO 18 (.ld 1 false) [.t 0], oM 19 5, ⟨(some 20), (.call (.pu [])), [.c (.fn 95 [] []), .t 18, .t 19], none⟩] [0, 3, 5, 14, 15, 20]) (.cond (.t 20) (.exit 1) .skip)) (.seq (.reg [oO 21 (.ld 1 false) [.t 0], oM 22 5, oO 23 (.bsl false [(.i .i64 0)] false 1 [0]) [.t 22], oO 24 (.app 1 false 8) [.t 21, .t 23], ⟨none, (.st 1), [.t 0, .t 24], none⟩] [0, 3, 14, 15]) (.seq (.seq (.reg [oO 25 (.ld 1 false) [.t 3], oO 26 (.call .sh) [.t 25], oO 27 .notB [.t 26]] [0, 3, 14, 15, 27]) (.cond (.t 27) (.seq (.reg [oO 4 .mv [.c (.b false)]] [4]) .ret) .skip)) (.reg [oO 28 (.ld 1 false) [.t 0], oO 29 (.ld 1 false) [.t 0], oO 30 (.len 0) [.t 29], oO 31 (.binI .sub) [.t 30, .c (.i .i64 1)], oO 32 (.slc false true false 1 false) [.t 28, .t 31], ⟨none, (.st 1), [.t 0, .t 32], none⟩] [0, 3, 14, 15])))))) (.reg [oO 33 (.binI .add) [.t 15, .c (.i .i64 1)], oM 15 33] [0, 3, 14, 15]))))

def l94_1 : DC := (.loop [0, 3, 14, 15] b94_0)

def c94 : DC := (.seq (.reg [oO 4 .mv [.c (.b false)]] [0, 1, 2, 3]) (.seq (.seq (.reg [oO 6 (.ld 1 false) [.t 0], oO 7 (.len 0) [.t 6], oO 8 (.ld 1 false) [.t 1], oO 9 (.binI .eql) [.t 7, .t 8]] [0, 1, 2, 3, 9]) (.cond (.t 9) (.seq (.reg [oO 10 (.ld 1 false) [.t 2], oO 11 (.ld 1 false) [.t 0], ⟨(some 12), (.call (.pu [])), [.c (.fn 88 [] []), .t 11], none⟩, oO 13 (.call .sh) [.t 10, .t 12], oM 4 13] [4]) .ret) .skip)) (.seq (.seq (.reg [oO 14 (.ld 1 false) [.t 1], oO 15 .mv [.c (.i .i64 0)]] [0, 3, 14, 15]) (.block 0 l94_1)) (.seq (.reg [oO 4 .mv [.c (.b true)]] [4]) .ret))))

def d94 : DFun := ⟨4, 34, c94, [.t 4]⟩

theorem ok94 : Fok Try.prog 94 d94 := ⟨Try.f94, Try.func94, by kernel_rfl, by kernel_rfl⟩

def c95 : DC := (.seq (.reg [oO 4 .mv [.c (.b false)]] [0, 1]) (.seq (.reg [oM 5 0, oM 6 1, ⟨(some 7), (.call (.pu [])), [.c (.fn 91 [] []), .t 5, .t 6], none⟩, oO 8 (.binI .geq) [.t 7, .c (.i .i64 0)], oM 4 8] [4]) .ret))

def d95 : DFun := ⟨2, 9, c95, [.t 4]⟩

theorem ok95 : Fok Try.prog 95 d95 := ⟨Try.f95, Try.func95, by kernel_rfl, by kernel_rfl⟩

def c97 : DC := (.seq (.reg [oO 2 (.box true) [.t 0], oO 3 (.box true) [.t 1], oO 4 .mv [.c (.i .i64 0)]] [2, 3]) (.seq (.reg [oO 5 (.slcA false false false 2 1 false) [.t 2], oO 6 (.slcA false false false 2 1 false) [.t 3], ⟨(some 7), (.call (.pu [])), [.c (.fn 98 [] []), .t 5, .t 6], none⟩, oM 4 7] [4]) .ret))

def d97 : DFun := ⟨2, 8, c97, [.t 4]⟩

theorem ok97 : Fok Try.prog 97 d97 := ⟨Try.f97, Try.func97, by kernel_rfl, by kernel_rfl⟩

def b98_0 : DC := (.seq (.reg [oO 12 (.binI .lss) [.t 11, .t 10]] [0, 1, 9, 10, 11, 12]) (.seq (.cond (.t 12) .skip (.exit 0)) (.seq (.block 1 (.seq (.reg [oM 13 11, oO 14 (.ixS 1 false) [.t 9, .t 11], oO 15 (.ld 1 false) [.t 14], oM 5 13, oM 6 15] [0, 1, 5, 6, 9, 10, 11]) (.seq (.seq (.reg [oM 16 5, oM 17 1, oO 18 (.len 0) [.t 17], oO 19 (.binI .geq) [.t 16, .t 18]] [0, 1, 5, 6, 9, 10, 11, 19]) (.cond (.t 19) (.seq (.reg [oO 4 .mv [.c (.i .i64 1)]] [4]) .ret) .skip)) (.seq (.reg [oM 20 1, oM 21 5, oO 22 (.ixS 1 false) [.t 20, .t 21], oO 23 (.ld 1 false) [.t 22], oM 7 23] [0, 1, 6, 7, 9, 10, 11]) (.seq (.reg [oM 24 6, oM 25 7, ⟨(some 26), (.call (.pu [])), [.c (.fn 108 [] []), .t 24, .t 25], none⟩, oM 8 26] [0, 1, 8, 9, 10, 11]) (.seq (.reg [oM 27 8, oO 28 (.binI .neq) [.t 27, .c (.i .i64 0)]] [0, 1, 8, 9, 10, 11, 28]) (.cond (.t 28) (.seq (.reg [oM 29 8, oM 4 29] [4]) .ret) .skip))))))) (.reg [oO 30 (.binI .add) [.t 11, .c (.i .i64 1)], oM 11 30] [0, 1, 9, 10, 11]))))

def l98_1 : DC := (.loop [0, 1, 9, 10, 11] b98_0)

def c98 : DC := (.seq (.reg [oO 4 .mv [.c (.i .i64 0)]] [0, 1]) (.seq (.seq (.reg [oM 9 0, oO 10 (.len 0) [.t 9], oO 11 .mv [.c (.i .i64 0)]] [0, 1, 9, 10, 11]) (.block 0 l98_1)) (.seq (.seq (.reg [oM 31 0, oO 32 (.len 0) [.t 31], oM 33 1, oO 34 (.len 0) [.t 33], oO 35 (.binI .lss) [.t 32, .t 34]] [35]) (.cond (.t 35) (.seq (.reg [oO 4 .mv [.c (.i .i64 (-1))]] [4]) .ret) .skip)) (.seq (.reg [oO 4 .mv [.c (.i .i64 0)]] [4]) .ret))))

def d98 : DFun := ⟨2, 36, c98, [.t 4]⟩

theorem ok98 : Fok Try.prog 98 d98 := ⟨Try.f98, Try.func98, by kernel_rfl, by kernel_rfl⟩

def b100_0 : DC := (.seq (.reg [oO 9 (.binI .lss) [.t 8, .t 7]] [0, 1, 7, 8, 9]) (.seq (.cond (.t 9) .skip (.exit 0)) (.seq (.block 1 (.seq (.reg [oM 10 8, oM 5 10] [0, 1, 5, 7, 8]) (.seq (.reg [oM 11 1, oM 12 0, oM 13 5, oO 14 (.ixS 1 false) [.t 12, .t 13], oO 15 (.ld 1 false) [.t 14], oO 16 (.call .sh) [.t 11, .t 15]] [0, 1, 5, 7, 8, 16]) (.cond (.t 16) (.seq (.reg [oM 17 5, oM 4 17] [4]) .ret) .skip)))) (.reg [oO 18 (.binI .add) [.t 8, .c (.i .i64 1)], oM 8 18] [0, 1, 7, 8]))))

def l100_1 : DC := (.loop [0, 1, 7, 8] b100_0)

def c100 : DC := (.seq (.reg [oO 4 .mv [.c (.i .i64 0)]] [0, 1]) (.seq (.seq (.reg [oM 6 0, oO 7 (.len 0) [.t 6], oO 8 .mv [.c (.i .i64 0)]] [0, 1, 7, 8]) (.block 0 l100_1)) (.seq (.reg [oO 4 .mv [.c (.i .i64 (-1))]] [4]) .ret)))

def d100 : DFun := ⟨2, 19, c100, [.t 4]⟩

theorem ok100 : Fok Try.prog 100 d100 := ⟨Try.f100, Try.func100, by kernel_rfl, by kernel_rfl⟩

def c101 : DC := (.seq (.reg [oO 3 .mv [.c (.b false)]] [0, 1]) (.seq (.reg [oO 4 (.ld 1 false) [.t 1], oM 5 0, oO 6 (.call .sh) [.t 4, .t 5], oO 7 .notB [.t 6], oM 3 7] [3]) .ret))

def d101 : DFun := ⟨2, 8, c101, [.t 3]⟩

theorem ok101 : Fok Try.prog 101 d101 := ⟨Try.f101, Try.func101, by kernel_rfl, by kernel_rfl⟩

def b102_0 : DC := (.seq (.seq (.reg [oM 7 3, oO 8 (.binI .gtr) [.t 7, .c (.i .i64 0)]] [0, 3, 8]) (.cond (.t 8) .skip (.exit 0))) (.seq (.block 1 (.seq (.reg [oM 11 0, oM 12 3, oO 13 (.ixS 1 false) [.t 11, .t 12], oO 14 (.ld 1 false) [.t 13], oM 15 0, oM 16 3, oO 17 (.binI .sub) [.t 16, .c (.i .i64 1)], oO 18 (.ixS 1 false) [.t 15, .t 17], oO 19 (.ld 1 false) [.t 18], ⟨(some 20), (.call (.pu [])), [.c (.fn 109 [] []), .t 14, .t 19], none⟩] [0, 3, 20]) (.cond (.t 20) (.seq (.reg [oO 2 .mv [.c (.b false)]] [2]) .ret) .skip))) (.reg [oM 9 3, oO 10 (.binI .sub) [.t 9, .c (.i .i64 1)], oM 3 10] [0, 3])))

def l102_1 : DC := (.loop [0, 3] b102_0)

def c102 : DC := (.seq (.reg [oO 2 .mv [.c (.b false)]] [0]) (.seq (.seq (.reg [oM 4 0, oO 5 (.len 0) [.t 4], oO 6 (.binI .sub) [.t 5, .c (.i .i64 1)], oM 3 6] [0, 3]) (.block 0 l102_1)) (.seq (.reg [oO 2 .mv [.c (.b true)]] [2]) .ret)))

def d102 : DFun := ⟨1, 21, c102, [.t 2]⟩

theorem ok102 : Fok Try.prog 102 d102 := ⟨Try.f102, Try.func102, by kernel_rfl, by kernel_rfl⟩

def c103 : DC := (.seq (.reg [oO 4 .mv [.c (.i .i64 0)]] [0, 1]) (.seq (.reg [oM 7 0, ⟨(some 8), (.call (.pu [])), [.c (.fn 110 [] []), .t 7], none⟩, oM 5 8] [0, 1, 5]) (.seq (.reg [oM 9 1, ⟨(some 10), (.call (.pu [])), [.c (.fn 110 [] []), .t 9], none⟩, oM 6 10] [0, 1, 5, 6]) (.seq (.seq (.reg [oM 11 5] [0, 1, 6, 11]) (.cond (.t 11) (.seq (.seq (.reg [oM 12 6] [12]) (.cond (.t 12) (.seq (.reg [oO 4 .mv [.c (.i .i64 0)]] [4]) .ret) .skip)) (.seq (.reg [oO 4 .mv [.c (.i .i64 (-1))]] [4]) .ret)) .skip)) (.seq (.seq (.reg [oM 13 6] [0, 1, 13]) (.cond (.t 13) (.seq (.reg [oO 4 .mv [.c (.i .i64 1)]] [4]) .ret) .skip)) (.seq (.seq (.reg [oM 14 0, oM 15 1, oO 16 (.binI .lss) [.t 14, .t 15]] [0, 1, 16]) (.cond (.t 16) (.seq (.reg [oO 4 .mv [.c (.i .i64 (-1))]] [4]) .ret) .skip)) (.seq (.seq (.reg [oM 17 0, oM 18 1, oO 19 (.binI .gtr) [.t 17, .t 18]] [19]) (.cond (.t 19) (.seq (.reg [oO 4 .mv [.c (.i .i64 1)]] [4]) .ret) .skip)) (.seq (.reg [oO 4 .mv [.c (.i .i64 0)]] [4]) .ret))))))))

def d103 : DFun := ⟨2, 20, c103, [.t 4]⟩

theorem ok103 : Fok Try.prog 103 d103 := ⟨Try.f103, Try.func103, by kernel_rfl, by kernel_rfl⟩

def c108 : DC := (.seq (.reg [oO 4 .mv [.c (.i .i64 0)]] [0, 1]) (.seq (.reg [oM 7 0, ⟨(some 8), (.call (.pu [])), [.c (.fn 131 [] []), .t 7], none⟩, oM 5 8] [0, 1, 5]) (.seq (.reg [oM 9 1, ⟨(some 10), (.call (.pu [])), [.c (.fn 131 [] []), .t 9], none⟩, oM 6 10] [0, 1, 5, 6]) (.seq (.seq (.reg [oM 11 5] [0, 1, 6, 11]) (.cond (.t 11) (.seq (.seq (.reg [oM 12 6] [12]) (.cond (.t 12) (.seq (.reg [oO 4 .mv [.c (.i .i64 0)]] [4]) .ret) .skip)) (.seq (.reg [oO 4 .mv [.c (.i .i64 (-1))]] [4]) .ret)) .skip)) (.seq (.seq (.reg [oM 13 6] [0, 1, 13]) (.cond (.t 13) (.seq (.reg [oO 4 .mv [.c (.i .i64 1)]] [4]) .ret) .skip)) (.seq (.seq (.reg [oM 14 0, oM 15 1, oO 16 (.binI .lss) [.t 14, .t 15]] [0, 1, 16]) (.cond (.t 16) (.seq (.reg [oO 4 .mv [.c (.i .i64 (-1))]] [4]) .ret) .skip)) (.seq (.seq (.reg [oM 17 0, oM 18 1, oO 19 (.binI .gtr) [.t 17, .t 18]] [19]) (.cond (.t 19) (.seq (.reg [oO 4 .mv [.c (.i .i64 1)]] [4]) .ret) .skip)) (.seq (.reg [oO 4 .mv [.c (.i .i64 0)]] [4]) .ret))))))))

def d108 : DFun := ⟨2, 20, c108, [.t 4]⟩

theorem ok108 : Fok Try.prog 108 d108 := ⟨Try.f108, Try.func108, by kernel_rfl, by kernel_rfl⟩

def c109 : DC := (.seq (.reg [oO 4 .mv [.c (.b false)]] [0, 1]) (.seq (.reg [oM 5 0, ⟨(some 6), (.call (.pu [])), [.c (.fn 110 [] []), .t 5], none⟩, oM 7 6, oP 8 .mv [.t 1] 7 true, ⟨(some 9), (.call (.pu [])), [.c (.fn 110 [] []), .t 8], (some (7, true))⟩, oP 10 .notB [.t 9] 7 true, oO 11 .pick [.t 7, .t 10, .c (.b false)], oM 12 11, oP 13 .mv [.t 0] 12 false, oP 14 .mv [.t 1] 12 false, oP 15 (.binI .lss) [.t 13, .t 14] 12 false, oO 16 .pick [.t 12, .c (.b true), .t 15], oM 4 16] [4]) .ret))

def d109 : DFun := ⟨2, 17, c109, [.t 4]⟩

theorem ok109 : Fok Try.prog 109 d109 := ⟨Try.f109, Try.func109, by kernel_rfl, by kernel_rfl⟩

def c110 : DC := (.seq (.reg [oO 2 .mv [.c (.b false)]] [0]) (.seq (.reg [oM 3 0, oM 4 0, oO 5 (.binI .neq) [.t 3, .t 4], oM 2 5] [2]) .ret))

def d110 : DFun := ⟨1, 6, c110, [.t 2]⟩

theorem ok110 : Fok Try.prog 110 d110 := ⟨Try.f110, Try.func110, by kernel_rfl, by kernel_rfl⟩

def c131 : DC := (.seq (.reg [oO 2 .mv [.c (.b false)]] [0]) (.seq (.reg [oM 3 0, oM 4 0, oO 5 (.binI .neq) [.t 3, .t 4], oM 2 5] [2]) .ret))

def d131 : DFun := ⟨1, 6, c131, [.t 2]⟩

theorem ok131 : Fok Try.prog 131 d131 := ⟨Try.f131, Try.func131, by kernel_rfl, by kernel_rfl⟩

end Go.Proofs.Try.Dn

