import Derived.Test.YtegihfgibonhpaaProg
import Derived.Test.YtegihfgibonhpaaDc
set_option linter.unusedVariables false
set_option maxRecDepth 100000
namespace Go.Proofs.Try.Dn
open Go.Dn

-- bibelot/peg.Fewest
def b25_0 : DC :=
 (.seq (.reg [⟨(some 27), (.binI .lss), [.t 26, .t 25], none⟩] [10, 24, 25, 26, 27])
 (.seq (.cond (.t 27)
  .skip
  (.exit 0))
 (.seq (.block 1
  (.seq (.reg [⟨(some 28), (.ixS 1 false), [.t 24, .t 26], none⟩,
    ⟨(some 29), (.ld 1 false), [.t 28], none⟩,
    ⟨(some 12), .mv, [.t 29], none⟩] [10, 12, 24, 25, 26])
  (.reg [⟨(some 30), .mv, [.t 10], none⟩,
    ⟨(some 31), .mv, [.t 12], none⟩,
    ⟨(some 32), (.conv .u64), [.t 31], none⟩,
    ⟨(some 33), (.call (.pu [])), [.c (.fn 53 [] []), .t 32], none⟩,
    ⟨(some 34), .mnI, [.t 30, .t 33], none⟩,
    ⟨(some 10), .mv, [.t 34], none⟩] [10, 24, 25, 26])))
 (.reg [⟨(some 35), (.binI .add), [.t 26, .c (.i .i64 1)], none⟩,
   ⟨(some 26), .mv, [.t 35], none⟩] [10, 24, 25, 26]))))

def l25_1 : DC :=
 (.loop [10, 24, 25, 26] b25_0)

def c25 : DC :=
 (.seq (.reg [⟨(some 6), .mv, [.c (.i .i64 0)], none⟩,
   ⟨(some 7), .mv, [.c (.i .i64 0)], none⟩] [0, 1, 2])
 (.seq (.reg [⟨(some 14), .mv, [.t 0], none⟩,
   ⟨(some 15), .mv, [.t 1], none⟩,
   ⟨(some 16), .mv, [.t 2], none⟩,
   ⟨(some 17), (.call (.pu [])), [.c (.fn 24 [] []), .t 14, .t 15, .t 16], none⟩,
   ⟨(some 13), .mv, [.t 17], none⟩,
   ⟨(some 18), (.ext 0), [.t 13], none⟩,
   ⟨(some 19), (.ext 1), [.t 13], none⟩,
   ⟨(some 8), .mv, [.t 18], none⟩,
   ⟨(some 9), .mv, [.t 19], none⟩] [0, 8, 9])
 (.seq (.seq (.reg [⟨(some 20), .mv, [.t 9], none⟩,
   ⟨(some 21), (.binI .neq), [.t 20, .c (.i .i64 0)], none⟩] [0, 8, 9, 21])
 (.cond (.t 21)
  (.seq (.reg [⟨(some 22), .mv, [.t 9], none⟩,
    ⟨(some 6), .mv, [.c (.i .i64 0)], none⟩,
    ⟨(some 7), .mv, [.t 22], none⟩] [6, 7])
  .ret)
  .skip))
 (.seq (.reg [⟨(some 23), .mv, [.t 0], none⟩,
   ⟨(some 10), .mv, [.t 23], none⟩] [8, 10])
 (.seq (.seq (.reg [⟨(some 24), .mv, [.t 8], none⟩,
   ⟨(some 25), (.len 0), [.t 24], none⟩,
   ⟨(some 26), .mv, [.c (.i .i64 0)], none⟩] [10, 24, 25, 26])
 (.block 0
  l25_1))
 (.seq (.reg [⟨(some 36), .mv, [.t 10], none⟩,
   ⟨(some 6), .mv, [.t 36], none⟩,
   ⟨(some 7), .mv, [.c (.i .i64 0)], none⟩] [6, 7])
 .ret))))))

def d25 : DFun := ⟨3, 37, c25, [.t 6, .t 7]⟩

theorem ok25 : Fok Try.prog 25 d25 := ⟨Try.f25, Try.func25, by kernel_rfl, by kernel_rfl⟩

-- bibelot/bibelotlaw02.ints
def b26_0 : DC :=
 (.seq (.seq (.reg [⟨(some 11), .mv, [.t 5], none⟩,
   ⟨(some 12), .mv, [.t 0], none⟩,
   ⟨(some 13), (.len 0), [.t 12], none⟩,
   ⟨(some 14), (.binI .lss), [.t 11, .t 13], none⟩] [0, 1, 5, 14])
 (.cond (.t 14)
  .skip
  (.exit 0)))
 (.seq (.block 1
  (.seq (.reg [⟨(some 17), .mv, [.t 0], none⟩,
    ⟨(some 18), .mv, [.t 5], none⟩,
    ⟨(some 19), (.ixS 1 false), [.t 17, .t 18], none⟩,
    ⟨(some 20), (.ld 1 false), [.t 19], none⟩,
    ⟨(some 21), .mv, [.t 1], none⟩,
    ⟨(some 22), .mv, [.t 5], none⟩,
    ⟨(some 23), (.ixS 1 false), [.t 21, .t 22], none⟩,
    ⟨(some 24), (.ld 1 false), [.t 23], none⟩,
    ⟨(some 25), (.binI .neq), [.t 20, .t 24], none⟩] [0, 1, 5, 25])
  (.cond (.t 25)
   (.seq (.reg [⟨(some 4), .mv, [.c (.b false)], none⟩] [4])
   .ret)
   .skip)))
 (.reg [⟨(some 15), .mv, [.t 5], none⟩,
   ⟨(some 16), (.binI .add), [.t 15, .c (.i .i64 1)], none⟩,
   ⟨(some 5), .mv, [.t 16], none⟩] [0, 1, 5])))

def l26_1 : DC :=
 (.loop [0, 1, 5] b26_0)

def c26 : DC :=
 (.seq (.reg [⟨(some 4), .mv, [.c (.b false)], none⟩] [0, 1])
 (.seq (.seq (.reg [⟨(some 6), .mv, [.t 0], none⟩,
   ⟨(some 7), (.len 0), [.t 6], none⟩,
   ⟨(some 8), .mv, [.t 1], none⟩,
   ⟨(some 9), (.len 0), [.t 8], none⟩,
   ⟨(some 10), (.binI .neq), [.t 7, .t 9], none⟩] [0, 1, 10])
 (.cond (.t 10)
  (.seq (.reg [⟨(some 4), .mv, [.c (.b false)], none⟩] [4])
  .ret)
  .skip))
 (.seq (.seq (.reg [⟨(some 5), .mv, [.c (.i .i64 0)], none⟩] [0, 1, 5])
 (.block 0
  l26_1))
 (.seq (.reg [⟨(some 4), .mv, [.c (.b true)], none⟩] [4])
 .ret))))

def d26 : DFun := ⟨2, 26, c26, [.t 4]⟩

theorem ok26 : Fok Try.prog 26 d26 := ⟨Try.f26, Try.func26, by kernel_rfl, by kernel_rfl⟩

-- bibelot/peg.Rules
def c27 : DC :=
 (.seq (.reg [⟨(some 4), .mv, [.c .nilsl], none⟩,
   ⟨(some 5), .mv, [.c (.i .i64 0)], none⟩] [0, 1])
 (.seq (.seq (.reg [⟨(some 7), .mv, [.t 0], none⟩,
   ⟨(some 8), .mv, [.t 1], none⟩,
   ⟨(some 9), (.call (.pu [])), [.c (.fn 48 [] []), .t 7, .t 8, .c .nilsl], none⟩,
   ⟨(some 6), .mv, [.t 9], none⟩] [0, 1, 6])
 (.seq (.reg [⟨(some 10), .mv, [.t 6], none⟩,
   ⟨(some 11), (.binI .neq), [.t 10, .c (.i .i64 0)], none⟩] [0, 1, 6, 11])
 (.cond (.t 11)
  (.seq (.reg [⟨(some 12), .mv, [.t 6], none⟩,
    ⟨(some 4), .mv, [.c .nilsl], none⟩,
    ⟨(some 5), .mv, [.t 12], none⟩] [4, 5])
  .ret)
  .skip)))
 (.seq (.reg [⟨(some 13), .mv, [.t 0], none⟩,
   ⟨(some 14), .mv, [.t 1], none⟩,
   ⟨(some 15), (.call (.pu [])), [.c (.fn 54 [] []), .t 13, .t 14], none⟩,
   ⟨(some 4), .mv, [.t 15], none⟩,
   ⟨(some 5), .mv, [.c (.i .i64 0)], none⟩] [4, 5])
 .ret)))

def d27 : DFun := ⟨2, 16, c27, [.t 4, .t 5]⟩

theorem ok27 : Fok Try.prog 27 d27 := ⟨Try.f27, Try.func27, by kernel_rfl, by kernel_rfl⟩

-- bibelot/peg.Alike
def c28 : DC :=
 (.seq (.reg [⟨(some 6), (.box false), [.t 2], none⟩,
   ⟨(some 7), (.box false), [.t 3], none⟩,
   ⟨(some 8), .mv, [.c (.b false)], none⟩,
   ⟨(some 9), .mv, [.c (.i .i64 0)], none⟩] [0, 1, 6, 7])
 (.seq (.seq (.reg [⟨(some 11), .mv, [.t 0], none⟩,
   ⟨(some 12), .mv, [.t 1], none⟩,
   ⟨(some 13), (.ld 1 false), [.t 6], none⟩,
   ⟨(some 14), (.ld 1 false), [.t 7], none⟩,
   ⟨(some 15), (.bsl false [(.i .i64 0)] false 2 [0, 1]), [.t 13, .t 14], none⟩,
   ⟨(some 16), (.call (.pu [])), [.c (.fn 48 [] []), .t 11, .t 12, .t 15], none⟩,
   ⟨(some 10), .mv, [.t 16], none⟩] [0, 1, 6, 7, 10])
 (.seq (.reg [⟨(some 17), .mv, [.t 10], none⟩,
   ⟨(some 18), (.binI .neq), [.t 17, .c (.i .i64 0)], none⟩] [0, 1, 6, 7, 10, 18])
 (.cond (.t 18)
  (.seq (.reg [⟨(some 19), .mv, [.t 10], none⟩,
    ⟨(some 8), .mv, [.c (.b false)], none⟩,
    ⟨(some 9), .mv, [.t 19], none⟩] [8, 9])
  .ret)
  .skip)))
 (.seq (.reg [⟨(some 20), .mv, [.t 0], none⟩,
   ⟨(some 21), .mv, [.t 1], none⟩,
   ⟨(some 22), (.call (.pu [])), [.c (.fn 54 [] []), .t 20, .t 21], none⟩,
   ⟨(some 23), (.mkfn 56 0), [.t 6, .t 7], none⟩,
   ⟨(some 24), (.call .sh), [.c (.fn 55 [] []), .t 22, .t 23], none⟩,
   ⟨(some 25), .notB, [.t 24], none⟩,
   ⟨(some 8), .mv, [.t 25], none⟩,
   ⟨(some 9), .mv, [.c (.i .i64 0)], none⟩] [8, 9])
 .ret)))

def d28 : DFun := ⟨4, 26, c28, [.t 8, .t 9]⟩

theorem ok28 : Fok Try.prog 28 d28 := ⟨Try.f28, Try.func28, by kernel_rfl, by kernel_rfl⟩

-- bibelot/bibelotref02.Rules
def b29_0 : DC :=
 (.seq (.seq (.reg [⟨(some 9), .mv, [.t 7], none⟩,
   ⟨(some 10), .mv, [.t 0], none⟩,
   ⟨(some 11), (.binI .shl), [.c (.i .i64 1), .t 10], none⟩,
   ⟨(some 12), (.binI .lss), [.t 9, .t 11], none⟩] [0, 1, 5, 6, 7, 12])
 (.cond (.t 12)
  .skip
  (.exit 0)))
 (.seq (.block 1
  (.seq (.reg [⟨(some 15), .mv, [.t 7], none⟩,
    ⟨(some 16), (.call (.pu [])), [.c (.fn 57 [] []), .t 15], none⟩,
    ⟨(some 8), .mv, [.t 16], none⟩] [0, 1, 5, 6, 7, 8])
  (.seq (.reg [⟨(some 17), .mv, [.t 6], none⟩,
    ⟨(some 18), .mv, [.t 8], none⟩,
    ⟨(some 19), (.binI .shr), [.t 17, .t 18], none⟩,
    ⟨(some 20), (.binI .rem), [.t 19, .c (.i .i64 2)], none⟩,
    ⟨(some 21), (.binI .eql), [.t 20, .c (.i .i64 0)], none⟩,
    ⟨(some 22), .mv, [.t 21], none⟩,
    ⟨(some 23), .mv, [.t 7], (some (22, true))⟩,
    ⟨(some 24), .mv, [.t 6], (some (22, true))⟩,
    ⟨(some 25), (.binI .and), [.t 23, .t 24], (some (22, true))⟩,
    ⟨(some 26), (.binI .eql), [.t 25, .c (.i .i64 0)], (some (22, true))⟩,
    ⟨(some 27), .pick, [.t 22, .t 26, .c (.b false)], none⟩,
    ⟨(some 28), .mv, [.t 27], none⟩,
    ⟨(some 29), .mv, [.t 1], (some (28, true))⟩,
    ⟨(some 30), .mv, [.t 7], (some (28, true))⟩,
    ⟨(some 31), (.call (.pu [])), [.c (.fn 45 [] []), .t 29, .t 30], (some (28, true))⟩,
    ⟨(some 32), .pick, [.t 28, .t 31, .c (.b false)], none⟩] [0, 1, 5, 6, 7, 8, 32])
  (.cond (.t 32)
   (.seq (.reg [⟨(some 33), .mv, [.t 5], none⟩,
     ⟨(some 34), .mv, [.t 7], none⟩,
     ⟨(some 35), (.bsl false [(.i .i64 0)] false 1 [0]), [.t 34], none⟩,
     ⟨(some 36), (.app 1 false 8), [.t 33, .t 35], none⟩,
     ⟨(some 5), .mv, [.t 36], none⟩] [0, 1, 5, 6, 7, 8])
   (.reg [⟨(some 37), .mv, [.t 6], none⟩,
     ⟨(some 38), .mv, [.t 8], none⟩,
     ⟨(some 39), (.binI .shl), [.c (.i .i64 1), .t 38], none⟩,
     ⟨(some 40), (.binI .or), [.t 37, .t 39], none⟩,
     ⟨(some 6), .mv, [.t 40], none⟩] [0, 1, 5, 6, 7]))
   .skip))))
 (.reg [⟨(some 13), .mv, [.t 7], none⟩,
   ⟨(some 14), (.binI .add), [.t 13, .c (.i .i64 1)], none⟩,
   ⟨(some 7), .mv, [.t 14], none⟩] [0, 1, 5, 6, 7])))

def l29_1 : DC :=
 (.loop [0, 1, 5, 6, 7] b29_0)

def c29 : DC :=
 (.seq (.reg [⟨(some 4), .mv, [.c .nilsl], none⟩] [0, 1])
 (.seq (.reg [⟨(some 5), .mv, [.c .nilsl], none⟩] [0, 1, 5])
 (.seq (.reg [⟨(some 6), .mv, [.c (.i .i64 0)], none⟩] [0, 1, 5, 6])
 (.seq (.seq (.reg [⟨(some 7), .mv, [.c (.i .i64 1)], none⟩] [0, 1, 5, 6, 7])
 (.block 0
  l29_1))
 (.seq (.reg [⟨(some 41), .mv, [.t 5], none⟩,
   ⟨(some 4), .mv, [.t 41], none⟩] [4])
 .ret)))))

def d29 : DFun := ⟨2, 42, c29, [.t 4]⟩

theorem ok29 : Fok Try.prog 29 d29 := ⟨Try.f29, Try.func29, by kernel_rfl, by kernel_rfl⟩

-- bibelot/bibelotref02.Alike
def b30_0 : DC :=
 (.seq (.seq (.reg [⟨(some 10), .mv, [.t 9], none⟩,
   ⟨(some 11), .mv, [.t 0], none⟩,
   ⟨(some 12), (.binI .shl), [.c (.i .i64 1), .t 11], none⟩,
   ⟨(some 13), (.binI .lss), [.t 10, .t 12], none⟩] [0, 1, 2, 3, 9, 13])
 (.cond (.t 13)
  .skip
  (.exit 0)))
 (.seq (.block 1
  (.seq (.reg [⟨(some 16), .mv, [.t 1], none⟩,
    ⟨(some 17), .mv, [.t 9], none⟩,
    ⟨(some 18), (.call (.pu [])), [.c (.fn 45 [] []), .t 16, .t 17], none⟩,
    ⟨(some 19), .mv, [.t 18], none⟩,
    ⟨(some 20), .mv, [.t 9], (some (19, true))⟩,
    ⟨(some 21), .mv, [.t 2], (some (19, true))⟩,
    ⟨(some 22), (.binI .and), [.t 20, .t 21], (some (19, true))⟩,
    ⟨(some 23), (.call (.pu [])), [.c (.fn 23 [] []), .t 22], (some (19, true))⟩,
    ⟨(some 24), .mv, [.t 9], (some (19, true))⟩,
    ⟨(some 25), .mv, [.t 3], (some (19, true))⟩,
    ⟨(some 26), (.binI .and), [.t 24, .t 25], (some (19, true))⟩,
    ⟨(some 27), (.call (.pu [])), [.c (.fn 23 [] []), .t 26], (some (19, true))⟩,
    ⟨(some 28), (.binI .add), [.t 23, .t 27], (some (19, true))⟩,
    ⟨(some 29), (.binI .rem), [.t 28, .c (.i .i64 2)], (some (19, true))⟩,
    ⟨(some 30), (.binI .eql), [.t 29, .c (.i .i64 1)], (some (19, true))⟩,
    ⟨(some 31), .pick, [.t 19, .t 30, .c (.b false)], none⟩] [0, 1, 2, 3, 9, 31])
  (.cond (.t 31)
   (.seq (.reg [⟨(some 8), .mv, [.c (.b false)], none⟩] [8])
   .ret)
   .skip)))
 (.reg [⟨(some 14), .mv, [.t 9], none⟩,
   ⟨(some 15), (.binI .add), [.t 14, .c (.i .i64 1)], none⟩,
   ⟨(some 9), .mv, [.t 15], none⟩] [0, 1, 2, 3, 9])))

def l30_1 : DC :=
 (.loop [0, 1, 2, 3, 9] b30_0)

def c30 : DC :=
 (.seq (.reg [⟨(some 8), .mv, [.c (.b false)], none⟩] [0, 1, 2, 3])
 (.seq (.seq (.reg [⟨(some 9), .mv, [.c (.i .i64 1)], none⟩] [0, 1, 2, 3, 9])
 (.block 0
  l30_1))
 (.seq (.reg [⟨(some 8), .mv, [.c (.b true)], none⟩] [8])
 .ret)))

def d30 : DFun := ⟨4, 32, c30, [.t 8]⟩

theorem ok30 : Fok Try.prog 30 d30 := ⟨Try.f30, Try.func30, by kernel_rfl, by kernel_rfl⟩

-- bibelot/peg.IsPagoda
def c31 : DC :=
 (.seq (.reg [⟨(some 6), .mv, [.c (.b false)], none⟩,
   ⟨(some 7), .mv, [.c (.i .i64 0)], none⟩] [0, 1, 2])
 (.seq (.seq (.reg [⟨(some 9), .mv, [.t 0], none⟩,
   ⟨(some 10), .mv, [.t 1], none⟩,
   ⟨(some 11), (.call (.pu [])), [.c (.fn 48 [] []), .t 9, .t 10, .c .nilsl], none⟩,
   ⟨(some 8), .mv, [.t 11], none⟩] [0, 1, 2, 8])
 (.seq (.reg [⟨(some 12), .mv, [.t 8], none⟩,
   ⟨(some 13), (.binI .neq), [.t 12, .c (.i .i64 0)], none⟩] [0, 1, 2, 8, 13])
 (.cond (.t 13)
  (.seq (.reg [⟨(some 14), .mv, [.t 8], none⟩,
    ⟨(some 6), .mv, [.c (.b false)], none⟩,
    ⟨(some 7), .mv, [.t 14], none⟩] [6, 7])
  .ret)
  .skip)))
 (.seq (.seq (.reg [⟨(some 15), .mv, [.t 0], none⟩,
   ⟨(some 16), .mv, [.t 2], none⟩,
   ⟨(some 17), (.call (.pu [])), [.c (.fn 58 [] []), .t 15, .t 16], none⟩,
   ⟨(some 18), .notB, [.t 17], none⟩] [1, 2, 18])
 (.cond (.t 18)
  (.seq (.reg [⟨(some 6), .mv, [.c (.b false)], none⟩,
    ⟨(some 7), .mv, [.c (.i .i64 1)], none⟩] [6, 7])
  .ret)
  .skip))
 (.seq (.reg [⟨(some 19), .mv, [.t 1], none⟩,
   ⟨(some 20), .mv, [.t 2], none⟩,
   ⟨(some 21), (.call (.pu [])), [.c (.fn 59 [] []), .t 19, .t 20], none⟩,
   ⟨(some 6), .mv, [.t 21], none⟩,
   ⟨(some 7), .mv, [.c (.i .i64 0)], none⟩] [6, 7])
 .ret))))

def d31 : DFun := ⟨3, 22, c31, [.t 6, .t 7]⟩

theorem ok31 : Fok Try.prog 31 d31 := ⟨Try.f31, Try.func31, by kernel_rfl, by kernel_rfl⟩

-- bibelot/peg.Refutes
def c32 : DC :=
 (.seq (.reg [⟨(some 10), .mv, [.c (.b false)], none⟩,
   ⟨(some 11), .mv, [.c (.i .i64 0)], none⟩] [0, 1, 2, 3, 4])
 (.seq (.seq (.reg [⟨(some 13), .mv, [.t 0], none⟩,
   ⟨(some 14), .mv, [.t 1], none⟩,
   ⟨(some 15), .mv, [.t 2], none⟩,
   ⟨(some 16), .mv, [.t 3], none⟩,
   ⟨(some 17), (.bsl false [(.i .i64 0)] false 2 [0, 1]), [.t 15, .t 16], none⟩,
   ⟨(some 18), (.call (.pu [])), [.c (.fn 48 [] []), .t 13, .t 14, .t 17], none⟩,
   ⟨(some 12), .mv, [.t 18], none⟩] [0, 1, 2, 3, 4, 12])
 (.seq (.reg [⟨(some 19), .mv, [.t 12], none⟩,
   ⟨(some 20), (.binI .neq), [.t 19, .c (.i .i64 0)], none⟩] [0, 1, 2, 3, 4, 12, 20])
 (.cond (.t 20)
  (.seq (.reg [⟨(some 21), .mv, [.t 12], none⟩,
    ⟨(some 10), .mv, [.c (.b false)], none⟩,
    ⟨(some 11), .mv, [.t 21], none⟩] [10, 11])
  .ret)
  .skip)))
 (.seq (.seq (.reg [⟨(some 22), .mv, [.t 0], none⟩,
   ⟨(some 23), .mv, [.t 4], none⟩,
   ⟨(some 24), (.call (.pu [])), [.c (.fn 58 [] []), .t 22, .t 23], none⟩,
   ⟨(some 25), .notB, [.t 24], none⟩] [1, 2, 3, 4, 25])
 (.cond (.t 25)
  (.seq (.reg [⟨(some 10), .mv, [.c (.b false)], none⟩,
    ⟨(some 11), .mv, [.c (.i .i64 1)], none⟩] [10, 11])
  .ret)
  .skip))
 (.seq (.reg [⟨(some 26), .mv, [.t 1], none⟩,
   ⟨(some 27), .mv, [.t 4], none⟩,
   ⟨(some 28), (.call (.pu [])), [.c (.fn 59 [] []), .t 26, .t 27], none⟩,
   ⟨(some 29), .mv, [.t 28], none⟩,
   ⟨(some 30), .mv, [.t 4], (some (29, true))⟩,
   ⟨(some 31), .mv, [.t 2], (some (29, true))⟩,
   ⟨(some 32), .mv, [.t 3], (some (29, true))⟩,
   ⟨(some 33), (.call (.pu [])), [.c (.fn 60 [] []), .t 30, .t 31, .t 32], (some (29, true))⟩,
   ⟨(some 34), (.binI .gtr), [.t 33, .c (.i .i64 0)], (some (29, true))⟩,
   ⟨(some 35), .pick, [.t 29, .t 34, .c (.b false)], none⟩,
   ⟨(some 10), .mv, [.t 35], none⟩,
   ⟨(some 11), .mv, [.c (.i .i64 0)], none⟩] [10, 11])
 .ret))))

def d32 : DFun := ⟨5, 36, c32, [.t 10, .t 11]⟩

theorem ok32 : Fok Try.prog 32 d32 := ⟨Try.f32, Try.func32, by kernel_rfl, by kernel_rfl⟩

-- bibelot/bibelotref02.Weights
def b33_0 : DC :=
 (.seq (.seq (.reg [⟨(some 6), .mv, [.t 5], none⟩,
   ⟨(some 7), .mv, [.t 1], none⟩,
   ⟨(some 8), (.len 0), [.t 7], none⟩,
   ⟨(some 9), (.binI .lss), [.t 6, .t 8], none⟩] [0, 1, 5, 9])
 (.cond (.t 9)
  .skip
  (.exit 0)))
 (.seq (.block 1
  (.seq (.reg [⟨(some 12), .mv, [.t 1], none⟩,
    ⟨(some 13), .mv, [.t 5], none⟩,
    ⟨(some 14), (.ixS 1 false), [.t 12, .t 13], none⟩,
    ⟨(some 15), (.ld 1 false), [.t 14], none⟩,
    ⟨(some 16), (.binI .lss), [.t 15, .c (.i .i64 (-1000000))], none⟩,
    ⟨(some 17), .mv, [.t 16], none⟩,
    ⟨(some 18), .mv, [.t 1], (some (17, false))⟩,
    ⟨(some 19), .mv, [.t 5], (some (17, false))⟩,
    ⟨(some 20), (.ixS 1 false), [.t 18, .t 19], (some (17, false))⟩,
    ⟨(some 21), (.ld 1 false), [.t 20], (some (17, false))⟩,
    ⟨(some 22), (.binI .gtr), [.t 21, .c (.i .i64 1000000)], (some (17, false))⟩,
    ⟨(some 23), .pick, [.t 17, .c (.b true), .t 22], none⟩] [0, 1, 5, 23])
  (.cond (.t 23)
   (.seq (.reg [⟨(some 4), .mv, [.c (.b false)], none⟩] [4])
   .ret)
   .skip)))
 (.reg [⟨(some 10), .mv, [.t 5], none⟩,
   ⟨(some 11), (.binI .add), [.t 10, .c (.i .i64 1)], none⟩,
   ⟨(some 5), .mv, [.t 11], none⟩] [0, 1, 5])))

def l33_1 : DC :=
 (.loop [0, 1, 5] b33_0)

def c33 : DC :=
 (.seq (.reg [⟨(some 4), .mv, [.c (.b false)], none⟩] [0, 1])
 (.seq (.seq (.reg [⟨(some 5), .mv, [.c (.i .i64 0)], none⟩] [0, 1, 5])
 (.block 0
  l33_1))
 (.seq (.reg [⟨(some 24), .mv, [.t 1], none⟩,
   ⟨(some 25), (.len 0), [.t 24], none⟩,
   ⟨(some 26), .mv, [.t 0], none⟩,
   ⟨(some 27), (.binI .eql), [.t 25, .t 26], none⟩,
   ⟨(some 4), .mv, [.t 27], none⟩] [4])
 .ret)))

def d33 : DFun := ⟨2, 28, c33, [.t 4]⟩

theorem ok33 : Fok Try.prog 33 d33 := ⟨Try.f33, Try.func33, by kernel_rfl, by kernel_rfl⟩

-- bibelot/bibelotref02.Pagoda
def b34_0 : DC :=
 (.seq (.seq (.reg [⟨(some 9), .mv, [.t 5], none⟩,
   ⟨(some 10), .mv, [.t 0], none⟩,
   ⟨(some 11), (.len 0), [.t 10], none⟩,
   ⟨(some 12), (.binI .lss), [.t 9, .t 11], none⟩] [0, 1, 5, 12])
 (.cond (.t 12)
  .skip
  (.exit 0)))
 (.seq (.block 1
  (.seq (.reg [⟨(some 15), .mv, [.t 1], none⟩,
    ⟨(some 16), .mv, [.t 0], none⟩,
    ⟨(some 17), .mv, [.t 5], none⟩,
    ⟨(some 18), (.ixS 3 true), [.t 16, .t 17], none⟩,
    ⟨(some 19), (.ixA 3 1 false), [.t 18, .c (.i .i64 0)], none⟩,
    ⟨(some 20), (.ld 1 false), [.t 19], none⟩,
    ⟨(some 21), (.ixS 1 false), [.t 15, .t 20], none⟩,
    ⟨(some 22), (.ld 1 false), [.t 21], none⟩,
    ⟨(some 23), .mv, [.t 1], none⟩,
    ⟨(some 24), .mv, [.t 0], none⟩,
    ⟨(some 25), .mv, [.t 5], none⟩,
    ⟨(some 26), (.ixS 3 true), [.t 24, .t 25], none⟩,
    ⟨(some 27), (.ixA 3 1 false), [.t 26, .c (.i .i64 1)], none⟩,
    ⟨(some 28), (.ld 1 false), [.t 27], none⟩,
    ⟨(some 29), (.ixS 1 false), [.t 23, .t 28], none⟩,
    ⟨(some 30), (.ld 1 false), [.t 29], none⟩,
    ⟨(some 31), .mv, [.t 1], none⟩,
    ⟨(some 32), .mv, [.t 0], none⟩,
    ⟨(some 33), .mv, [.t 5], none⟩,
    ⟨(some 34), (.ixS 3 true), [.t 32, .t 33], none⟩,
    ⟨(some 35), (.ixA 3 1 false), [.t 34, .c (.i .i64 2)], none⟩,
    ⟨(some 36), (.ld 1 false), [.t 35], none⟩,
    ⟨(some 37), (.ixS 1 false), [.t 31, .t 36], none⟩,
    ⟨(some 38), (.ld 1 false), [.t 37], none⟩,
    ⟨(some 6), .mv, [.t 22], none⟩,
    ⟨(some 7), .mv, [.t 30], none⟩,
    ⟨(some 8), .mv, [.t 38], none⟩] [0, 1, 5, 6, 7, 8])
  (.seq (.reg [⟨(some 39), .mv, [.t 6], none⟩,
    ⟨(some 40), .mv, [.t 7], none⟩,
    ⟨(some 41), (.binI .add), [.t 39, .t 40], none⟩,
    ⟨(some 42), .mv, [.t 8], none⟩,
    ⟨(some 43), (.binI .lss), [.t 41, .t 42], none⟩,
    ⟨(some 44), .mv, [.t 43], none⟩,
    ⟨(some 45), .mv, [.t 8], (some (44, false))⟩,
    ⟨(some 46), .mv, [.t 7], (some (44, false))⟩,
    ⟨(some 47), (.binI .add), [.t 45, .t 46], (some (44, false))⟩,
    ⟨(some 48), .mv, [.t 6], (some (44, false))⟩,
    ⟨(some 49), (.binI .lss), [.t 47, .t 48], (some (44, false))⟩,
    ⟨(some 50), .pick, [.t 44, .c (.b true), .t 49], none⟩] [0, 1, 5, 50])
  (.cond (.t 50)
   (.seq (.reg [⟨(some 4), .mv, [.c (.b false)], none⟩] [4])
   .ret)
   .skip))))
 (.reg [⟨(some 13), .mv, [.t 5], none⟩,
   ⟨(some 14), (.binI .add), [.t 13, .c (.i .i64 1)], none⟩,
   ⟨(some 5), .mv, [.t 14], none⟩] [0, 1, 5])))

def l34_1 : DC :=
 (.loop [0, 1, 5] b34_0)

def c34 : DC :=
 (.seq (.reg [⟨(some 4), .mv, [.c (.b false)], none⟩] [0, 1])
 (.seq (.seq (.reg [⟨(some 5), .mv, [.c (.i .i64 0)], none⟩] [0, 1, 5])
 (.block 0
  l34_1))
 (.seq (.reg [⟨(some 4), .mv, [.c (.b true)], none⟩] [4])
 .ret)))

def d34 : DFun := ⟨2, 51, c34, [.t 4]⟩

theorem ok34 : Fok Try.prog 34 d34 := ⟨Try.f34, Try.func34, by kernel_rfl, by kernel_rfl⟩

-- bibelot/bibelotref02.Refutes
def c35 : DC :=
 (.seq (.reg [⟨(some 8), .mv, [.c (.b false)], none⟩] [0, 1, 2, 3])
 (.seq (.reg [⟨(some 9), .mv, [.t 0], none⟩,
   ⟨(some 10), .mv, [.t 3], none⟩,
   ⟨(some 11), (.call (.pu [])), [.c (.fn 34 [] []), .t 9, .t 10], none⟩,
   ⟨(some 12), .mv, [.t 11], none⟩,
   ⟨(some 13), .mv, [.t 3], (some (12, true))⟩,
   ⟨(some 14), .mv, [.t 2], (some (12, true))⟩,
   ⟨(some 15), (.call (.pu [])), [.c (.fn 61 [] []), .t 13, .t 14], (some (12, true))⟩,
   ⟨(some 16), .mv, [.t 3], (some (12, true))⟩,
   ⟨(some 17), .mv, [.t 1], (some (12, true))⟩,
   ⟨(some 18), (.call (.pu [])), [.c (.fn 61 [] []), .t 16, .t 17], (some (12, true))⟩,
   ⟨(some 19), (.binI .gtr), [.t 15, .t 18], (some (12, true))⟩,
   ⟨(some 20), .pick, [.t 12, .t 19, .c (.b false)], none⟩,
   ⟨(some 8), .mv, [.t 20], none⟩] [8])
 .ret))

def d35 : DFun := ⟨4, 21, c35, [.t 8]⟩

theorem ok35 : Fok Try.prog 35 d35 := ⟨Try.f35, Try.func35, by kernel_rfl, by kernel_rfl⟩

-- bibelot/peg.IsPlan
def b36_0 : DC :=
 (.seq (.reg [⟨(some 45), (.binI .lss), [.t 44, .t 43], none⟩] [1, 2, 3, 4, 11, 12, 13, 43, 44, 45])
 (.seq (.cond (.t 45)
  .skip
  (.exit 0))
 (.seq (.block 1
  (.seq (.reg [⟨(some 46), .mv, [.t 44], none⟩,
    ⟨(some 14), .mv, [.t 46], none⟩] [1, 2, 3, 4, 11, 12, 13, 14, 43, 44])
  (.reg [⟨(some 47), (.ld 1 false), [.t 13], none⟩,
    ⟨(some 48), .mv, [.t 14], none⟩,
    ⟨(some 49), .mv, [.t 4], none⟩,
    ⟨(some 50), .mv, [.t 2], none⟩,
    ⟨(some 51), .mv, [.t 14], none⟩,
    ⟨(some 52), (.conv .u64), [.t 51], none⟩,
    ⟨(some 53), (.binI .shr), [.t 50, .t 52], none⟩,
    ⟨(some 54), (.binI .and), [.t 53, .c (.i .i64 1)], none⟩,
    ⟨(some 55), .mv, [.t 3], none⟩,
    ⟨(some 56), .mv, [.t 14], none⟩,
    ⟨(some 57), (.conv .u64), [.t 56], none⟩,
    ⟨(some 58), (.binI .shr), [.t 55, .t 57], none⟩,
    ⟨(some 59), (.binI .and), [.t 58, .c (.i .i64 1)], none⟩,
    ⟨(some 60), (.binI .sub), [.t 54, .t 59], none⟩,
    ⟨(some 61), (.binI .mul), [.t 49, .t 60], none⟩,
    ⟨(some 62), (.ixS 1 false), [.t 47, .t 48], none⟩,
    ⟨none, (.st 1), [.t 62, .t 61], none⟩] [1, 2, 3, 4, 11, 12, 13, 43, 44])))
 (.reg [⟨(some 63), (.binI .add), [.t 44, .c (.i .i64 1)], none⟩,
   ⟨(some 44), .mv, [.t 63], none⟩] [1, 2, 3, 4, 11, 12, 13, 43, 44]))))

def l36_1 : DC :=
 (.loop [1, 2, 3, 4, 11, 12, 13, 43, 44] b36_0)

def a36_2 : DC :=
 (.seq (.reg [⟨(some 15), .mv, [.t 66], none⟩] [11, 12, 13, 15, 67])
 (.reg [⟨(some 16), (.alloc [(.i .i64 0), (.i .i64 0), (.i .i64 0)] true), [], none⟩,
   ⟨none, (.st 3), [.t 16, .t 67], none⟩] [11, 12, 13, 15, 16]))

def b36_3 : DC :=
 (.block 3
  (.seq (.reg [⟨(some 68), (.ld 1 false), [.t 11], none⟩,
    ⟨(some 69), .mv, [.t 15], none⟩,
    ⟨(some 70), (.binI .quo), [.t 69, .c (.i .i64 2)], none⟩,
    ⟨(some 71), .mv, [.t 15], none⟩,
    ⟨(some 72), (.binI .rem), [.t 71, .c (.i .i64 2)], none⟩,
    ⟨(some 73), (.ixS 2 true), [.t 68, .t 70], none⟩,
    ⟨(some 74), (.ixA 2 1 false), [.t 73, .t 72], none⟩,
    ⟨(some 75), (.ld 1 false), [.t 74], none⟩,
    ⟨(some 17), .mv, [.t 75], none⟩] [12, 13, 16, 17])
  (.seq (.seq (.reg [⟨(some 76), .mv, [.t 17], none⟩,
    ⟨(some 77), (.binI .lss), [.t 76, .c (.i .i64 0)], none⟩,
    ⟨(some 78), .mv, [.t 77], none⟩,
    ⟨(some 79), .mv, [.t 17], (some (78, false))⟩,
    ⟨(some 80), (.binI .gtr), [.t 79, .c (.i .i64 1000000)], (some (78, false))⟩,
    ⟨(some 81), .pick, [.t 78, .c (.b true), .t 80], none⟩] [12, 13, 16, 17, 81])
  (.cond (.t 81)
   (.seq (.reg [⟨none, (.st 1), [.t 12, .c (.b false)], none⟩] [])
   .ret)
   .skip))
  (.seq (.reg [⟨(some 82), (.ld 1 false), [.t 13], none⟩,
    ⟨(some 83), (.fadr 0 1 false), [.t 16], none⟩,
    ⟨(some 84), (.ld 1 false), [.t 83], none⟩,
    ⟨(some 85), (.ixS 1 false), [.t 82, .t 84], none⟩,
    ⟨(some 86), (.ld 1 false), [.t 85], none⟩,
    ⟨(some 87), .mv, [.t 17], none⟩,
    ⟨(some 88), (.binI .sub), [.t 86, .t 87], none⟩,
    ⟨(some 89), (.ixS 1 false), [.t 82, .t 84], none⟩,
    ⟨none, (.st 1), [.t 89, .t 88], none⟩] [13, 16, 17])
  (.seq (.reg [⟨(some 90), (.ld 1 false), [.t 13], none⟩,
    ⟨(some 91), (.fadr 1 1 false), [.t 16], none⟩,
    ⟨(some 92), (.ld 1 false), [.t 91], none⟩,
    ⟨(some 93), (.ixS 1 false), [.t 90, .t 92], none⟩,
    ⟨(some 94), (.ld 1 false), [.t 93], none⟩,
    ⟨(some 95), .mv, [.t 17], none⟩,
    ⟨(some 96), (.binI .sub), [.t 94, .t 95], none⟩,
    ⟨(some 97), (.ixS 1 false), [.t 90, .t 92], none⟩,
    ⟨none, (.st 1), [.t 97, .t 96], none⟩] [13, 16, 17])
  (.reg [⟨(some 98), (.ld 1 false), [.t 13], none⟩,
    ⟨(some 99), (.fadr 2 1 false), [.t 16], none⟩,
    ⟨(some 100), (.ld 1 false), [.t 99], none⟩,
    ⟨(some 101), (.ixS 1 false), [.t 98, .t 100], none⟩,
    ⟨(some 102), (.ld 1 false), [.t 101], none⟩,
    ⟨(some 103), .mv, [.t 17], none⟩,
    ⟨(some 104), (.binI .add), [.t 102, .t 103], none⟩,
    ⟨(some 105), (.ixS 1 false), [.t 98, .t 100], none⟩,
    ⟨none, (.st 1), [.t 105, .t 104], none⟩] []))))))

def c36 : DC :=
 (.seq (.reg [⟨(some 11), (.box false), [.t 5], none⟩,
   ⟨(some 12), (.alloc [(.b false)] false), [], none⟩] [0, 1, 2, 3, 4, 11, 12])
 (.seq (.seq (.reg [⟨(some 18), .mv, [.t 0], none⟩,
   ⟨(some 19), .mv, [.t 1], none⟩,
   ⟨(some 20), .mv, [.t 2], none⟩,
   ⟨(some 21), .mv, [.t 3], none⟩,
   ⟨(some 22), (.bsl false [(.i .i64 0)] false 2 [0, 1]), [.t 20, .t 21], none⟩,
   ⟨(some 23), (.call (.pu [])), [.c (.fn 48 [] []), .t 18, .t 19, .t 22], none⟩,
   ⟨(some 24), (.binI .neq), [.t 23, .c (.i .i64 0)], none⟩,
   ⟨(some 25), .mv, [.t 24], none⟩,
   ⟨(some 26), .mv, [.t 4], (some (25, false))⟩,
   ⟨(some 27), (.binI .lss), [.t 26, .c (.i .i64 1)], (some (25, false))⟩,
   ⟨(some 28), .pick, [.t 25, .c (.b true), .t 27], none⟩,
   ⟨(some 29), .mv, [.t 28], none⟩,
   ⟨(some 30), .mv, [.t 4], (some (29, false))⟩,
   ⟨(some 31), (.binI .gtr), [.t 30, .c (.i .i64 1000000)], (some (29, false))⟩,
   ⟨(some 32), .pick, [.t 29, .c (.b true), .t 31], none⟩,
   ⟨(some 33), .mv, [.t 32], none⟩,
   ⟨(some 34), (.ld 1 false), [.t 11], (some (33, false))⟩,
   ⟨(some 35), (.len 0), [.t 34], (some (33, false))⟩,
   ⟨(some 36), .mv, [.t 1], (some (33, false))⟩,
   ⟨(some 37), (.len 0), [.t 36], (some (33, false))⟩,
   ⟨(some 38), (.binI .neq), [.t 35, .t 37], (some (33, false))⟩,
   ⟨(some 39), .pick, [.t 33, .c (.b true), .t 38], none⟩] [0, 1, 2, 3, 4, 11, 12, 39])
 (.cond (.t 39)
  (.seq (.reg [⟨none, (.st 1), [.t 12, .c (.b false)], none⟩] [12])
  .ret)
  .skip))
 (.seq (.reg [⟨(some 40), .mv, [.t 0], none⟩,
   ⟨(some 41), (.mksl [(.i .i64 0)] false 8), [.t 40, .t 40], none⟩,
   ⟨(some 13), (.alloc [.nilsl] false), [], none⟩,
   ⟨none, (.st 1), [.t 13, .t 41], none⟩] [1, 2, 3, 4, 11, 12, 13])
 (.seq (.seq (.reg [⟨(some 42), (.ld 1 false), [.t 13], none⟩,
   ⟨(some 43), (.len 0), [.t 42], none⟩,
   ⟨(some 44), .mv, [.c (.i .i64 0)], none⟩] [1, 2, 3, 4, 11, 12, 13, 43, 44])
 (.block 0
  l36_1))
 (.seq (.seq (.reg [⟨(some 64), .mv, [.t 1], none⟩,
   ⟨(some 65), (.call .sh), [.c (.fn 62 [] []), .t 64], none⟩] [11, 12, 13, 65])
 (.block 2
  (.rfunc (.t 65) [66, 67] a36_2
   b36_3 [11, 12, 13])))
 (.seq (.reg [⟨(some 106), (.ld 1 false), [.t 13], none⟩,
   ⟨(some 107), (.call .sh), [.c (.fn 55 [] []), .t 106, .c (.fn 63 [] [])], none⟩,
   ⟨(some 108), .notB, [.t 107], none⟩,
   ⟨none, (.st 1), [.t 12, .t 108], none⟩] [12])
 .ret))))))

def d36 : DFun := ⟨6, 109, c36, [.c 12 1 false]⟩

theorem ok36 : Fok Try.prog 36 d36 := ⟨Try.f36, Try.func36, by kernel_rfl, by kernel_rfl⟩

-- bibelot/bibelotref02.IsPlan
def b37_0 : DC :=
 (.seq (.seq (.reg [⟨(some 36), .mv, [.t 14], none⟩,
   ⟨(some 37), .mv, [.t 1], none⟩,
   ⟨(some 38), (.len 0), [.t 37], none⟩,
   ⟨(some 39), (.binI .lss), [.t 36, .t 38], none⟩] [0, 1, 2, 3, 4, 5, 13, 14, 39])
 (.cond (.t 39)
  .skip
  (.exit 0)))
 (.seq (.block 1
  (.seq (.reg [⟨(some 42), .mv, [.t 1], none⟩,
    ⟨(some 43), .mv, [.t 14], none⟩,
    ⟨(some 44), (.ixS 3 true), [.t 42, .t 43], none⟩,
    ⟨(some 45), (.ixA 3 1 false), [.t 44, .c (.i .i64 0)], none⟩,
    ⟨(some 46), (.ld 1 false), [.t 45], none⟩,
    ⟨(some 47), .mv, [.t 1], none⟩,
    ⟨(some 48), .mv, [.t 14], none⟩,
    ⟨(some 49), (.ixS 3 true), [.t 47, .t 48], none⟩,
    ⟨(some 50), (.ixA 3 1 false), [.t 49, .c (.i .i64 1)], none⟩,
    ⟨(some 51), (.ld 1 false), [.t 50], none⟩,
    ⟨(some 52), .mv, [.t 1], none⟩,
    ⟨(some 53), .mv, [.t 14], none⟩,
    ⟨(some 54), (.ixS 3 true), [.t 52, .t 53], none⟩,
    ⟨(some 55), (.ixA 3 1 false), [.t 54, .c (.i .i64 2)], none⟩,
    ⟨(some 56), (.ld 1 false), [.t 55], none⟩,
    ⟨(some 15), .mv, [.t 46], none⟩,
    ⟨(some 16), .mv, [.t 51], none⟩,
    ⟨(some 17), .mv, [.t 56], none⟩] [0, 1, 2, 3, 4, 5, 13, 14, 15, 16, 17])
  (.seq (.reg [⟨(some 57), .mv, [.t 5], none⟩,
    ⟨(some 58), .mv, [.t 14], none⟩,
    ⟨(some 59), (.ixS 2 true), [.t 57, .t 58], none⟩,
    ⟨(some 60), (.ixA 2 1 false), [.t 59, .c (.i .i64 0)], none⟩,
    ⟨(some 61), (.ld 1 false), [.t 60], none⟩,
    ⟨(some 62), .mv, [.t 5], none⟩,
    ⟨(some 63), .mv, [.t 14], none⟩,
    ⟨(some 64), (.ixS 2 true), [.t 62, .t 63], none⟩,
    ⟨(some 65), (.ixA 2 1 false), [.t 64, .c (.i .i64 1)], none⟩,
    ⟨(some 66), (.ld 1 false), [.t 65], none⟩,
    ⟨(some 18), .mv, [.t 61], none⟩,
    ⟨(some 19), .mv, [.t 66], none⟩] [0, 1, 2, 3, 4, 5, 13, 14, 15, 16, 17, 18, 19])
  (.seq (.seq (.reg [⟨(some 67), .mv, [.t 18], none⟩,
    ⟨(some 68), (.binI .lss), [.t 67, .c (.i .i64 0)], none⟩,
    ⟨(some 69), .mv, [.t 68], none⟩,
    ⟨(some 70), .mv, [.t 18], (some (69, false))⟩,
    ⟨(some 71), (.binI .gtr), [.t 70, .c (.i .i64 1000000)], (some (69, false))⟩,
    ⟨(some 72), .pick, [.t 69, .c (.b true), .t 71], none⟩,
    ⟨(some 73), .mv, [.t 72], none⟩,
    ⟨(some 74), .mv, [.t 19], (some (73, false))⟩,
    ⟨(some 75), (.binI .lss), [.t 74, .c (.i .i64 0)], (some (73, false))⟩,
    ⟨(some 76), .pick, [.t 73, .c (.b true), .t 75], none⟩,
    ⟨(some 77), .mv, [.t 76], none⟩,
    ⟨(some 78), .mv, [.t 19], (some (77, false))⟩,
    ⟨(some 79), (.binI .gtr), [.t 78, .c (.i .i64 1000000)], (some (77, false))⟩,
    ⟨(some 80), .pick, [.t 77, .c (.b true), .t 79], none⟩] [0, 1, 2, 3, 4, 5, 13, 14, 15, 16, 17, 18, 19, 80])
  (.cond (.t 80)
   (.seq (.reg [⟨(some 12), .mv, [.c (.b false)], none⟩] [12])
   .ret)
   .skip))
  (.seq (.reg [⟨(some 81), .mv, [.t 13], none⟩,
    ⟨(some 82), .mv, [.t 15], none⟩,
    ⟨(some 83), .mv, [.t 13], none⟩,
    ⟨(some 84), .mv, [.t 15], none⟩,
    ⟨(some 85), (.ixS 1 false), [.t 83, .t 84], none⟩,
    ⟨(some 86), (.ld 1 false), [.t 85], none⟩,
    ⟨(some 87), .mv, [.t 18], none⟩,
    ⟨(some 88), (.binI .add), [.t 86, .t 87], none⟩,
    ⟨(some 89), .mv, [.t 19], none⟩,
    ⟨(some 90), (.binI .sub), [.t 88, .t 89], none⟩,
    ⟨(some 91), (.ixS 1 false), [.t 81, .t 82], none⟩,
    ⟨none, (.st 1), [.t 91, .t 90], none⟩] [0, 1, 2, 3, 4, 5, 13, 14, 16, 17, 18, 19])
  (.seq (.reg [⟨(some 92), .mv, [.t 13], none⟩,
    ⟨(some 93), .mv, [.t 16], none⟩,
    ⟨(some 94), .mv, [.t 13], none⟩,
    ⟨(some 95), .mv, [.t 16], none⟩,
    ⟨(some 96), (.ixS 1 false), [.t 94, .t 95], none⟩,
    ⟨(some 97), (.ld 1 false), [.t 96], none⟩,
    ⟨(some 98), .mv, [.t 18], none⟩,
    ⟨(some 99), (.binI .add), [.t 97, .t 98], none⟩,
    ⟨(some 100), .mv, [.t 19], none⟩,
    ⟨(some 101), (.binI .add), [.t 99, .t 100], none⟩,
    ⟨(some 102), (.ixS 1 false), [.t 92, .t 93], none⟩,
    ⟨none, (.st 1), [.t 102, .t 101], none⟩] [0, 1, 2, 3, 4, 5, 13, 14, 17, 18, 19])
  (.reg [⟨(some 103), .mv, [.t 13], none⟩,
    ⟨(some 104), .mv, [.t 17], none⟩,
    ⟨(some 105), .mv, [.t 13], none⟩,
    ⟨(some 106), .mv, [.t 17], none⟩,
    ⟨(some 107), (.ixS 1 false), [.t 105, .t 106], none⟩,
    ⟨(some 108), (.ld 1 false), [.t 107], none⟩,
    ⟨(some 109), .mv, [.t 19], none⟩,
    ⟨(some 110), (.binI .add), [.t 108, .t 109], none⟩,
    ⟨(some 111), .mv, [.t 18], none⟩,
    ⟨(some 112), (.binI .sub), [.t 110, .t 111], none⟩,
    ⟨(some 113), (.ixS 1 false), [.t 103, .t 104], none⟩,
    ⟨none, (.st 1), [.t 113, .t 112], none⟩] [0, 1, 2, 3, 4, 5, 13, 14])))))))
 (.reg [⟨(some 40), .mv, [.t 14], none⟩,
   ⟨(some 41), (.binI .add), [.t 40, .c (.i .i64 1)], none⟩,
   ⟨(some 14), .mv, [.t 41], none⟩] [0, 1, 2, 3, 4, 5, 13, 14])))

def l37_1 : DC :=
 (.loop [0, 1, 2, 3, 4, 5, 13, 14] b37_0)

def b37_2 : DC :=
 (.seq (.seq (.reg [⟨(some 114), .mv, [.t 20], none⟩,
   ⟨(some 115), .mv, [.t 0], none⟩,
   ⟨(some 116), (.binI .lss), [.t 114, .t 115], none⟩] [0, 2, 3, 4, 13, 20, 116])
 (.cond (.t 116)
  .skip
  (.exit 2)))
 (.seq (.block 3
  (.seq (.reg [⟨(some 119), .mv, [.t 13], none⟩,
    ⟨(some 120), .mv, [.t 20], none⟩,
    ⟨(some 121), (.ixS 1 false), [.t 119, .t 120], none⟩,
    ⟨(some 122), (.ld 1 false), [.t 121], none⟩,
    ⟨(some 123), .mv, [.t 4], none⟩,
    ⟨(some 124), .mv, [.t 2], none⟩,
    ⟨(some 125), .mv, [.t 20], none⟩,
    ⟨(some 126), (.binI .shr), [.t 124, .t 125], none⟩,
    ⟨(some 127), (.binI .rem), [.t 126, .c (.i .i64 2)], none⟩,
    ⟨(some 128), (.binI .mul), [.t 123, .t 127], none⟩,
    ⟨(some 129), .mv, [.t 4], none⟩,
    ⟨(some 130), .mv, [.t 3], none⟩,
    ⟨(some 131), .mv, [.t 20], none⟩,
    ⟨(some 132), (.binI .shr), [.t 130, .t 131], none⟩,
    ⟨(some 133), (.binI .rem), [.t 132, .c (.i .i64 2)], none⟩,
    ⟨(some 134), (.binI .mul), [.t 129, .t 133], none⟩,
    ⟨(some 135), (.binI .sub), [.t 128, .t 134], none⟩,
    ⟨(some 136), (.binI .neq), [.t 122, .t 135], none⟩] [0, 2, 3, 4, 13, 20, 136])
  (.cond (.t 136)
   (.seq (.reg [⟨(some 12), .mv, [.c (.b false)], none⟩] [12])
   .ret)
   .skip)))
 (.reg [⟨(some 117), .mv, [.t 20], none⟩,
   ⟨(some 118), (.binI .add), [.t 117, .c (.i .i64 1)], none⟩,
   ⟨(some 20), .mv, [.t 118], none⟩] [0, 2, 3, 4, 13, 20])))

def l37_3 : DC :=
 (.loop [0, 2, 3, 4, 13, 20] b37_2)

def c37 : DC :=
 (.seq (.reg [⟨(some 12), .mv, [.c (.b false)], none⟩] [0, 1, 2, 3, 4, 5])
 (.seq (.seq (.reg [⟨(some 21), .mv, [.t 4], none⟩,
   ⟨(some 22), (.binI .lss), [.t 21, .c (.i .i64 1)], none⟩,
   ⟨(some 23), .mv, [.t 22], none⟩,
   ⟨(some 24), .mv, [.t 4], (some (23, false))⟩,
   ⟨(some 25), (.binI .gtr), [.t 24, .c (.i .i64 1000000)], (some (23, false))⟩,
   ⟨(some 26), .pick, [.t 23, .c (.b true), .t 25], none⟩,
   ⟨(some 27), .mv, [.t 26], none⟩,
   ⟨(some 28), .mv, [.t 5], (some (27, false))⟩,
   ⟨(some 29), (.len 0), [.t 28], (some (27, false))⟩,
   ⟨(some 30), .mv, [.t 1], (some (27, false))⟩,
   ⟨(some 31), (.len 0), [.t 30], (some (27, false))⟩,
   ⟨(some 32), (.binI .neq), [.t 29, .t 31], (some (27, false))⟩,
   ⟨(some 33), .pick, [.t 27, .c (.b true), .t 32], none⟩] [0, 1, 2, 3, 4, 5, 33])
 (.cond (.t 33)
  (.seq (.reg [⟨(some 12), .mv, [.c (.b false)], none⟩] [12])
  .ret)
  .skip))
 (.seq (.reg [⟨(some 34), .mv, [.t 0], none⟩,
   ⟨(some 35), (.mksl [(.i .i64 0)] false 8), [.t 34, .t 34], none⟩,
   ⟨(some 13), .mv, [.t 35], none⟩] [0, 1, 2, 3, 4, 5, 13])
 (.seq (.seq (.reg [⟨(some 14), .mv, [.c (.i .i64 0)], none⟩] [0, 1, 2, 3, 4, 5, 13, 14])
 (.block 0
  l37_1))
 (.seq (.seq (.reg [⟨(some 20), .mv, [.c (.i .i64 0)], none⟩] [0, 2, 3, 4, 13, 20])
 (.block 2
  l37_3))
 (.seq (.reg [⟨(some 12), .mv, [.c (.b true)], none⟩] [12])
 .ret))))))

def d37 : DFun := ⟨6, 137, c37, [.t 12]⟩

theorem ok37 : Fok Try.prog 37 d37 := ⟨Try.f37, Try.func37, by kernel_rfl, by kernel_rfl⟩

-- bibelot/bibelotref02.Jumps
def b38_0 : DC :=
 (.seq (.seq (.reg [⟨(some 48), .mv, [.t 12], none⟩,
   ⟨(some 49), .mv, [.t 5], none⟩,
   ⟨(some 50), (.len 0), [.t 49], none⟩,
   ⟨(some 51), (.binI .lss), [.t 48, .t 50], none⟩,
   ⟨(some 52), .mv, [.t 51], none⟩,
   ⟨(some 53), .mv, [.t 5], (some (52, true))⟩,
   ⟨(some 54), .mv, [.t 12], (some (52, true))⟩,
   ⟨(some 55), (.ixS 3 true), [.t 53, .t 54], (some (52, true))⟩,
   ⟨(some 56), (.ld 3 true), [.t 55], (some (52, true))⟩,
   ⟨(some 57), .mv, [.t 8], (some (52, true))⟩,
   ⟨(some 58), .mv, [.t 9], (some (52, true))⟩,
   ⟨(some 59), (.ixS 3 true), [.t 57, .t 58], (some (52, true))⟩,
   ⟨(some 60), (.ld 3 true), [.t 59], (some (52, true))⟩,
   ⟨(some 61), (.call (.pu [])), [.c (.fn 64 [] []), .t 56, .t 60], (some (52, true))⟩,
   ⟨(some 62), .pick, [.t 52, .t 61, .c (.b false)], none⟩] [0, 1, 5, 6, 8, 9, 12, 62])
 (.cond (.t 62)
  .skip
  (.exit 4)))
 (.block 5
  (.reg [⟨(some 63), .mv, [.t 12], none⟩,
    ⟨(some 64), (.binI .add), [.t 63, .c (.i .i64 1)], none⟩,
    ⟨(some 12), .mv, [.t 64], none⟩] [0, 1, 5, 6, 8, 9, 12])))

def l38_1 : DC :=
 (.loop [0, 1, 5, 6, 8, 9, 12] b38_0)

def b38_2 : DC :=
 (.seq (.seq (.reg [⟨(some 33), .mv, [.t 9], none⟩,
   ⟨(some 34), (.binI .lss), [.t 33, .c (.i .i64 2)], none⟩] [0, 1, 5, 6, 8, 9, 34])
 (.cond (.t 34)
  .skip
  (.exit 2)))
 (.seq (.block 3
  (.seq (.seq (.reg [⟨(some 38), .mv, [.t 1], none⟩,
    ⟨(some 39), .mv, [.t 8], none⟩,
    ⟨(some 40), .mv, [.t 9], none⟩,
    ⟨(some 41), (.ixS 3 true), [.t 39, .t 40], none⟩,
    ⟨(some 42), (.ld 3 true), [.t 41], none⟩,
    ⟨(some 43), (.call (.pu [])), [.c (.fn 39 [] []), .t 38, .t 42], none⟩,
    ⟨(some 37), .mv, [.t 43], none⟩,
    ⟨(some 44), (.ext 0), [.t 37], none⟩,
    ⟨(some 45), (.ext 1), [.t 37], none⟩,
    ⟨(some 10), .mv, [.t 44], none⟩,
    ⟨(some 11), .mv, [.t 45], none⟩] [0, 1, 5, 6, 8, 9, 11])
  (.seq (.reg [⟨(some 46), .mv, [.t 11], none⟩,
    ⟨(some 47), .notB, [.t 46], none⟩] [0, 1, 5, 6, 8, 9, 47])
  (.cond (.t 47)
   (.exit 3)
   .skip)))
  (.seq (.reg [⟨(some 12), .mv, [.c (.i .i64 0)], none⟩] [0, 1, 5, 6, 8, 9, 12])
  (.seq (.block 4
   l38_1)
  (.seq (.reg [⟨(some 13), .mv, [.c .nilsl], none⟩] [0, 1, 5, 6, 8, 9, 12, 13])
  (.seq (.reg [⟨(some 65), .mv, [.t 13], none⟩,
    ⟨(some 66), .mv, [.t 5], none⟩,
    ⟨(some 67), .mv, [.t 12], none⟩,
    ⟨(some 68), (.slc false true false 3 true), [.t 66, .t 67], none⟩,
    ⟨(some 69), (.app 3 true 24), [.t 65, .t 68], none⟩,
    ⟨(some 13), .mv, [.t 69], none⟩] [0, 1, 5, 6, 8, 9, 12, 13])
  (.seq (.reg [⟨(some 70), .mv, [.t 13], none⟩,
    ⟨(some 71), .mv, [.t 8], none⟩,
    ⟨(some 72), .mv, [.t 9], none⟩,
    ⟨(some 73), (.ixS 3 true), [.t 71, .t 72], none⟩,
    ⟨(some 74), (.ld 3 true), [.t 73], none⟩,
    ⟨(some 75), (.bsl false [(.i .i64 0), (.i .i64 0), (.i .i64 0)] true 1 [0]), [.t 74], none⟩,
    ⟨(some 76), (.app 3 true 24), [.t 70, .t 75], none⟩,
    ⟨(some 13), .mv, [.t 76], none⟩] [0, 1, 5, 6, 8, 9, 12, 13])
  (.reg [⟨(some 77), .mv, [.t 13], none⟩,
    ⟨(some 78), .mv, [.t 5], none⟩,
    ⟨(some 79), .mv, [.t 12], none⟩,
    ⟨(some 80), (.slc true false false 3 true), [.t 78, .t 79], none⟩,
    ⟨(some 81), (.app 3 true 24), [.t 77, .t 80], none⟩,
    ⟨(some 5), .mv, [.t 81], none⟩] [0, 1, 5, 6, 8, 9]))))))))
 (.reg [⟨(some 35), .mv, [.t 9], none⟩,
   ⟨(some 36), (.binI .add), [.t 35, .c (.i .i64 1)], none⟩,
   ⟨(some 9), .mv, [.t 36], none⟩] [0, 1, 5, 6, 8, 9])))

def l38_3 : DC :=
 (.loop [0, 1, 5, 6, 8, 9] b38_2)

def b38_4 : DC :=
 (.seq (.seq (.reg [⟨(some 14), .mv, [.t 6], none⟩,
   ⟨(some 15), .mv, [.t 0], none⟩,
   ⟨(some 16), (.len 0), [.t 15], none⟩,
   ⟨(some 17), (.binI .lss), [.t 14, .t 16], none⟩] [0, 1, 5, 6, 17])
 (.cond (.t 17)
  .skip
  (.exit 0)))
 (.seq (.block 1
  (.seq (.reg [⟨(some 20), .mv, [.t 0], none⟩,
    ⟨(some 21), .mv, [.t 6], none⟩,
    ⟨(some 22), (.ixS 3 true), [.t 20, .t 21], none⟩,
    ⟨(some 23), (.ld 3 true), [.t 22], none⟩,
    ⟨(some 7), (.alloc [(.i .i64 0), (.i .i64 0), (.i .i64 0)] true), [], none⟩,
    ⟨none, (.st 3), [.t 7, .t 23], none⟩] [0, 1, 5, 6, 7])
  (.seq (.reg [⟨(some 24), (.ld 3 true), [.t 7], none⟩,
    ⟨(some 25), (.ixA 3 1 false), [.t 7, .c (.i .i64 2)], none⟩,
    ⟨(some 26), (.ld 1 false), [.t 25], none⟩,
    ⟨(some 27), (.ixA 3 1 false), [.t 7, .c (.i .i64 1)], none⟩,
    ⟨(some 28), (.ld 1 false), [.t 27], none⟩,
    ⟨(some 29), (.ixA 3 1 false), [.t 7, .c (.i .i64 0)], none⟩,
    ⟨(some 30), (.ld 1 false), [.t 29], none⟩,
    ⟨(some 31), (.build [(.i .i64 0), (.i .i64 0), (.i .i64 0)] [(0, 1), (1, 1), (2, 1)]), [.t 26, .t 28, .t 30], none⟩,
    ⟨(some 32), (.bsl false [(.i .i64 0), (.i .i64 0), (.i .i64 0)] true 2 [0, 1]), [.t 24, .t 31], none⟩,
    ⟨(some 8), .mv, [.t 32], none⟩] [0, 1, 5, 6, 8])
  (.seq (.reg [⟨(some 9), .mv, [.c (.i .i64 0)], none⟩] [0, 1, 5, 6, 8, 9])
  (.block 2
   l38_3)))))
 (.reg [⟨(some 18), .mv, [.t 6], none⟩,
   ⟨(some 19), (.binI .add), [.t 18, .c (.i .i64 1)], none⟩,
   ⟨(some 6), .mv, [.t 19], none⟩] [0, 1, 5, 6])))

def l38_5 : DC :=
 (.loop [0, 1, 5, 6] b38_4)

def c38 : DC :=
 (.seq (.reg [⟨(some 4), .mv, [.c .nilsl], none⟩] [0, 1])
 (.seq (.reg [⟨(some 5), .mv, [.c .nilsl], none⟩] [0, 1, 5])
 (.seq (.seq (.reg [⟨(some 6), .mv, [.c (.i .i64 0)], none⟩] [0, 1, 5, 6])
 (.block 0
  l38_5))
 (.seq (.reg [⟨(some 82), .mv, [.t 5], none⟩,
   ⟨(some 4), .mv, [.t 82], none⟩] [4])
 .ret))))

def d38 : DFun := ⟨2, 83, c38, [.t 4]⟩

theorem ok38 : Fok Try.prog 38 d38 := ⟨Try.f38, Try.func38, by kernel_rfl, by kernel_rfl⟩

-- bibelot/bibelotref02.Jump
def c39 : DC :=
 (.seq (.reg [⟨(some 3), (.box true), [.t 1], none⟩,
   ⟨(some 4), .mv, [.c (.i .i64 0)], none⟩,
   ⟨(some 5), .mv, [.c (.b false)], none⟩] [0, 3])
 (.seq (.seq (.reg [⟨(some 6), .mv, [.t 0], none⟩,
   ⟨(some 7), (.ixA 3 1 false), [.t 3, .c (.i .i64 0)], none⟩,
   ⟨(some 8), (.ld 1 false), [.t 7], none⟩,
   ⟨(some 9), (.binI .shr), [.t 6, .t 8], none⟩,
   ⟨(some 10), (.binI .rem), [.t 9, .c (.i .i64 2)], none⟩,
   ⟨(some 11), (.binI .eql), [.t 10, .c (.i .i64 0)], none⟩,
   ⟨(some 12), .mv, [.t 11], none⟩,
   ⟨(some 13), .mv, [.t 0], (some (12, false))⟩,
   ⟨(some 14), (.ixA 3 1 false), [.t 3, .c (.i .i64 1)], (some (12, false))⟩,
   ⟨(some 15), (.ld 1 false), [.t 14], (some (12, false))⟩,
   ⟨(some 16), (.binI .shr), [.t 13, .t 15], (some (12, false))⟩,
   ⟨(some 17), (.binI .rem), [.t 16, .c (.i .i64 2)], (some (12, false))⟩,
   ⟨(some 18), (.binI .eql), [.t 17, .c (.i .i64 0)], (some (12, false))⟩,
   ⟨(some 19), .pick, [.t 12, .c (.b true), .t 18], none⟩,
   ⟨(some 20), .mv, [.t 19], none⟩,
   ⟨(some 21), .mv, [.t 0], (some (20, false))⟩,
   ⟨(some 22), (.ixA 3 1 false), [.t 3, .c (.i .i64 2)], (some (20, false))⟩,
   ⟨(some 23), (.ld 1 false), [.t 22], (some (20, false))⟩,
   ⟨(some 24), (.binI .shr), [.t 21, .t 23], (some (20, false))⟩,
   ⟨(some 25), (.binI .rem), [.t 24, .c (.i .i64 2)], (some (20, false))⟩,
   ⟨(some 26), (.binI .eql), [.t 25, .c (.i .i64 1)], (some (20, false))⟩,
   ⟨(some 27), .pick, [.t 20, .c (.b true), .t 26], none⟩] [0, 3, 27])
 (.cond (.t 27)
  (.seq (.reg [⟨(some 28), .mv, [.t 0], none⟩,
    ⟨(some 4), .mv, [.t 28], none⟩,
    ⟨(some 5), .mv, [.c (.b false)], none⟩] [4, 5])
  .ret)
  .skip))
 (.seq (.reg [⟨(some 29), .mv, [.t 0], none⟩,
   ⟨(some 30), (.ixA 3 1 false), [.t 3, .c (.i .i64 0)], none⟩,
   ⟨(some 31), (.ld 1 false), [.t 30], none⟩,
   ⟨(some 32), (.binI .shl), [.c (.i .i64 1), .t 31], none⟩,
   ⟨(some 33), (.binI .andNot), [.t 29, .t 32], none⟩,
   ⟨(some 34), (.ixA 3 1 false), [.t 3, .c (.i .i64 1)], none⟩,
   ⟨(some 35), (.ld 1 false), [.t 34], none⟩,
   ⟨(some 36), (.binI .shl), [.c (.i .i64 1), .t 35], none⟩,
   ⟨(some 37), (.binI .andNot), [.t 33, .t 36], none⟩,
   ⟨(some 38), (.ixA 3 1 false), [.t 3, .c (.i .i64 2)], none⟩,
   ⟨(some 39), (.ld 1 false), [.t 38], none⟩,
   ⟨(some 40), (.binI .shl), [.c (.i .i64 1), .t 39], none⟩,
   ⟨(some 41), (.binI .or), [.t 37, .t 40], none⟩,
   ⟨(some 4), .mv, [.t 41], none⟩,
   ⟨(some 5), .mv, [.c (.b true)], none⟩] [4, 5])
 .ret)))

def d39 : DFun := ⟨2, 42, c39, [.t 4, .t 5]⟩

theorem ok39 : Fok Try.prog 39 d39 := ⟨Try.f39, Try.func39, by kernel_rfl, by kernel_rfl⟩

-- bibelot/peg.Play
def a40_0 : DC :=
 (.reg [⟨(some 16), (.alloc [(.i .i64 0), (.i .i64 0), (.i .i64 0)] true), [], none⟩,
   ⟨none, (.st 3), [.t 16, .t 43], none⟩] [13, 14, 16])

def b40_1 : DC :=
 (.block 3
  (.seq (.reg [⟨(some 44), (.ld 3 true), [.t 16], none⟩,
    ⟨(some 45), (.ld 3 true), [.t 13], none⟩,
    ⟨(some 46), (.eqA false [true, true, true]), [.t 44, .t 45], none⟩] [14, 46])
  (.cond (.t 46)
   (.seq (.reg [⟨none, (.st 1), [.t 14, .c (.b true)], none⟩] [])
   (.exit 2))
   .skip)))

def b40_2 : DC :=
 (.seq (.reg [⟨(some 30), (.binI .lss), [.t 29, .t 28], none⟩] [1, 2, 27, 28, 29, 30])
 (.seq (.cond (.t 30)
  .skip
  (.exit 0))
 (.seq (.block 1
  (.seq (.reg [⟨(some 31), (.ixS 3 true), [.t 27, .t 29], none⟩,
    ⟨(some 32), (.ld 3 true), [.t 31], none⟩,
    ⟨(some 12), (.alloc [(.i .i64 0), (.i .i64 0), (.i .i64 0)] true), [], none⟩,
    ⟨none, (.st 3), [.t 12, .t 32], none⟩] [1, 2, 12, 27, 28, 29])
  (.scope (.seq (.reg [⟨(some 33), (.ixA 3 1 false), [.t 12, .c (.i .i64 0)], none⟩,
    ⟨(some 34), (.ld 1 false), [.t 33], none⟩,
    ⟨(some 35), (.ixA 3 1 false), [.t 12, .c (.i .i64 1)], none⟩,
    ⟨(some 36), (.ld 1 false), [.t 35], none⟩,
    ⟨(some 37), (.ixA 3 1 false), [.t 12, .c (.i .i64 2)], none⟩,
    ⟨(some 38), (.ld 1 false), [.t 37], none⟩,
    ⟨(some 39), (.build [(.i .i64 0), (.i .i64 0), (.i .i64 0)] [(0, 1), (1, 1), (2, 1)]), [.t 34, .t 36, .t 38], none⟩,
    ⟨(some 13), (.alloc [(.i .i64 0), (.i .i64 0), (.i .i64 0)] true), [], none⟩,
    ⟨none, (.st 3), [.t 13, .t 39], none⟩] [1, 2, 13, 27, 28, 29])
  (.seq (.reg [⟨(some 14), (.alloc [(.b false)] false), [], none⟩,
    ⟨none, (.st 1), [.t 14, .c (.b false)], none⟩] [1, 2, 13, 14, 27, 28, 29])
  (.seq .skip
  (.seq (.seq (.reg [⟨(some 40), .mv, [.t 1], none⟩,
    ⟨(some 41), (.call .sh), [.c (.fn 62 [] []), .t 40], none⟩] [1, 2, 13, 14, 27, 28, 29, 41])
  (.block 2
   (.rfunc (.t 41) [42, 43] a40_0
    b40_1 [1, 2, 13, 14, 27, 28, 29])))
  (.seq (.seq (.reg [⟨(some 47), (.ld 1 false), [.t 14], none⟩,
    ⟨(some 48), .notB, [.t 47], none⟩] [1, 2, 13, 27, 28, 29, 48])
  (.cond (.t 48)
   (.seq (.reg [⟨(some 8), .mv, [.c (.i .i64 0)], none⟩,
     ⟨(some 9), .mv, [.c (.i .i64 21)], none⟩] [8, 9])
   .ret)
   .skip))
  (.seq (.reg [⟨(some 50), (.ld 3 true), [.t 13], none⟩,
    ⟨(some 51), .mv, [.t 2], none⟩,
    ⟨(some 52), (.call (.pu [])), [.c (.fn 65 [] []), .t 50, .t 51], none⟩,
    ⟨(some 49), .mv, [.t 52], none⟩,
    ⟨(some 53), (.ext 0), [.t 49], none⟩,
    ⟨(some 54), (.ext 1), [.t 49], none⟩,
    ⟨(some 17), .mv, [.t 53], none⟩,
    ⟨(some 18), .mv, [.t 54], none⟩] [1, 17, 18, 27, 28, 29])
  (.seq (.seq (.reg [⟨(some 55), .mv, [.t 18], none⟩,
    ⟨(some 56), .notB, [.t 55], none⟩] [1, 17, 27, 28, 29, 56])
  (.cond (.t 56)
   (.seq (.reg [⟨(some 8), .mv, [.c (.i .i64 0)], none⟩,
     ⟨(some 9), .mv, [.c (.i .i64 21)], none⟩] [8, 9])
   .ret)
   .skip))
  (.reg [⟨(some 57), .mv, [.t 17], none⟩,
    ⟨(some 2), .mv, [.t 57], none⟩] [1, 2, 27, 28, 29])))))))))))
 (.reg [⟨(some 58), (.binI .add), [.t 29, .c (.i .i64 1)], none⟩,
   ⟨(some 29), .mv, [.t 58], none⟩] [1, 2, 27, 28, 29]))))

def l40_3 : DC :=
 (.loop [1, 2, 27, 28, 29] b40_2)

def c40 : DC :=
 (.seq (.reg [⟨(some 8), .mv, [.c (.i .i64 0)], none⟩,
   ⟨(some 9), .mv, [.c (.i .i64 0)], none⟩] [0, 1, 2, 3])
 (.seq (.seq (.reg [⟨(some 19), .mv, [.t 0], none⟩,
   ⟨(some 20), .mv, [.t 1], none⟩,
   ⟨(some 21), .mv, [.t 2], none⟩,
   ⟨(some 22), (.bsl false [(.i .i64 0)] false 1 [0]), [.t 21], none⟩,
   ⟨(some 23), (.call (.pu [])), [.c (.fn 48 [] []), .t 19, .t 20, .t 22], none⟩,
   ⟨(some 10), .mv, [.t 23], none⟩] [1, 2, 3, 10])
 (.seq (.reg [⟨(some 24), .mv, [.t 10], none⟩,
   ⟨(some 25), (.binI .neq), [.t 24, .c (.i .i64 0)], none⟩] [1, 2, 3, 10, 25])
 (.cond (.t 25)
  (.seq (.reg [⟨(some 26), .mv, [.t 10], none⟩,
    ⟨(some 8), .mv, [.c (.i .i64 0)], none⟩,
    ⟨(some 9), .mv, [.t 26], none⟩] [8, 9])
  .ret)
  .skip)))
 (.seq (.seq (.reg [⟨(some 27), .mv, [.t 3], none⟩,
   ⟨(some 28), (.len 0), [.t 27], none⟩,
   ⟨(some 29), .mv, [.c (.i .i64 0)], none⟩] [1, 2, 27, 28, 29])
 (.block 0
  l40_3))
 (.seq (.reg [⟨(some 59), .mv, [.t 2], none⟩,
   ⟨(some 8), .mv, [.t 59], none⟩,
   ⟨(some 9), .mv, [.c (.i .i64 0)], none⟩] [8, 9])
 .ret))))

def d40 : DFun := ⟨4, 60, c40, [.t 8, .t 9]⟩

theorem ok40 : Fok Try.prog 40 d40 := ⟨Try.f40, Try.func40, by kernel_rfl, by kernel_rfl⟩

-- bibelot/peg.Pagoda
def c41 : DC :=
 (.seq (.reg [⟨(some 8), .mv, [.c .nilsl], none⟩,
   ⟨(some 9), .mv, [.c (.b false)], none⟩,
   ⟨(some 10), .mv, [.c (.i .i64 0)], none⟩] [0, 1, 2, 3])
 (.seq (.seq (.reg [⟨(some 15), .mv, [.t 0], none⟩,
   ⟨(some 16), .mv, [.t 1], none⟩,
   ⟨(some 17), .mv, [.t 2], none⟩,
   ⟨(some 18), .mv, [.t 3], none⟩,
   ⟨(some 19), (.call (.pu [])), [.c (.fn 66 [] []), .t 15, .t 16, .t 17, .t 18], none⟩,
   ⟨(some 11), .mv, [.t 19], none⟩] [0, 1, 2, 3, 11])
 (.seq (.reg [⟨(some 20), .mv, [.t 11], none⟩,
   ⟨(some 21), (.binI .neq), [.t 20, .c (.i .i64 0)], none⟩] [0, 1, 2, 3, 11, 21])
 (.cond (.t 21)
  (.seq (.reg [⟨(some 22), .mv, [.t 11], none⟩,
    ⟨(some 8), .mv, [.c .nilsl], none⟩,
    ⟨(some 9), .mv, [.c (.b false)], none⟩,
    ⟨(some 10), .mv, [.t 22], none⟩] [8, 9, 10])
  .ret)
  .skip)))
 (.seq (.reg [⟨(some 24), .mv, [.t 0], none⟩,
   ⟨(some 25), .mv, [.t 1], none⟩,
   ⟨(some 26), .mv, [.t 2], none⟩,
   ⟨(some 27), .mv, [.t 3], none⟩,
   ⟨(some 28), (.call (.pu [])), [.c (.fn 67 [] []), .t 24, .t 25, .t 26, .t 27], none⟩,
   ⟨(some 23), .mv, [.t 28], none⟩,
   ⟨(some 29), (.ext 0), [.t 23], none⟩,
   ⟨(some 30), (.ext 1), [.t 23], none⟩,
   ⟨(some 31), (.ext 2), [.t 23], none⟩,
   ⟨(some 12), .mv, [.t 29], none⟩,
   ⟨(some 13), .mv, [.t 30], none⟩,
   ⟨(some 14), .mv, [.t 31], none⟩] [12])
 (.seq (.reg [⟨(some 32), .mv, [.t 12], none⟩,
   ⟨(some 33), .mv, [.t 12], none⟩,
   ⟨(some 34), (.eqN 0 true), [.t 33, .c .nilsl], none⟩,
   ⟨(some 8), .mv, [.t 32], none⟩,
   ⟨(some 9), .mv, [.t 34], none⟩,
   ⟨(some 10), .mv, [.c (.i .i64 0)], none⟩] [8, 9, 10])
 .ret))))

def d41 : DFun := ⟨4, 35, c41, [.t 8, .t 9, .t 10]⟩

theorem ok41 : Fok Try.prog 41 d41 := ⟨Try.f41, Try.func41, by kernel_rfl, by kernel_rfl⟩

-- bibelot/peg.Plan
def b42_0 : DC :=
 (.seq (.reg [⟨(some 44), (.binI .lss), [.t 43, .t 42], none⟩] [14, 16, 41, 42, 43, 44])
 (.seq (.cond (.t 44)
  .skip
  (.exit 0))
 (.seq (.block 1
  (.seq (.reg [⟨(some 45), .mv, [.t 43], none⟩,
    ⟨(some 46), (.ixS 1 false), [.t 41, .t 43], none⟩,
    ⟨(some 47), (.ld 1 false), [.t 46], none⟩,
    ⟨(some 17), .mv, [.t 45], none⟩,
    ⟨(some 18), .mv, [.t 47], none⟩] [14, 16, 17, 18, 41, 42, 43])
  (.reg [⟨(some 48), .mv, [.t 16], none⟩,
    ⟨(some 49), .mv, [.t 17], none⟩,
    ⟨(some 50), (.binI .quo), [.t 49, .c (.i .i64 2)], none⟩,
    ⟨(some 51), .mv, [.t 17], none⟩,
    ⟨(some 52), (.binI .rem), [.t 51, .c (.i .i64 2)], none⟩,
    ⟨(some 53), .mv, [.t 18], none⟩,
    ⟨(some 54), (.ixS 2 true), [.t 48, .t 50], none⟩,
    ⟨(some 55), (.ixA 2 1 false), [.t 54, .t 52], none⟩,
    ⟨none, (.st 1), [.t 55, .t 53], none⟩] [14, 16, 41, 42, 43])))
 (.reg [⟨(some 56), (.binI .add), [.t 43, .c (.i .i64 1)], none⟩,
   ⟨(some 43), .mv, [.t 56], none⟩] [14, 16, 41, 42, 43]))))

def l42_1 : DC :=
 (.loop [14, 16, 41, 42, 43] b42_0)

def c42 : DC :=
 (.seq (.reg [⟨(some 8), .mv, [.c (.i .i64 0)], none⟩,
   ⟨(some 9), .mv, [.c .nilsl], none⟩,
   ⟨(some 10), .mv, [.c (.b false)], none⟩,
   ⟨(some 11), .mv, [.c (.i .i64 0)], none⟩] [0, 1, 2, 3])
 (.seq (.seq (.reg [⟨(some 19), .mv, [.t 0], none⟩,
   ⟨(some 20), .mv, [.t 1], none⟩,
   ⟨(some 21), .mv, [.t 2], none⟩,
   ⟨(some 22), .mv, [.t 3], none⟩,
   ⟨(some 23), (.call (.pu [])), [.c (.fn 66 [] []), .t 19, .t 20, .t 21, .t 22], none⟩,
   ⟨(some 12), .mv, [.t 23], none⟩] [0, 1, 2, 3, 12])
 (.seq (.reg [⟨(some 24), .mv, [.t 12], none⟩,
   ⟨(some 25), (.binI .neq), [.t 24, .c (.i .i64 0)], none⟩] [0, 1, 2, 3, 12, 25])
 (.cond (.t 25)
  (.seq (.reg [⟨(some 26), .mv, [.t 12], none⟩,
    ⟨(some 8), .mv, [.c (.i .i64 0)], none⟩,
    ⟨(some 9), .mv, [.c .nilsl], none⟩,
    ⟨(some 10), .mv, [.c (.b false)], none⟩,
    ⟨(some 11), .mv, [.t 26], none⟩] [8, 9, 10, 11])
  .ret)
  .skip)))
 (.seq (.reg [⟨(some 28), .mv, [.t 0], none⟩,
   ⟨(some 29), .mv, [.t 1], none⟩,
   ⟨(some 30), .mv, [.t 2], none⟩,
   ⟨(some 31), .mv, [.t 3], none⟩,
   ⟨(some 32), (.call (.pu [])), [.c (.fn 67 [] []), .t 28, .t 29, .t 30, .t 31], none⟩,
   ⟨(some 27), .mv, [.t 32], none⟩,
   ⟨(some 33), (.ext 0), [.t 27], none⟩,
   ⟨(some 34), (.ext 1), [.t 27], none⟩,
   ⟨(some 35), (.ext 2), [.t 27], none⟩,
   ⟨(some 13), .mv, [.t 33], none⟩,
   ⟨(some 14), .mv, [.t 34], none⟩,
   ⟨(some 15), .mv, [.t 35], none⟩] [1, 13, 14, 15])
 (.seq (.seq (.reg [⟨(some 36), .mv, [.t 13], none⟩,
   ⟨(some 37), (.eqN 0 true), [.t 36, .c .nilsl], none⟩] [1, 14, 15, 37])
 (.cond (.t 37)
  (.seq (.reg [⟨(some 8), .mv, [.c (.i .i64 0)], none⟩,
    ⟨(some 9), .mv, [.c .nilsl], none⟩,
    ⟨(some 10), .mv, [.c (.b false)], none⟩,
    ⟨(some 11), .mv, [.c (.i .i64 0)], none⟩] [8, 9, 10, 11])
  .ret)
  .skip))
 (.seq (.reg [⟨(some 38), .mv, [.t 1], none⟩,
   ⟨(some 39), (.len 0), [.t 38], none⟩,
   ⟨(some 40), (.mksl [(.i .i64 0), (.i .i64 0)] true 16), [.t 39, .t 39], none⟩,
   ⟨(some 16), .mv, [.t 40], none⟩] [14, 15, 16])
 (.seq (.seq (.reg [⟨(some 41), .mv, [.t 15], none⟩,
   ⟨(some 42), (.len 0), [.t 41], none⟩,
   ⟨(some 43), .mv, [.c (.i .i64 0)], none⟩] [14, 16, 41, 42, 43])
 (.block 0
  l42_1))
 (.seq (.reg [⟨(some 57), .mv, [.t 14], none⟩,
   ⟨(some 58), .mv, [.t 16], none⟩,
   ⟨(some 8), .mv, [.t 57], none⟩,
   ⟨(some 9), .mv, [.t 58], none⟩,
   ⟨(some 10), .mv, [.c (.b true)], none⟩,
   ⟨(some 11), .mv, [.c (.i .i64 0)], none⟩] [8, 9, 10, 11])
 .ret)))))))

def d42 : DFun := ⟨4, 59, c42, [.t 8, .t 9, .t 10, .t 11]⟩

theorem ok42 : Fok Try.prog 42 d42 := ⟨Try.f42, Try.func42, by kernel_rfl, by kernel_rfl⟩

-- bibelot/peg.Jumps
def a43_0 : DC :=
 (.reg [⟨(some 11), (.alloc [(.i .i64 0), (.i .i64 0), (.i .i64 0)] true), [], none⟩,
   ⟨none, (.st 3), [.t 11, .t 25], none⟩] [5, 9, 11])

def b43_1 : DC :=
 (.block 1
  (.seq (.reg [⟨(some 27), (.ld 3 true), [.t 11], none⟩,
    ⟨(some 28), (.ld 1 false), [.t 5], none⟩,
    ⟨(some 29), (.call (.pu [])), [.c (.fn 65 [] []), .t 27, .t 28], none⟩,
    ⟨(some 26), .mv, [.t 29], none⟩,
    ⟨(some 30), (.ext 0), [.t 26], none⟩,
    ⟨(some 31), (.ext 1), [.t 26], none⟩,
    ⟨(some 12), .mv, [.t 30], none⟩,
    ⟨(some 13), .mv, [.t 31], none⟩] [9, 11, 13])
  (.seq (.reg [⟨(some 32), .mv, [.t 13], none⟩] [9, 11, 32])
  (.cond (.t 32)
   (.reg [⟨(some 33), (.ld 1 false), [.t 9], none⟩,
     ⟨(some 34), (.ld 3 true), [.t 11], none⟩,
     ⟨(some 35), (.call (.pu [])), [.c (.fn 50 [] []), .t 34], none⟩,
     ⟨(some 36), (.bsl false [(.i .i64 0), (.i .i64 0), (.i .i64 0)] true 1 [0]), [.t 35], none⟩,
     ⟨(some 37), (.app 3 true 24), [.t 33, .t 36], none⟩,
     ⟨none, (.st 1), [.t 9, .t 37], none⟩] [])
   .skip))))

def c43 : DC :=
 (.seq (.reg [⟨(some 5), (.box false), [.t 2], none⟩,
   ⟨(some 6), .mv, [.c .nilsl], none⟩,
   ⟨(some 7), .mv, [.c (.i .i64 0)], none⟩] [0, 1, 5])
 (.seq (.seq (.reg [⟨(some 14), .mv, [.t 0], none⟩,
   ⟨(some 15), .mv, [.t 1], none⟩,
   ⟨(some 16), (.ld 1 false), [.t 5], none⟩,
   ⟨(some 17), (.bsl false [(.i .i64 0)] false 1 [0]), [.t 16], none⟩,
   ⟨(some 18), (.call (.pu [])), [.c (.fn 48 [] []), .t 14, .t 15, .t 17], none⟩,
   ⟨(some 8), .mv, [.t 18], none⟩] [1, 5, 8])
 (.seq (.reg [⟨(some 19), .mv, [.t 8], none⟩,
   ⟨(some 20), (.binI .neq), [.t 19, .c (.i .i64 0)], none⟩] [1, 5, 8, 20])
 (.cond (.t 20)
  (.seq (.reg [⟨(some 21), .mv, [.t 8], none⟩,
    ⟨(some 6), .mv, [.c .nilsl], none⟩,
    ⟨(some 7), .mv, [.t 21], none⟩] [6, 7])
  .ret)
  .skip)))
 (.seq (.reg [⟨(some 9), (.alloc [.nilsl] false), [], none⟩] [1, 5, 9])
 (.seq (.seq (.reg [⟨(some 22), .mv, [.t 1], none⟩,
   ⟨(some 23), (.call .sh), [.c (.fn 62 [] []), .t 22], none⟩] [5, 9, 23])
 (.block 0
  (.rfunc (.t 23) [24, 25] a43_0
   b43_1 [5, 9])))
 (.seq (.reg [⟨(some 38), (.ld 1 false), [.t 9], none⟩,
   ⟨(some 39), (.call .sh), [.c (.fn 68 [] []), .t 38, .c (.fn 69 [] [])], none⟩] [9])
 (.seq (.reg [⟨(some 40), (.ld 1 false), [.t 9], none⟩,
   ⟨(some 6), .mv, [.t 40], none⟩,
   ⟨(some 7), .mv, [.c (.i .i64 0)], none⟩] [6, 7])
 .ret))))))

def d43 : DFun := ⟨3, 41, c43, [.t 6, .t 7]⟩

theorem ok43 : Fok Try.prog 43 d43 := ⟨Try.f43, Try.func43, by kernel_rfl, by kernel_rfl⟩

-- bibelot/bibelotlaw02.own
def c44 : DC :=
 (.seq (.reg [⟨(some 2), .mv, [.c .nilsl], none⟩] [0])
 (.seq (.reg [⟨(some 3), .mv, [.c .nilsl], none⟩] [0, 3])
 (.seq (.reg [⟨(some 4), .mv, [.t 3], none⟩,
   ⟨(some 5), .mv, [.t 0], none⟩,
   ⟨(some 6), .mv, [.t 0], none⟩,
   ⟨(some 7), (.len 0), [.t 6], none⟩,
   ⟨(some 8), .mnI, [.t 7, .c (.i .i64 41)], none⟩,
   ⟨(some 9), (.slc false true false 3 true), [.t 5, .t 8], none⟩,
   ⟨(some 10), (.app 3 true 24), [.t 4, .t 9], none⟩,
   ⟨(some 2), .mv, [.t 10], none⟩] [2])
 .ret)))

def d44 : DFun := ⟨1, 11, c44, [.t 2]⟩

theorem ok44 : Fok Try.prog 44 d44 := ⟨Try.f44, Try.func44, by kernel_rfl, by kernel_rfl⟩

-- bibelot/bibelotref02.Rule
def b45_0 : DC :=
 (.seq (.seq (.reg [⟨(some 7), .mv, [.t 5], none⟩,
   ⟨(some 8), .mv, [.t 0], none⟩,
   ⟨(some 9), (.len 0), [.t 8], none⟩,
   ⟨(some 10), (.binI .lss), [.t 7, .t 9], none⟩] [0, 1, 5, 10])
 (.cond (.t 10)
  .skip
  (.exit 0)))
 (.seq (.block 1
  (.seq (.reg [⟨(some 13), .mv, [.t 0], none⟩,
    ⟨(some 14), .mv, [.t 5], none⟩,
    ⟨(some 15), (.ixS 3 true), [.t 13, .t 14], none⟩,
    ⟨(some 16), (.ld 3 true), [.t 15], none⟩,
    ⟨(some 6), (.alloc [(.i .i64 0), (.i .i64 0), (.i .i64 0)] true), [], none⟩,
    ⟨none, (.st 3), [.t 6, .t 16], none⟩] [0, 1, 5, 6])
  (.seq (.reg [⟨(some 17), .mv, [.t 1], none⟩,
    ⟨(some 18), (.ixA 3 1 false), [.t 6, .c (.i .i64 0)], none⟩,
    ⟨(some 19), (.ld 1 false), [.t 18], none⟩,
    ⟨(some 20), (.binI .shr), [.t 17, .t 19], none⟩,
    ⟨(some 21), .mv, [.t 1], none⟩,
    ⟨(some 22), (.ixA 3 1 false), [.t 6, .c (.i .i64 1)], none⟩,
    ⟨(some 23), (.ld 1 false), [.t 22], none⟩,
    ⟨(some 24), (.binI .shr), [.t 21, .t 23], none⟩,
    ⟨(some 25), (.binI .add), [.t 20, .t 24], none⟩,
    ⟨(some 26), .mv, [.t 1], none⟩,
    ⟨(some 27), (.ixA 3 1 false), [.t 6, .c (.i .i64 2)], none⟩,
    ⟨(some 28), (.ld 1 false), [.t 27], none⟩,
    ⟨(some 29), (.binI .shr), [.t 26, .t 28], none⟩,
    ⟨(some 30), (.binI .add), [.t 25, .t 29], none⟩,
    ⟨(some 31), (.binI .rem), [.t 30, .c (.i .i64 2)], none⟩,
    ⟨(some 32), (.binI .neq), [.t 31, .c (.i .i64 0)], none⟩] [0, 1, 5, 32])
  (.cond (.t 32)
   (.seq (.reg [⟨(some 4), .mv, [.c (.b false)], none⟩] [4])
   .ret)
   .skip))))
 (.reg [⟨(some 11), .mv, [.t 5], none⟩,
   ⟨(some 12), (.binI .add), [.t 11, .c (.i .i64 1)], none⟩,
   ⟨(some 5), .mv, [.t 12], none⟩] [0, 1, 5])))

def l45_1 : DC :=
 (.loop [0, 1, 5] b45_0)

def c45 : DC :=
 (.seq (.reg [⟨(some 4), .mv, [.c (.b false)], none⟩] [0, 1])
 (.seq (.seq (.reg [⟨(some 5), .mv, [.c (.i .i64 0)], none⟩] [0, 1, 5])
 (.block 0
  l45_1))
 (.seq (.reg [⟨(some 4), .mv, [.c (.b true)], none⟩] [4])
 .ret)))

def d45 : DFun := ⟨2, 33, c45, [.t 4]⟩

theorem ok45 : Fok Try.prog 45 d45 := ⟨Try.f45, Try.func45, by kernel_rfl, by kernel_rfl⟩

-- bibelot/bibelotref02.Check
def b46_0 : DC :=
 (.seq (.seq (.reg [⟨(some 27), .mv, [.t 7], none⟩,
   ⟨(some 28), (.binI .lss), [.t 27, .c (.i .i64 3)], none⟩] [0, 1, 5, 6, 7, 28])
 (.cond (.t 28)
  .skip
  (.exit 2)))
 (.seq (.block 3
  (.seq (.reg [⟨(some 31), .mv, [.t 7], none⟩,
    ⟨(some 32), (.ixA 3 1 false), [.t 6, .t 31], none⟩,
    ⟨(some 33), (.ld 1 false), [.t 32], none⟩,
    ⟨(some 34), (.binI .lss), [.t 33, .c (.i .i64 0)], none⟩,
    ⟨(some 35), .mv, [.t 34], none⟩,
    ⟨(some 36), .mv, [.t 7], (some (35, false))⟩,
    ⟨(some 37), (.ixA 3 1 false), [.t 6, .t 36], (some (35, false))⟩,
    ⟨(some 38), (.ld 1 false), [.t 37], (some (35, false))⟩,
    ⟨(some 39), .mv, [.t 0], (some (35, false))⟩,
    ⟨(some 40), (.binI .geq), [.t 38, .t 39], (some (35, false))⟩,
    ⟨(some 41), .pick, [.t 35, .c (.b true), .t 40], none⟩] [0, 1, 5, 6, 7, 41])
  (.cond (.t 41)
   (.seq (.reg [⟨(some 4), .mv, [.c (.i .i64 20)], none⟩] [4])
   .ret)
   .skip)))
 (.reg [⟨(some 29), .mv, [.t 7], none⟩,
   ⟨(some 30), (.binI .add), [.t 29, .c (.i .i64 1)], none⟩,
   ⟨(some 7), .mv, [.t 30], none⟩] [0, 1, 5, 6, 7])))

def l46_1 : DC :=
 (.loop [0, 1, 5, 6, 7] b46_0)

def b46_2 : DC :=
 (.seq (.seq (.reg [⟨(some 17), .mv, [.t 5], none⟩,
   ⟨(some 18), .mv, [.t 1], none⟩,
   ⟨(some 19), (.len 0), [.t 18], none⟩,
   ⟨(some 20), (.binI .lss), [.t 17, .t 19], none⟩] [0, 1, 5, 20])
 (.cond (.t 20)
  .skip
  (.exit 0)))
 (.seq (.block 1
  (.seq (.reg [⟨(some 23), .mv, [.t 1], none⟩,
    ⟨(some 24), .mv, [.t 5], none⟩,
    ⟨(some 25), (.ixS 3 true), [.t 23, .t 24], none⟩,
    ⟨(some 26), (.ld 3 true), [.t 25], none⟩,
    ⟨(some 6), (.alloc [(.i .i64 0), (.i .i64 0), (.i .i64 0)] true), [], none⟩,
    ⟨none, (.st 3), [.t 6, .t 26], none⟩] [0, 1, 5, 6])
  (.seq (.seq (.reg [⟨(some 7), .mv, [.c (.i .i64 0)], none⟩] [0, 1, 5, 6, 7])
  (.block 2
   l46_1))
  (.seq (.reg [⟨(some 42), (.ixA 3 1 false), [.t 6, .c (.i .i64 0)], none⟩,
    ⟨(some 43), (.ld 1 false), [.t 42], none⟩,
    ⟨(some 44), (.ixA 3 1 false), [.t 6, .c (.i .i64 2)], none⟩,
    ⟨(some 45), (.ld 1 false), [.t 44], none⟩,
    ⟨(some 46), (.binI .geq), [.t 43, .t 45], none⟩,
    ⟨(some 47), .mv, [.t 46], none⟩,
    ⟨(some 48), (.ixA 3 1 false), [.t 6, .c (.i .i64 1)], (some (47, false))⟩,
    ⟨(some 49), (.ld 1 false), [.t 48], (some (47, false))⟩,
    ⟨(some 50), (.ixA 3 1 false), [.t 6, .c (.i .i64 0)], (some (47, false))⟩,
    ⟨(some 51), (.ld 1 false), [.t 50], (some (47, false))⟩,
    ⟨(some 52), (.binI .eql), [.t 49, .t 51], (some (47, false))⟩,
    ⟨(some 53), .pick, [.t 47, .c (.b true), .t 52], none⟩,
    ⟨(some 54), .mv, [.t 53], none⟩,
    ⟨(some 55), (.ixA 3 1 false), [.t 6, .c (.i .i64 1)], (some (54, false))⟩,
    ⟨(some 56), (.ld 1 false), [.t 55], (some (54, false))⟩,
    ⟨(some 57), (.ixA 3 1 false), [.t 6, .c (.i .i64 2)], (some (54, false))⟩,
    ⟨(some 58), (.ld 1 false), [.t 57], (some (54, false))⟩,
    ⟨(some 59), (.binI .eql), [.t 56, .t 58], (some (54, false))⟩,
    ⟨(some 60), .pick, [.t 54, .c (.b true), .t 59], none⟩,
    ⟨(some 61), .mv, [.t 60], none⟩,
    ⟨(some 62), .mv, [.t 5], (some (61, false))⟩,
    ⟨(some 63), (.binI .gtr), [.t 62, .c (.i .i64 0)], (some (61, false))⟩,
    ⟨(some 64), .mv, [.t 63], (some (61, false))⟩,
    ⟨(some 65), .mv, [.t 1], (some (64, true))⟩,
    ⟨(some 66), .mv, [.t 5], (some (64, true))⟩,
    ⟨(some 67), (.binI .sub), [.t 66, .c (.i .i64 1)], (some (64, true))⟩,
    ⟨(some 68), (.ixS 3 true), [.t 65, .t 67], (some (64, true))⟩,
    ⟨(some 69), (.ld 3 true), [.t 68], (some (64, true))⟩,
    ⟨(some 70), (.ld 3 true), [.t 6], (some (64, true))⟩,
    ⟨(some 71), (.call (.pu [])), [.c (.fn 64 [] []), .t 69, .t 70], (some (64, true))⟩,
    ⟨(some 72), .notB, [.t 71], (some (64, true))⟩,
    ⟨(some 73), .pick, [.t 64, .t 72, .c (.b false)], (some (61, false))⟩,
    ⟨(some 74), .pick, [.t 61, .c (.b true), .t 73], none⟩] [0, 1, 5, 74])
  (.cond (.t 74)
   (.seq (.reg [⟨(some 4), .mv, [.c (.i .i64 20)], none⟩] [4])
   .ret)
   .skip)))))
 (.reg [⟨(some 21), .mv, [.t 5], none⟩,
   ⟨(some 22), (.binI .add), [.t 21, .c (.i .i64 1)], none⟩,
   ⟨(some 5), .mv, [.t 22], none⟩] [0, 1, 5])))

def l46_3 : DC :=
 (.loop [0, 1, 5] b46_2)

def c46 : DC :=
 (.seq (.reg [⟨(some 4), .mv, [.c (.i .i64 0)], none⟩] [0, 1])
 (.seq (.seq (.reg [⟨(some 8), .mv, [.t 0], none⟩,
   ⟨(some 9), (.binI .lss), [.t 8, .c (.i .i64 1)], none⟩,
   ⟨(some 10), .mv, [.t 9], none⟩,
   ⟨(some 11), .mv, [.t 0], (some (10, false))⟩,
   ⟨(some 12), (.binI .gtr), [.t 11, .c (.i .i64 16)], (some (10, false))⟩,
   ⟨(some 13), .pick, [.t 10, .c (.b true), .t 12], none⟩] [0, 1, 13])
 (.cond (.t 13)
  (.seq (.reg [⟨(some 4), .mv, [.c (.i .i64 1)], none⟩] [4])
  .ret)
  .skip))
 (.seq (.seq (.reg [⟨(some 14), .mv, [.t 1], none⟩,
   ⟨(some 15), (.len 0), [.t 14], none⟩,
   ⟨(some 16), (.binI .gtr), [.t 15, .c (.i .i64 40)], none⟩] [0, 1, 16])
 (.cond (.t 16)
  (.seq (.reg [⟨(some 4), .mv, [.c (.i .i64 2)], none⟩] [4])
  .ret)
  .skip))
 (.seq (.seq (.reg [⟨(some 5), .mv, [.c (.i .i64 0)], none⟩] [0, 1, 5])
 (.block 0
  l46_3))
 (.seq (.reg [⟨(some 4), .mv, [.c (.i .i64 0)], none⟩] [4])
 .ret)))))

def d46 : DFun := ⟨2, 75, c46, [.t 4]⟩

theorem ok46 : Fok Try.prog 46 d46 := ⟨Try.f46, Try.func46, by kernel_rfl, by kernel_rfl⟩

-- bibelot/peg.Check
def b47_0 : DC :=
 (.seq (.reg [⟨(some 19), (.binI .lss), [.t 18, .t 17], none⟩] [0, 1, 16, 17, 18, 19])
 (.seq (.cond (.t 19)
  .skip
  (.exit 0))
 (.seq (.block 1
  (.seq (.reg [⟨(some 20), .mv, [.t 18], none⟩,
    ⟨(some 21), (.ixS 3 true), [.t 16, .t 18], none⟩,
    ⟨(some 22), (.ld 3 true), [.t 21], none⟩,
    ⟨(some 6), (.alloc [(.i .i64 0), (.i .i64 0), (.i .i64 0)] true), [], none⟩,
    ⟨(some 5), .mv, [.t 20], none⟩,
    ⟨none, (.st 3), [.t 6, .t 22], none⟩] [0, 1, 5, 6, 16, 17, 18])
  (.seq (.reg [⟨(some 23), (.ixA 3 1 false), [.t 6, .c (.i .i64 0)], none⟩,
    ⟨(some 24), (.ld 1 false), [.t 23], none⟩,
    ⟨(some 25), (.binI .lss), [.t 24, .c (.i .i64 0)], none⟩,
    ⟨(some 26), .mv, [.t 25], none⟩,
    ⟨(some 27), (.ixA 3 1 false), [.t 6, .c (.i .i64 0)], (some (26, false))⟩,
    ⟨(some 28), (.ld 1 false), [.t 27], (some (26, false))⟩,
    ⟨(some 29), (.ixA 3 1 false), [.t 6, .c (.i .i64 2)], (some (26, false))⟩,
    ⟨(some 30), (.ld 1 false), [.t 29], (some (26, false))⟩,
    ⟨(some 31), (.binI .geq), [.t 28, .t 30], (some (26, false))⟩,
    ⟨(some 32), .pick, [.t 26, .c (.b true), .t 31], none⟩,
    ⟨(some 33), .mv, [.t 32], none⟩,
    ⟨(some 34), (.ixA 3 1 false), [.t 6, .c (.i .i64 2)], (some (33, false))⟩,
    ⟨(some 35), (.ld 1 false), [.t 34], (some (33, false))⟩,
    ⟨(some 36), .mv, [.t 0], (some (33, false))⟩,
    ⟨(some 37), (.binI .geq), [.t 35, .t 36], (some (33, false))⟩,
    ⟨(some 38), .pick, [.t 33, .c (.b true), .t 37], none⟩,
    ⟨(some 39), .mv, [.t 38], none⟩,
    ⟨(some 40), (.ixA 3 1 false), [.t 6, .c (.i .i64 1)], (some (39, false))⟩,
    ⟨(some 41), (.ld 1 false), [.t 40], (some (39, false))⟩,
    ⟨(some 42), (.binI .lss), [.t 41, .c (.i .i64 0)], (some (39, false))⟩,
    ⟨(some 43), .pick, [.t 39, .c (.b true), .t 42], none⟩,
    ⟨(some 44), .mv, [.t 43], none⟩,
    ⟨(some 45), (.ixA 3 1 false), [.t 6, .c (.i .i64 1)], (some (44, false))⟩,
    ⟨(some 46), (.ld 1 false), [.t 45], (some (44, false))⟩,
    ⟨(some 47), .mv, [.t 0], (some (44, false))⟩,
    ⟨(some 48), (.binI .geq), [.t 46, .t 47], (some (44, false))⟩,
    ⟨(some 49), .pick, [.t 44, .c (.b true), .t 48], none⟩,
    ⟨(some 50), .mv, [.t 49], none⟩,
    ⟨(some 51), (.ixA 3 1 false), [.t 6, .c (.i .i64 1)], (some (50, false))⟩,
    ⟨(some 52), (.ld 1 false), [.t 51], (some (50, false))⟩,
    ⟨(some 53), (.ixA 3 1 false), [.t 6, .c (.i .i64 0)], (some (50, false))⟩,
    ⟨(some 54), (.ld 1 false), [.t 53], (some (50, false))⟩,
    ⟨(some 55), (.binI .eql), [.t 52, .t 54], (some (50, false))⟩,
    ⟨(some 56), .pick, [.t 50, .c (.b true), .t 55], none⟩,
    ⟨(some 57), .mv, [.t 56], none⟩,
    ⟨(some 58), (.ixA 3 1 false), [.t 6, .c (.i .i64 1)], (some (57, false))⟩,
    ⟨(some 59), (.ld 1 false), [.t 58], (some (57, false))⟩,
    ⟨(some 60), (.ixA 3 1 false), [.t 6, .c (.i .i64 2)], (some (57, false))⟩,
    ⟨(some 61), (.ld 1 false), [.t 60], (some (57, false))⟩,
    ⟨(some 62), (.binI .eql), [.t 59, .t 61], (some (57, false))⟩,
    ⟨(some 63), .pick, [.t 57, .c (.b true), .t 62], none⟩,
    ⟨(some 64), .mv, [.t 63], none⟩,
    ⟨(some 65), .mv, [.t 5], (some (64, false))⟩,
    ⟨(some 66), (.binI .gtr), [.t 65, .c (.i .i64 0)], (some (64, false))⟩,
    ⟨(some 67), .mv, [.t 66], (some (64, false))⟩,
    ⟨(some 68), .mv, [.t 1], (some (67, true))⟩,
    ⟨(some 69), .mv, [.t 5], (some (67, true))⟩,
    ⟨(some 70), (.binI .sub), [.t 69, .c (.i .i64 1)], (some (67, true))⟩,
    ⟨(some 71), (.ixS 3 true), [.t 68, .t 70], (some (67, true))⟩,
    ⟨(some 72), (.slcA false false false 3 1 false), [.t 71], (some (67, true))⟩,
    ⟨(some 73), (.slcA false false false 3 1 false), [.t 6], (some (67, true))⟩,
    ⟨(some 74), (.call (.pu [])), [.c (.fn 70 [] []), .t 72, .t 73], (some (67, true))⟩,
    ⟨(some 75), (.binI .geq), [.t 74, .c (.i .i64 0)], (some (67, true))⟩,
    ⟨(some 76), .pick, [.t 67, .t 75, .c (.b false)], (some (64, false))⟩,
    ⟨(some 77), .pick, [.t 64, .c (.b true), .t 76], none⟩] [0, 1, 16, 17, 18, 77])
  (.cond (.t 77)
   (.seq (.reg [⟨(some 4), .mv, [.c (.i .i64 20)], none⟩] [4])
   .ret)
   .skip))))
 (.reg [⟨(some 78), (.binI .add), [.t 18, .c (.i .i64 1)], none⟩,
   ⟨(some 18), .mv, [.t 78], none⟩] [0, 1, 16, 17, 18]))))

def l47_1 : DC :=
 (.loop [0, 1, 16, 17, 18] b47_0)

def c47 : DC :=
 (.seq (.reg [⟨(some 4), .mv, [.c (.i .i64 0)], none⟩] [0, 1])
 (.seq (.seq (.reg [⟨(some 7), .mv, [.t 0], none⟩,
   ⟨(some 8), (.binI .lss), [.t 7, .c (.i .i64 1)], none⟩,
   ⟨(some 9), .mv, [.t 8], none⟩,
   ⟨(some 10), .mv, [.t 0], (some (9, false))⟩,
   ⟨(some 11), (.binI .gtr), [.t 10, .c (.i .i64 16)], (some (9, false))⟩,
   ⟨(some 12), .pick, [.t 9, .c (.b true), .t 11], none⟩] [0, 1, 12])
 (.cond (.t 12)
  (.seq (.reg [⟨(some 4), .mv, [.c (.i .i64 1)], none⟩] [4])
  .ret)
  .skip))
 (.seq (.seq (.reg [⟨(some 13), .mv, [.t 1], none⟩,
   ⟨(some 14), (.len 0), [.t 13], none⟩,
   ⟨(some 15), (.binI .gtr), [.t 14, .c (.i .i64 40)], none⟩] [0, 1, 15])
 (.cond (.t 15)
  (.seq (.reg [⟨(some 4), .mv, [.c (.i .i64 2)], none⟩] [4])
  .ret)
  .skip))
 (.seq (.seq (.reg [⟨(some 16), .mv, [.t 1], none⟩,
   ⟨(some 17), (.len 0), [.t 16], none⟩,
   ⟨(some 18), .mv, [.c (.i .i64 0)], none⟩] [0, 1, 16, 17, 18])
 (.block 0
  l47_1))
 (.seq (.reg [⟨(some 4), .mv, [.c (.i .i64 0)], none⟩] [4])
 .ret)))))

def d47 : DFun := ⟨2, 79, c47, [.t 4]⟩

theorem ok47 : Fok Try.prog 47 d47 := ⟨Try.f47, Try.func47, by kernel_rfl, by kernel_rfl⟩

-- bibelot/peg.open
def c48 : DC :=
 (.seq (.reg [⟨(some 3), (.box false), [.t 0], none⟩,
   ⟨(some 6), .mv, [.c (.i .i64 0)], none⟩] [1, 2, 3])
 (.seq (.seq (.reg [⟨(some 8), (.ld 1 false), [.t 3], none⟩,
   ⟨(some 9), .mv, [.t 1], none⟩,
   ⟨(some 10), (.call (.pu [])), [.c (.fn 47 [] []), .t 8, .t 9], none⟩,
   ⟨(some 7), .mv, [.t 10], none⟩] [2, 3, 7])
 (.seq (.reg [⟨(some 11), .mv, [.t 7], none⟩,
   ⟨(some 12), (.binI .neq), [.t 11, .c (.i .i64 0)], none⟩] [2, 3, 7, 12])
 (.cond (.t 12)
  (.seq (.reg [⟨(some 13), .mv, [.t 7], none⟩,
    ⟨(some 6), .mv, [.t 13], none⟩] [6])
  .ret)
  .skip)))
 (.seq (.seq (.reg [⟨(some 14), .mv, [.t 2], none⟩,
   ⟨(some 15), (.mkfn 71 0), [.t 3], none⟩,
   ⟨(some 16), (.call .sh), [.c (.fn 55 [] []), .t 14, .t 15], none⟩] [16])
 (.cond (.t 16)
  (.seq (.reg [⟨(some 6), .mv, [.c (.i .i64 1)], none⟩] [6])
  .ret)
  .skip))
 (.seq (.reg [⟨(some 6), .mv, [.c (.i .i64 0)], none⟩] [6])
 .ret))))

def d48 : DFun := ⟨3, 17, c48, [.t 6]⟩

theorem ok48 : Fok Try.prog 48 d48 := ⟨Try.f48, Try.func48, by kernel_rfl, by kernel_rfl⟩

-- bibelot/peg.reached
def a49_0 : DC :=
 (.reg [⟨(some 11), (.alloc [(.i .i64 0), (.i .i64 0), (.i .i64 0)] true), [], none⟩,
   ⟨none, (.st 3), [.t 11, .t 30], none⟩] [6, 7, 8, 9, 11])

def b49_1 : DC :=
 (.block 3
  (.seq (.reg [⟨(some 32), (.ld 3 true), [.t 11], none⟩,
    ⟨(some 33), (.ld 1 false), [.t 9], none⟩,
    ⟨(some 34), (.call (.pu [])), [.c (.fn 65 [] []), .t 32, .t 33], none⟩,
    ⟨(some 31), .mv, [.t 34], none⟩,
    ⟨(some 35), (.ext 0), [.t 31], none⟩,
    ⟨(some 36), (.ext 1), [.t 31], none⟩,
    ⟨(some 12), .mv, [.t 35], none⟩,
    ⟨(some 13), .mv, [.t 36], none⟩] [6, 7, 8, 9, 11, 12, 13])
  (.seq (.reg [⟨(some 37), .mv, [.t 13], none⟩,
    ⟨(some 38), .mv, [.t 37], none⟩,
    ⟨(some 39), .mv, [.t 12], (some (38, true))⟩,
    ⟨(some 40), (.ixA 65536 1 false), [.t 6, .t 39], (some (38, true))⟩,
    ⟨(some 41), (.ld 1 false), [.t 40], (some (38, true))⟩,
    ⟨(some 42), .notB, [.t 41], (some (38, true))⟩,
    ⟨(some 43), .pick, [.t 38, .t 42, .c (.b false)], none⟩] [6, 7, 8, 9, 11, 12, 43])
  (.cond (.t 43)
   (.seq (.reg [⟨(some 44), .mv, [.t 12], none⟩,
     ⟨(some 45), (.ixA 65536 1 false), [.t 6, .t 44], none⟩,
     ⟨none, (.st 1), [.t 45, .c (.b true)], none⟩] [7, 8, 9, 11, 12])
   (.seq (.reg [⟨(some 46), (.ld 1 false), [.t 7], none⟩,
     ⟨(some 47), .mv, [.t 12], none⟩,
     ⟨(some 48), (.ld 1 false), [.t 9], none⟩,
     ⟨(some 49), (.ld 3 true), [.t 11], none⟩,
     ⟨(some 50), (.build [(.i .i64 0), (.i .i64 0), (.i .i64 0), (.i .i64 0)] [(0, 1), (1, 3)]), [.t 48, .t 49], none⟩,
     ⟨none, (.mset .int), [.t 46, .t 47, .t 50], none⟩] [8, 12])
   (.reg [⟨(some 51), (.ld 1 false), [.t 8], none⟩,
     ⟨(some 52), .mv, [.t 12], none⟩,
     ⟨(some 53), (.bsl false [(.i .i64 0)] false 1 [0]), [.t 52], none⟩,
     ⟨(some 54), (.app 1 false 8), [.t 51, .t 53], none⟩,
     ⟨none, (.st 1), [.t 8, .t 54], none⟩] [])))
   .skip))))

def b49_2 : DC :=
 (.seq (.seq (.reg [⟨(some 19), (.ld 1 false), [.t 8], none⟩,
   ⟨(some 20), (.len 0), [.t 19], none⟩,
   ⟨(some 21), (.binI .gtr), [.t 20, .c (.i .i64 0)], none⟩] [0, 6, 7, 8, 21])
 (.cond (.t 21)
  .skip
  (.exit 0)))
 (.block 1
  (.seq (.reg [⟨(some 22), (.ld 1 false), [.t 8], none⟩,
    ⟨(some 23), (.ixS 1 false), [.t 22, .c (.i .i64 0)], none⟩,
    ⟨(some 24), (.ld 1 false), [.t 23], none⟩,
    ⟨(some 9), (.alloc [(.i .i64 0)] false), [], none⟩,
    ⟨none, (.st 1), [.t 9, .t 24], none⟩] [0, 6, 7, 8, 9])
  (.seq (.reg [⟨(some 25), (.ld 1 false), [.t 8], none⟩,
    ⟨(some 26), (.slc true false false 1 false), [.t 25, .c (.i .i64 1)], none⟩,
    ⟨none, (.st 1), [.t 8, .t 26], none⟩] [0, 6, 7, 8, 9])
  (.seq (.reg [⟨(some 27), .mv, [.t 0], none⟩,
    ⟨(some 28), (.call .sh), [.c (.fn 62 [] []), .t 27], none⟩] [0, 6, 7, 8, 9, 28])
  (.block 2
   (.rfunc (.t 28) [29, 30] a49_0
    b49_1 [0, 6, 7, 8, 9])))))))

def l49_3 : DC :=
 (.loop [0, 6, 7, 8] b49_2)

def c49 : DC :=
 (.seq (.reg [⟨(some 4), .mv, [.c .nilp], none⟩,
   ⟨(some 5), .mv, [.c .nilmap], none⟩] [0, 1])
 (.seq (.reg [⟨(some 6), (.alloc (List.replicate 65536 (.b false)) true), [], none⟩] [0, 1, 6])
 (.seq (.reg [⟨(some 14), .mkmap, [], none⟩,
   ⟨(some 7), (.alloc [.nilmap] false), [], none⟩,
   ⟨none, (.st 1), [.t 7, .t 14], none⟩] [0, 1, 6, 7])
 (.seq (.reg [⟨(some 15), .mv, [.t 1], none⟩,
   ⟨(some 16), (.ixA 65536 1 false), [.t 6, .t 15], none⟩,
   ⟨none, (.st 1), [.t 16, .c (.b true)], none⟩] [0, 1, 6, 7])
 (.seq (.reg [⟨(some 17), .mv, [.t 1], none⟩,
   ⟨(some 18), (.bsl false [(.i .i64 0)] false 1 [0]), [.t 17], none⟩,
   ⟨(some 8), (.alloc [.nilsl] false), [], none⟩,
   ⟨none, (.st 1), [.t 8, .t 18], none⟩] [0, 6, 7, 8])
 (.seq (.block 0
  l49_3)
 (.seq (.reg [⟨(some 55), (.ld 1 false), [.t 7], none⟩,
   ⟨(some 4), .mv, [.t 6], none⟩,
   ⟨(some 5), .mv, [.t 55], none⟩] [4, 5])
 .ret)))))))

def d49 : DFun := ⟨2, 56, c49, [.t 4, .t 5]⟩

theorem ok49 : Fok Try.prog 49 d49 := ⟨Try.f49, Try.func49, by kernel_rfl, by kernel_rfl⟩

-- (bibelot/peg.jump).list
def c50 : DC :=
 (.seq (.reg [⟨(some 1), (.box true), [.t 0], none⟩,
   ⟨(some 2), (.alloc [(.i .i64 0), (.i .i64 0), (.i .i64 0)] true), [], none⟩] [1, 2])
 (.seq (.reg [⟨(some 3), (.fadr 0 1 false), [.t 1], none⟩,
   ⟨(some 4), (.ld 1 false), [.t 3], none⟩,
   ⟨(some 5), (.fadr 1 1 false), [.t 1], none⟩,
   ⟨(some 6), (.ld 1 false), [.t 5], none⟩,
   ⟨(some 7), (.fadr 2 1 false), [.t 1], none⟩,
   ⟨(some 8), (.ld 1 false), [.t 7], none⟩,
   ⟨(some 9), (.build [(.i .i64 0), (.i .i64 0), (.i .i64 0)] [(0, 1), (1, 1), (2, 1)]), [.t 4, .t 6, .t 8], none⟩,
   ⟨none, (.st 3), [.t 2, .t 9], none⟩] [2])
 .ret))

def d50 : DFun := ⟨1, 10, c50, [.c 2 3 true]⟩

theorem ok50 : Fok Try.prog 50 d50 := ⟨Try.f50, Try.func50, by kernel_rfl, by kernel_rfl⟩

-- slices.Reverse[[][3]int,[3]int]
def b51_0 : DC :=
 (.seq (.seq (.reg [⟨(some 7), .mv, [.t 2], none⟩,
   ⟨(some 8), .mv, [.t 3], none⟩,
   ⟨(some 9), (.binI .lss), [.t 7, .t 8], none⟩] [0, 2, 3, 9])
 (.cond (.t 9)
  .skip
  (.exit 0)))
 (.seq (.block 1
  (.reg [⟨(some 14), .mv, [.t 0], none⟩,
    ⟨(some 15), .mv, [.t 2], none⟩,
    ⟨(some 16), .mv, [.t 0], none⟩,
    ⟨(some 17), .mv, [.t 3], none⟩,
    ⟨(some 18), .mv, [.t 0], none⟩,
    ⟨(some 19), .mv, [.t 3], none⟩,
    ⟨(some 20), (.ixS 3 true), [.t 18, .t 19], none⟩,
    ⟨(some 21), (.ld 3 true), [.t 20], none⟩,
    ⟨(some 22), .mv, [.t 0], none⟩,
    ⟨(some 23), .mv, [.t 2], none⟩,
    ⟨(some 24), (.ixS 3 true), [.t 22, .t 23], none⟩,
    ⟨(some 25), (.ld 3 true), [.t 24], none⟩,
    ⟨(some 26), (.ixS 3 true), [.t 14, .t 15], none⟩,
    ⟨none, (.st 3), [.t 26, .t 21], none⟩,
    ⟨(some 27), (.ixS 3 true), [.t 16, .t 17], none⟩,
    ⟨none, (.st 3), [.t 27, .t 25], none⟩] [0, 2, 3]))
 (.reg [⟨(some 10), .mv, [.t 2], none⟩,
   ⟨(some 11), (.binI .add), [.t 10, .c (.i .i64 1)], none⟩,
   ⟨(some 12), .mv, [.t 3], none⟩,
   ⟨(some 13), (.binI .sub), [.t 12, .c (.i .i64 1)], none⟩,
   ⟨(some 2), .mv, [.t 11], none⟩,
   ⟨(some 3), .mv, [.t 13], none⟩] [0, 2, 3])))

def l51_1 : DC :=
 (.loop [0, 2, 3] b51_0)

def c51 : DC :=
 (.seq (.reg [⟨(some 4), .mv, [.t 0], none⟩,
   ⟨(some 5), (.len 0), [.t 4], none⟩,
   ⟨(some 6), (.binI .sub), [.t 5, .c (.i .i64 1)], none⟩,
   ⟨(some 2), .mv, [.c (.i .i64 0)], none⟩,
   ⟨(some 3), .mv, [.t 6], none⟩] [0, 2, 3])
 (.block 0
  l51_1))

def d51 : DFun := ⟨1, 28, c51, []⟩

theorem ok51 : Fok Try.prog 51 d51 := ⟨Try.f51, Try.func51, by kernel_rfl, by kernel_rfl⟩

-- bibelot/bibelotref02.Of
def b52_0 : DC :=
 (.seq (.seq (.reg [⟨(some 7), .mv, [.t 5], none⟩,
   ⟨(some 8), .mv, [.t 0], none⟩,
   ⟨(some 9), (.len 0), [.t 8], none⟩,
   ⟨(some 10), (.binI .lss), [.t 7, .t 9], none⟩] [0, 3, 5, 10])
 (.cond (.t 10)
  .skip
  (.exit 0)))
 (.seq (.block 1
  (.seq (.reg [⟨(some 13), .mv, [.t 0], none⟩,
    ⟨(some 14), .mv, [.t 5], none⟩,
    ⟨(some 15), (.ixS 3 true), [.t 13, .t 14], none⟩,
    ⟨(some 16), (.ld 3 true), [.t 15], none⟩,
    ⟨(some 6), (.alloc [(.i .i64 0), (.i .i64 0), (.i .i64 0)] true), [], none⟩,
    ⟨none, (.st 3), [.t 6, .t 16], none⟩] [0, 3, 5, 6])
  (.seq (.reg [⟨(some 17), (.ld 3 true), [.t 6], none⟩,
    ⟨(some 18), (.ld 3 true), [.t 3], none⟩,
    ⟨(some 19), (.eqA false [true, true, true]), [.t 17, .t 18], none⟩,
    ⟨(some 20), .mv, [.t 19], none⟩,
    ⟨(some 21), (.ld 3 true), [.t 6], (some (20, false))⟩,
    ⟨(some 22), (.ixA 3 1 false), [.t 3, .c (.i .i64 2)], (some (20, false))⟩,
    ⟨(some 23), (.ld 1 false), [.t 22], (some (20, false))⟩,
    ⟨(some 24), (.ixA 3 1 false), [.t 3, .c (.i .i64 1)], (some (20, false))⟩,
    ⟨(some 25), (.ld 1 false), [.t 24], (some (20, false))⟩,
    ⟨(some 26), (.ixA 3 1 false), [.t 3, .c (.i .i64 0)], (some (20, false))⟩,
    ⟨(some 27), (.ld 1 false), [.t 26], (some (20, false))⟩,
    ⟨(some 28), (.build [(.i .i64 0), (.i .i64 0), (.i .i64 0)] [(0, 1), (1, 1), (2, 1)]), [.t 23, .t 25, .t 27], (some (20, false))⟩,
    ⟨(some 29), (.eqA false [true, true, true]), [.t 21, .t 28], (some (20, false))⟩,
    ⟨(some 30), .pick, [.t 20, .c (.b true), .t 29], none⟩] [0, 3, 5, 30])
  (.cond (.t 30)
   (.seq (.reg [⟨(some 4), .mv, [.c (.b true)], none⟩] [4])
   .ret)
   .skip))))
 (.reg [⟨(some 11), .mv, [.t 5], none⟩,
   ⟨(some 12), (.binI .add), [.t 11, .c (.i .i64 1)], none⟩,
   ⟨(some 5), .mv, [.t 12], none⟩] [0, 3, 5])))

def l52_1 : DC :=
 (.loop [0, 3, 5] b52_0)

def c52 : DC :=
 (.seq (.reg [⟨(some 3), (.box true), [.t 1], none⟩,
   ⟨(some 4), .mv, [.c (.b false)], none⟩] [0, 3])
 (.seq (.seq (.reg [⟨(some 5), .mv, [.c (.i .i64 0)], none⟩] [0, 3, 5])
 (.block 0
  l52_1))
 (.seq (.reg [⟨(some 4), .mv, [.c (.b false)], none⟩] [4])
 .ret)))

def d52 : DFun := ⟨2, 31, c52, [.t 4]⟩

theorem ok52 : Fok Try.prog 52 d52 := ⟨Try.f52, Try.func52, by kernel_rfl, by kernel_rfl⟩

-- math/bits.OnesCount
def c53 : DC :=
 (.seq (.reg [⟨(some 2), .mv, [.c (.i .i64 0)], none⟩] [0])
 (.seq (.cond (.c (.b false))
  (.seq (.reg [⟨(some 3), .mv, [.t 0], none⟩,
    ⟨(some 4), (.conv .u32), [.t 3], none⟩,
    ⟨(some 5), (.call (.pu [])), [.c (.fn 72 [] []), .t 4], none⟩,
    ⟨(some 2), .mv, [.t 5], none⟩] [2])
  .ret)
  .skip)
 (.seq (.reg [⟨(some 6), .mv, [.t 0], none⟩,
   ⟨(some 7), (.call (.pu [])), [.c (.fn 73 [] []), .t 6], none⟩,
   ⟨(some 2), .mv, [.t 7], none⟩] [2])
 .ret)))

def d53 : DFun := ⟨1, 8, c53, [.t 2]⟩

theorem ok53 : Fok Try.prog 53 d53 := ⟨Try.f53, Try.func53, by kernel_rfl, by kernel_rfl⟩

-- bibelot/peg.rules
def b54_0 : DC :=
 (.seq (.reg [⟨(some 44), (.binI .lss), [.t 43, .t 42], none⟩] [0, 5, 8, 21, 22, 23, 41, 42, 43, 44])
 (.seq (.cond (.t 44)
  .skip
  (.exit 2))
 (.seq (.block 3
  (.seq (.reg [⟨(some 45), (.ixS 1 false), [.t 41, .t 43], none⟩,
    ⟨(some 46), (.ld 1 false), [.t 45], none⟩,
    ⟨(some 10), .mv, [.t 46], none⟩] [0, 5, 8, 10, 21, 22, 23, 41, 42, 43])
  (.seq (.reg [⟨(some 47), .mv, [.t 8], none⟩,
    ⟨(some 48), .mv, [.t 10], none⟩,
    ⟨(some 49), .mv, [.t 10], none⟩,
    ⟨(some 50), (.negI .i64), [.t 49], none⟩,
    ⟨(some 51), (.binI .and), [.t 48, .t 50], none⟩,
    ⟨(some 52), (.binI .and), [.t 47, .t 51], none⟩,
    ⟨(some 53), (.binI .neq), [.t 52, .c (.i .i64 0)], none⟩] [0, 5, 8, 10, 21, 22, 23, 41, 42, 43, 53])
  (.cond (.t 53)
   (.reg [⟨(some 54), .mv, [.t 8], none⟩,
     ⟨(some 55), .mv, [.t 10], none⟩,
     ⟨(some 56), (.binI .xor), [.t 54, .t 55], none⟩,
     ⟨(some 8), .mv, [.t 56], none⟩] [0, 5, 8, 21, 22, 23, 41, 42, 43])
   .skip))))
 (.reg [⟨(some 57), (.binI .add), [.t 43, .c (.i .i64 1)], none⟩,
   ⟨(some 43), .mv, [.t 57], none⟩] [0, 5, 8, 21, 22, 23, 41, 42, 43]))))

def l54_1 : DC :=
 (.loop [0, 5, 8, 21, 22, 23, 41, 42, 43] b54_0)

def b54_2 : DC :=
 (.seq (.reg [⟨(some 63), (.binI .lss), [.t 62, .t 61], none⟩] [0, 5, 8, 21, 22, 23, 60, 61, 62, 63])
 (.seq (.cond (.t 63)
  .skip
  (.exit 4))
 (.seq (.block 5
  (.seq (.reg [⟨(some 64), .mv, [.t 62], none⟩,
    ⟨(some 65), (.ixS 1 false), [.t 60, .t 62], none⟩,
    ⟨(some 66), (.ld 1 false), [.t 65], none⟩,
    ⟨(some 11), .mv, [.t 64], none⟩,
    ⟨(some 12), .mv, [.t 66], none⟩] [0, 5, 8, 11, 12, 21, 22, 23, 60, 61, 62])
  (.seq (.reg [⟨(some 67), .mv, [.t 12], none⟩,
    ⟨(some 68), .mv, [.t 8], none⟩,
    ⟨(some 69), .mv, [.t 8], none⟩,
    ⟨(some 70), (.negI .i64), [.t 69], none⟩,
    ⟨(some 71), (.binI .and), [.t 68, .t 70], none⟩,
    ⟨(some 72), (.binI .and), [.t 67, .t 71], none⟩,
    ⟨(some 73), (.binI .neq), [.t 72, .c (.i .i64 0)], none⟩] [0, 5, 8, 11, 12, 21, 22, 23, 60, 61, 62, 73])
  (.cond (.t 73)
   (.reg [⟨(some 74), .mv, [.t 5], none⟩,
     ⟨(some 75), .mv, [.t 11], none⟩,
     ⟨(some 76), .mv, [.t 12], none⟩,
     ⟨(some 77), .mv, [.t 8], none⟩,
     ⟨(some 78), (.binI .xor), [.t 76, .t 77], none⟩,
     ⟨(some 79), (.ixS 1 false), [.t 74, .t 75], none⟩,
     ⟨none, (.st 1), [.t 79, .t 78], none⟩] [0, 5, 8, 21, 22, 23, 60, 61, 62])
   .skip))))
 (.reg [⟨(some 80), (.binI .add), [.t 62, .c (.i .i64 1)], none⟩,
   ⟨(some 62), .mv, [.t 80], none⟩] [0, 5, 8, 21, 22, 23, 60, 61, 62]))))

def l54_3 : DC :=
 (.loop [0, 5, 8, 21, 22, 23, 60, 61, 62] b54_2)

def b54_4 : DC :=
 (.seq (.reg [⟨(some 24), (.binI .lss), [.t 23, .t 22], none⟩] [0, 5, 21, 22, 23, 24])
 (.seq (.cond (.t 24)
  .skip
  (.exit 0))
 (.seq (.block 1
  (.seq (.reg [⟨(some 25), (.ixS 3 true), [.t 21, .t 23], none⟩,
    ⟨(some 26), (.ld 3 true), [.t 25], none⟩,
    ⟨(some 7), (.alloc [(.i .i64 0), (.i .i64 0), (.i .i64 0)] true), [], none⟩,
    ⟨none, (.st 3), [.t 7, .t 26], none⟩] [0, 5, 7, 21, 22, 23])
  (.seq (.reg [⟨(some 27), (.ixA 3 1 false), [.t 7, .c (.i .i64 0)], none⟩,
    ⟨(some 28), (.ld 1 false), [.t 27], none⟩,
    ⟨(some 29), (.conv .u64), [.t 28], none⟩,
    ⟨(some 30), (.binI .shl), [.c (.i .i64 1), .t 29], none⟩,
    ⟨(some 31), (.ixA 3 1 false), [.t 7, .c (.i .i64 1)], none⟩,
    ⟨(some 32), (.ld 1 false), [.t 31], none⟩,
    ⟨(some 33), (.conv .u64), [.t 32], none⟩,
    ⟨(some 34), (.binI .shl), [.c (.i .i64 1), .t 33], none⟩,
    ⟨(some 35), (.binI .or), [.t 30, .t 34], none⟩,
    ⟨(some 36), (.ixA 3 1 false), [.t 7, .c (.i .i64 2)], none⟩,
    ⟨(some 37), (.ld 1 false), [.t 36], none⟩,
    ⟨(some 38), (.conv .u64), [.t 37], none⟩,
    ⟨(some 39), (.binI .shl), [.c (.i .i64 1), .t 38], none⟩,
    ⟨(some 40), (.binI .or), [.t 35, .t 39], none⟩,
    ⟨(some 8), .mv, [.t 40], none⟩] [0, 5, 8, 21, 22, 23])
  (.seq (.seq (.reg [⟨(some 41), .mv, [.t 5], none⟩,
    ⟨(some 42), (.len 0), [.t 41], none⟩,
    ⟨(some 43), .mv, [.c (.i .i64 0)], none⟩] [0, 5, 8, 21, 22, 23, 41, 42, 43])
  (.block 2
   l54_1))
  (.seq (.seq (.reg [⟨(some 58), .mv, [.t 8], none⟩,
    ⟨(some 59), (.binI .eql), [.t 58, .c (.i .i64 0)], none⟩] [0, 5, 8, 21, 22, 23, 59])
  (.cond (.t 59)
   (.exit 1)
   .skip))
  (.seq (.seq (.reg [⟨(some 60), .mv, [.t 5], none⟩,
    ⟨(some 61), (.len 0), [.t 60], none⟩,
    ⟨(some 62), .mv, [.c (.i .i64 0)], none⟩] [0, 5, 8, 21, 22, 23, 60, 61, 62])
  (.block 4
   l54_3))
  (.reg [⟨(some 81), .mv, [.t 5], none⟩,
    ⟨(some 82), .mv, [.t 8], none⟩,
    ⟨(some 83), (.bsl false [(.i .i64 0)] false 1 [0]), [.t 82], none⟩,
    ⟨(some 84), (.app 1 false 8), [.t 81, .t 83], none⟩,
    ⟨(some 5), .mv, [.t 84], none⟩] [0, 5, 21, 22, 23])))))))
 (.reg [⟨(some 85), (.binI .add), [.t 23, .c (.i .i64 1)], none⟩,
   ⟨(some 23), .mv, [.t 85], none⟩] [0, 5, 21, 22, 23]))))

def l54_5 : DC :=
 (.loop [0, 5, 21, 22, 23] b54_4)

def b54_6 : DC :=
 (.seq (.reg [⟨(some 89), (.binI .lss), [.t 88, .t 87], none⟩] [0, 5, 13, 86, 87, 88, 89])
 (.seq (.cond (.t 89)
  .skip
  (.exit 6))
 (.seq (.block 7
  (.seq (.reg [⟨(some 90), (.ixS 1 false), [.t 86, .t 88], none⟩,
    ⟨(some 91), (.ld 1 false), [.t 90], none⟩,
    ⟨(some 15), .mv, [.t 91], none⟩] [0, 5, 13, 15, 86, 87, 88])
  (.reg [⟨(some 92), .mv, [.t 13], none⟩,
    ⟨(some 93), .mv, [.t 15], none⟩,
    ⟨(some 94), .mv, [.t 15], none⟩,
    ⟨(some 95), (.negI .i64), [.t 94], none⟩,
    ⟨(some 96), (.binI .and), [.t 93, .t 95], none⟩,
    ⟨(some 97), (.binI .or), [.t 92, .t 96], none⟩,
    ⟨(some 13), .mv, [.t 97], none⟩] [0, 5, 13, 86, 87, 88])))
 (.reg [⟨(some 98), (.binI .add), [.t 88, .c (.i .i64 1)], none⟩,
   ⟨(some 88), .mv, [.t 98], none⟩] [0, 5, 13, 86, 87, 88]))))

def l54_7 : DC :=
 (.loop [0, 5, 13, 86, 87, 88] b54_6)

def b54_8 : DC :=
 (.seq (.reg [⟨(some 115), (.binI .lss), [.t 114, .t 113], none⟩] [5, 13, 16, 17, 18, 99, 100, 112, 113, 114, 115])
 (.seq (.cond (.t 115)
  .skip
  (.exit 10))
 (.seq (.block 11
  (.seq (.reg [⟨(some 116), (.ixS 1 false), [.t 112, .t 114], none⟩,
    ⟨(some 117), (.ld 1 false), [.t 116], none⟩,
    ⟨(some 20), .mv, [.t 117], none⟩] [5, 13, 16, 17, 18, 20, 99, 100, 112, 113, 114])
  (.seq (.reg [⟨(some 118), .mv, [.t 20], none⟩,
    ⟨(some 119), .mv, [.t 17], none⟩,
    ⟨(some 120), (.conv .u64), [.t 119], none⟩,
    ⟨(some 121), (.binI .shr), [.t 118, .t 120], none⟩,
    ⟨(some 122), (.binI .and), [.t 121, .c (.i .i64 1)], none⟩,
    ⟨(some 123), (.binI .eql), [.t 122, .c (.i .i64 1)], none⟩] [5, 13, 16, 17, 18, 20, 99, 100, 112, 113, 114, 123])
  (.cond (.t 123)
   (.reg [⟨(some 124), .mv, [.t 18], none⟩,
     ⟨(some 125), .mv, [.t 20], none⟩,
     ⟨(some 126), .mv, [.t 20], none⟩,
     ⟨(some 127), (.negI .i64), [.t 126], none⟩,
     ⟨(some 128), (.binI .and), [.t 125, .t 127], none⟩,
     ⟨(some 129), (.binI .or), [.t 124, .t 128], none⟩,
     ⟨(some 18), .mv, [.t 129], none⟩] [5, 13, 16, 17, 18, 99, 100, 112, 113, 114])
   .skip))))
 (.reg [⟨(some 130), (.binI .add), [.t 114, .c (.i .i64 1)], none⟩,
   ⟨(some 114), .mv, [.t 130], none⟩] [5, 13, 16, 17, 18, 99, 100, 112, 113, 114]))))

def l54_9 : DC :=
 (.loop [5, 13, 16, 17, 18, 99, 100, 112, 113, 114] b54_8)

def b54_10 : DC :=
 (.seq (.reg [⟨(some 101), (.binI .lss), [.t 100, .t 99], none⟩] [5, 13, 16, 99, 100, 101])
 (.seq (.cond (.t 101)
  .skip
  (.exit 8))
 (.seq (.block 9
  (.seq (.reg [⟨(some 102), .mv, [.t 100], none⟩,
    ⟨(some 17), .mv, [.t 102], none⟩] [5, 13, 16, 17, 99, 100])
  (.seq (.seq (.reg [⟨(some 103), .mv, [.t 13], none⟩,
    ⟨(some 104), .mv, [.t 17], none⟩,
    ⟨(some 105), (.conv .u64), [.t 104], none⟩,
    ⟨(some 106), (.binI .shr), [.t 103, .t 105], none⟩,
    ⟨(some 107), (.binI .and), [.t 106, .c (.i .i64 1)], none⟩,
    ⟨(some 108), (.binI .eql), [.t 107, .c (.i .i64 1)], none⟩] [5, 13, 16, 17, 99, 100, 108])
  (.cond (.t 108)
   (.exit 9)
   .skip))
  (.seq (.reg [⟨(some 109), .mv, [.t 17], none⟩,
    ⟨(some 110), (.conv .u64), [.t 109], none⟩,
    ⟨(some 111), (.binI .shl), [.c (.i .i64 1), .t 110], none⟩,
    ⟨(some 18), .mv, [.t 111], none⟩] [5, 13, 16, 17, 18, 99, 100])
  (.seq (.seq (.reg [⟨(some 112), .mv, [.t 5], none⟩,
    ⟨(some 113), (.len 0), [.t 112], none⟩,
    ⟨(some 114), .mv, [.c (.i .i64 0)], none⟩] [5, 13, 16, 17, 18, 99, 100, 112, 113, 114])
  (.block 10
   l54_9))
  (.reg [⟨(some 131), .mv, [.t 16], none⟩,
    ⟨(some 132), .mv, [.t 18], none⟩,
    ⟨(some 133), (.bsl false [(.i .i64 0)] false 1 [0]), [.t 132], none⟩,
    ⟨(some 134), (.app 1 false 8), [.t 131, .t 133], none⟩,
    ⟨(some 16), .mv, [.t 134], none⟩] [5, 13, 16, 99, 100]))))))
 (.reg [⟨(some 135), (.binI .add), [.t 100, .c (.i .i64 1)], none⟩,
   ⟨(some 100), .mv, [.t 135], none⟩] [5, 13, 16, 99, 100]))))

def l54_11 : DC :=
 (.loop [5, 13, 16, 99, 100] b54_10)

def c54 : DC :=
 (.seq (.reg [⟨(some 4), .mv, [.c .nilsl], none⟩] [0, 1])
 (.seq (.reg [⟨(some 5), .mv, [.c .nilsl], none⟩] [0, 1, 5])
 (.seq (.seq (.reg [⟨(some 21), .mv, [.t 1], none⟩,
   ⟨(some 22), (.len 0), [.t 21], none⟩,
   ⟨(some 23), .mv, [.c (.i .i64 0)], none⟩] [0, 5, 21, 22, 23])
 (.block 0
  l54_5))
 (.seq (.reg [⟨(some 13), .mv, [.c (.i .i64 0)], none⟩] [0, 5, 13])
 (.seq (.seq (.reg [⟨(some 86), .mv, [.t 5], none⟩,
   ⟨(some 87), (.len 0), [.t 86], none⟩,
   ⟨(some 88), .mv, [.c (.i .i64 0)], none⟩] [0, 5, 13, 86, 87, 88])
 (.block 6
  l54_7))
 (.seq (.reg [⟨(some 16), .mv, [.c .nilsl], none⟩] [0, 5, 13, 16])
 (.seq (.seq (.reg [⟨(some 99), .mv, [.t 0], none⟩,
   ⟨(some 100), .mv, [.c (.i .i64 0)], none⟩] [5, 13, 16, 99, 100])
 (.block 8
  l54_11))
 (.seq (.reg [⟨(some 136), .mv, [.t 16], none⟩,
   ⟨(some 4), .mv, [.t 136], none⟩] [4])
 .ret))))))))

def d54 : DFun := ⟨2, 137, c54, [.t 4]⟩

theorem ok54 : Fok Try.prog 54 d54 := ⟨Try.f54, Try.func54, by kernel_rfl, by kernel_rfl⟩

-- slices.ContainsFunc[[]int,int]
def c55 : DC :=
 (.seq (.reg [⟨(some 4), .mv, [.c (.b false)], none⟩] [0, 1])
 (.seq (.reg [⟨(some 5), .mv, [.t 0], none⟩,
   ⟨(some 6), .mv, [.t 1], none⟩,
   ⟨(some 7), (.call .sh), [.c (.fn 74 [] []), .t 5, .t 6], none⟩,
   ⟨(some 8), (.binI .geq), [.t 7, .c (.i .i64 0)], none⟩,
   ⟨(some 4), .mv, [.t 8], none⟩] [4])
 .ret))

def d55 : DFun := ⟨2, 9, c55, [.t 4]⟩

theorem ok55 : Fok Try.prog 55 d55 := ⟨Try.f55, Try.func55, by kernel_rfl, by kernel_rfl⟩

-- bibelot/peg.Alike$1
def c56 : DC :=
 (.seq (.reg [⟨(some 4), .mv, [.c (.b false)], none⟩] [0, 1, 2])
 (.seq (.reg [⟨(some 5), .mv, [.t 0], none⟩,
   ⟨(some 6), (.ld 1 false), [.t 1], none⟩,
   ⟨(some 7), (.ld 1 false), [.t 2], none⟩,
   ⟨(some 8), (.binI .xor), [.t 6, .t 7], none⟩,
   ⟨(some 9), (.binI .and), [.t 5, .t 8], none⟩,
   ⟨(some 10), (.conv .u64), [.t 9], none⟩,
   ⟨(some 11), (.call (.pu [])), [.c (.fn 53 [] []), .t 10], none⟩,
   ⟨(some 12), (.binI .rem), [.t 11, .c (.i .i64 2)], none⟩,
   ⟨(some 13), (.binI .eql), [.t 12, .c (.i .i64 1)], none⟩,
   ⟨(some 4), .mv, [.t 13], none⟩] [4])
 .ret))

def d56 : DFun := ⟨3, 14, c56, [.t 4]⟩

theorem ok56 : Fok Try.prog 56 d56 := ⟨Try.f56, Try.func56, by kernel_rfl, by kernel_rfl⟩

-- bibelot/bibelotref02.top
def b57_0 : DC :=
 (.seq (.seq (.reg [⟨(some 4), .mv, [.t 0], none⟩,
   ⟨(some 5), .mv, [.t 3], none⟩,
   ⟨(some 6), (.binI .shr), [.t 4, .t 5], none⟩,
   ⟨(some 7), (.binI .gtr), [.t 6, .c (.i .i64 1)], none⟩] [0, 3, 7])
 (.cond (.t 7)
  .skip
  (.exit 0)))
 (.block 1
  (.reg [⟨(some 8), .mv, [.t 3], none⟩,
    ⟨(some 9), (.binI .add), [.t 8, .c (.i .i64 1)], none⟩,
    ⟨(some 3), .mv, [.t 9], none⟩] [0, 3])))

def l57_1 : DC :=
 (.loop [0, 3] b57_0)

def c57 : DC :=
 (.seq (.reg [⟨(some 2), .mv, [.c (.i .i64 0)], none⟩] [0])
 (.seq (.reg [⟨(some 3), .mv, [.c (.i .i64 0)], none⟩] [0, 3])
 (.seq (.block 0
  l57_1)
 (.seq (.reg [⟨(some 10), .mv, [.t 3], none⟩,
   ⟨(some 2), .mv, [.t 10], none⟩] [2])
 .ret))))

def d57 : DFun := ⟨1, 11, c57, [.t 2]⟩

theorem ok57 : Fok Try.prog 57 d57 := ⟨Try.f57, Try.func57, by kernel_rfl, by kernel_rfl⟩

-- bibelot/peg.areWeights
def c58 : DC :=
 (.seq (.reg [⟨(some 4), .mv, [.c (.b false)], none⟩] [0, 1])
 (.seq (.reg [⟨(some 5), .mv, [.t 1], none⟩,
   ⟨(some 6), (.len 0), [.t 5], none⟩,
   ⟨(some 7), .mv, [.t 0], none⟩,
   ⟨(some 8), (.binI .eql), [.t 6, .t 7], none⟩,
   ⟨(some 9), .mv, [.t 8], none⟩,
   ⟨(some 10), .mv, [.t 1], (some (9, true))⟩,
   ⟨(some 11), (.call (.pu [])), [.c (.fn 75 [] []), .t 10], (some (9, true))⟩,
   ⟨(some 12), (.binI .geq), [.t 11, .c (.i .i64 (-1000000))], (some (9, true))⟩,
   ⟨(some 13), .pick, [.t 9, .t 12, .c (.b false)], none⟩,
   ⟨(some 14), .mv, [.t 13], none⟩,
   ⟨(some 15), .mv, [.t 1], (some (14, true))⟩,
   ⟨(some 16), (.call (.pu [])), [.c (.fn 76 [] []), .t 15], (some (14, true))⟩,
   ⟨(some 17), (.binI .leq), [.t 16, .c (.i .i64 1000000)], (some (14, true))⟩,
   ⟨(some 18), .pick, [.t 14, .t 17, .c (.b false)], none⟩,
   ⟨(some 4), .mv, [.t 18], none⟩] [4])
 .ret))

def d58 : DFun := ⟨2, 19, c58, [.t 4]⟩

theorem ok58 : Fok Try.prog 58 d58 := ⟨Try.f58, Try.func58, by kernel_rfl, by kernel_rfl⟩

-- bibelot/peg.isPagoda
def a59_0 : DC :=
 (.reg [⟨(some 6), (.alloc [(.i .i64 0), (.i .i64 0), (.i .i64 0)] true), [], none⟩,
   ⟨none, (.st 3), [.t 6, .t 10], none⟩] [3, 4, 6])

def b59_1 : DC :=
 (.block 1
  (.seq (.reg [⟨(some 11), (.ld 1 false), [.t 3], none⟩,
    ⟨(some 12), (.fadr 0 1 false), [.t 6], none⟩,
    ⟨(some 13), (.ld 1 false), [.t 12], none⟩,
    ⟨(some 14), (.ixS 1 false), [.t 11, .t 13], none⟩,
    ⟨(some 15), (.ld 1 false), [.t 14], none⟩,
    ⟨(some 16), (.ld 1 false), [.t 3], none⟩,
    ⟨(some 17), (.fadr 1 1 false), [.t 6], none⟩,
    ⟨(some 18), (.ld 1 false), [.t 17], none⟩,
    ⟨(some 19), (.ixS 1 false), [.t 16, .t 18], none⟩,
    ⟨(some 20), (.ld 1 false), [.t 19], none⟩,
    ⟨(some 21), (.binI .add), [.t 15, .t 20], none⟩,
    ⟨(some 22), (.ld 1 false), [.t 3], none⟩,
    ⟨(some 23), (.fadr 2 1 false), [.t 6], none⟩,
    ⟨(some 24), (.ld 1 false), [.t 23], none⟩,
    ⟨(some 25), (.ixS 1 false), [.t 22, .t 24], none⟩,
    ⟨(some 26), (.ld 1 false), [.t 25], none⟩,
    ⟨(some 27), (.binI .lss), [.t 21, .t 26], none⟩] [4, 27])
  (.cond (.t 27)
   (.seq (.reg [⟨none, (.st 1), [.t 4, .c (.b false)], none⟩] [])
   .ret)
   .skip)))

def c59 : DC :=
 (.seq (.reg [⟨(some 3), (.box false), [.t 1], none⟩,
   ⟨(some 4), (.alloc [(.b false)] false), [], none⟩] [0, 3, 4])
 (.seq (.seq (.reg [⟨(some 7), .mv, [.t 0], none⟩,
   ⟨(some 8), (.call .sh), [.c (.fn 62 [] []), .t 7], none⟩] [3, 4, 8])
 (.block 0
  (.rfunc (.t 8) [9, 10] a59_0
   b59_1 [3, 4])))
 (.seq (.reg [⟨none, (.st 1), [.t 4, .c (.b true)], none⟩] [4])
 .ret)))

def d59 : DFun := ⟨2, 28, c59, [.c 4 1 false]⟩

theorem ok59 : Fok Try.prog 59 d59 := ⟨Try.f59, Try.func59, by kernel_rfl, by kernel_rfl⟩

-- bibelot/peg.gain
def b60_0 : DC :=
 (.seq (.reg [⟨(some 13), (.binI .lss), [.t 12, .t 11], none⟩] [1, 2, 7, 10, 11, 12, 13])
 (.seq (.cond (.t 13)
  .skip
  (.exit 0))
 (.seq (.block 1
  (.seq (.reg [⟨(some 14), .mv, [.t 12], none⟩,
    ⟨(some 15), (.ixS 1 false), [.t 10, .t 12], none⟩,
    ⟨(some 16), (.ld 1 false), [.t 15], none⟩,
    ⟨(some 8), .mv, [.t 14], none⟩,
    ⟨(some 9), .mv, [.t 16], none⟩] [1, 2, 7, 8, 9, 10, 11, 12])
  (.reg [⟨(some 17), .mv, [.t 7], none⟩,
    ⟨(some 18), .mv, [.t 9], none⟩,
    ⟨(some 19), .mv, [.t 2], none⟩,
    ⟨(some 20), .mv, [.t 8], none⟩,
    ⟨(some 21), (.conv .u64), [.t 20], none⟩,
    ⟨(some 22), (.binI .shr), [.t 19, .t 21], none⟩,
    ⟨(some 23), (.binI .and), [.t 22, .c (.i .i64 1)], none⟩,
    ⟨(some 24), .mv, [.t 1], none⟩,
    ⟨(some 25), .mv, [.t 8], none⟩,
    ⟨(some 26), (.conv .u64), [.t 25], none⟩,
    ⟨(some 27), (.binI .shr), [.t 24, .t 26], none⟩,
    ⟨(some 28), (.binI .and), [.t 27, .c (.i .i64 1)], none⟩,
    ⟨(some 29), (.binI .sub), [.t 23, .t 28], none⟩,
    ⟨(some 30), (.binI .mul), [.t 18, .t 29], none⟩,
    ⟨(some 31), (.binI .add), [.t 17, .t 30], none⟩,
    ⟨(some 7), .mv, [.t 31], none⟩] [1, 2, 7, 10, 11, 12])))
 (.reg [⟨(some 32), (.binI .add), [.t 12, .c (.i .i64 1)], none⟩,
   ⟨(some 12), .mv, [.t 32], none⟩] [1, 2, 7, 10, 11, 12]))))

def l60_1 : DC :=
 (.loop [1, 2, 7, 10, 11, 12] b60_0)

def c60 : DC :=
 (.seq (.reg [⟨(some 6), .mv, [.c (.i .i64 0)], none⟩] [0, 1, 2])
 (.seq (.reg [⟨(some 7), .mv, [.c (.i .i64 0)], none⟩] [0, 1, 2, 7])
 (.seq (.seq (.reg [⟨(some 10), .mv, [.t 0], none⟩,
   ⟨(some 11), (.len 0), [.t 10], none⟩,
   ⟨(some 12), .mv, [.c (.i .i64 0)], none⟩] [1, 2, 7, 10, 11, 12])
 (.block 0
  l60_1))
 (.seq (.reg [⟨(some 33), .mv, [.t 7], none⟩,
   ⟨(some 6), .mv, [.t 33], none⟩] [6])
 .ret))))

def d60 : DFun := ⟨3, 34, c60, [.t 6]⟩

theorem ok60 : Fok Try.prog 60 d60 := ⟨Try.f60, Try.func60, by kernel_rfl, by kernel_rfl⟩

-- bibelot/bibelotref02.sum
def b61_0 : DC :=
 (.seq (.seq (.reg [⟨(some 7), .mv, [.t 6], none⟩,
   ⟨(some 8), .mv, [.t 0], none⟩,
   ⟨(some 9), (.len 0), [.t 8], none⟩,
   ⟨(some 10), (.binI .lss), [.t 7, .t 9], none⟩] [0, 1, 5, 6, 10])
 (.cond (.t 10)
  .skip
  (.exit 0)))
 (.seq (.block 1
  (.reg [⟨(some 13), .mv, [.t 5], none⟩,
    ⟨(some 14), .mv, [.t 1], none⟩,
    ⟨(some 15), .mv, [.t 6], none⟩,
    ⟨(some 16), (.binI .shr), [.t 14, .t 15], none⟩,
    ⟨(some 17), (.binI .rem), [.t 16, .c (.i .i64 2)], none⟩,
    ⟨(some 18), .mv, [.t 0], none⟩,
    ⟨(some 19), .mv, [.t 6], none⟩,
    ⟨(some 20), (.ixS 1 false), [.t 18, .t 19], none⟩,
    ⟨(some 21), (.ld 1 false), [.t 20], none⟩,
    ⟨(some 22), (.binI .mul), [.t 17, .t 21], none⟩,
    ⟨(some 23), (.binI .add), [.t 13, .t 22], none⟩,
    ⟨(some 5), .mv, [.t 23], none⟩] [0, 1, 5, 6]))
 (.reg [⟨(some 11), .mv, [.t 6], none⟩,
   ⟨(some 12), (.binI .add), [.t 11, .c (.i .i64 1)], none⟩,
   ⟨(some 6), .mv, [.t 12], none⟩] [0, 1, 5, 6])))

def l61_1 : DC :=
 (.loop [0, 1, 5, 6] b61_0)

def c61 : DC :=
 (.seq (.reg [⟨(some 4), .mv, [.c (.i .i64 0)], none⟩] [0, 1])
 (.seq (.reg [⟨(some 5), .mv, [.c (.i .i64 0)], none⟩] [0, 1, 5])
 (.seq (.seq (.reg [⟨(some 6), .mv, [.c (.i .i64 0)], none⟩] [0, 1, 5, 6])
 (.block 0
  l61_1))
 (.seq (.reg [⟨(some 24), .mv, [.t 5], none⟩,
   ⟨(some 4), .mv, [.t 24], none⟩] [4])
 .ret))))

def d61 : DFun := ⟨2, 25, c61, [.t 4]⟩

theorem ok61 : Fok Try.prog 61 d61 := ⟨Try.f61, Try.func61, by kernel_rfl, by kernel_rfl⟩

-- bibelot/peg.jumps
def c62 : DC :=
 (.seq (.reg [⟨(some 1), (.box false), [.t 0], none⟩,
   ⟨(some 2), .mv, [.c .nilfn], none⟩] [1])
 (.seq (.reg [⟨(some 3), (.mkfn 77 0), [.t 1], none⟩,
   ⟨(some 2), .mv, [.t 3], none⟩] [2])
 .ret))

def d62 : DFun := ⟨1, 4, c62, [.t 2]⟩

theorem ok62 : Fok Try.prog 62 d62 := ⟨Try.f62, Try.func62, by kernel_rfl, by kernel_rfl⟩

-- bibelot/peg.IsPlan$1
def c63 : DC :=
 (.seq (.reg [⟨(some 2), .mv, [.c (.b false)], none⟩] [0])
 (.seq (.reg [⟨(some 3), .mv, [.t 0], none⟩,
   ⟨(some 4), (.binI .neq), [.t 3, .c (.i .i64 0)], none⟩,
   ⟨(some 2), .mv, [.t 4], none⟩] [2])
 .ret))

def d63 : DFun := ⟨1, 5, c63, [.t 2]⟩

theorem ok63 : Fok Try.prog 63 d63 := ⟨Try.f63, Try.func63, by kernel_rfl, by kernel_rfl⟩

-- bibelot/bibelotref02.less
def b64_0 : DC :=
 (.seq (.seq (.reg [⟨(some 6), .mv, [.t 5], none⟩,
   ⟨(some 7), (.binI .lss), [.t 6, .c (.i .i64 3)], none⟩] [2, 3, 5, 7])
 (.cond (.t 7)
  .skip
  (.exit 0)))
 (.seq (.block 1
  (.seq (.reg [⟨(some 10), .mv, [.t 5], none⟩,
    ⟨(some 11), (.ixA 3 1 false), [.t 2, .t 10], none⟩,
    ⟨(some 12), (.ld 1 false), [.t 11], none⟩,
    ⟨(some 13), .mv, [.t 5], none⟩,
    ⟨(some 14), (.ixA 3 1 false), [.t 3, .t 13], none⟩,
    ⟨(some 15), (.ld 1 false), [.t 14], none⟩,
    ⟨(some 16), (.binI .neq), [.t 12, .t 15], none⟩] [2, 3, 5, 16])
  (.cond (.t 16)
   (.seq (.reg [⟨(some 17), .mv, [.t 5], none⟩,
     ⟨(some 18), (.ixA 3 1 false), [.t 2, .t 17], none⟩,
     ⟨(some 19), (.ld 1 false), [.t 18], none⟩,
     ⟨(some 20), .mv, [.t 5], none⟩,
     ⟨(some 21), (.ixA 3 1 false), [.t 3, .t 20], none⟩,
     ⟨(some 22), (.ld 1 false), [.t 21], none⟩,
     ⟨(some 23), (.binI .lss), [.t 19, .t 22], none⟩,
     ⟨(some 4), .mv, [.t 23], none⟩] [4])
   .ret)
   .skip)))
 (.reg [⟨(some 8), .mv, [.t 5], none⟩,
   ⟨(some 9), (.binI .add), [.t 8, .c (.i .i64 1)], none⟩,
   ⟨(some 5), .mv, [.t 9], none⟩] [2, 3, 5])))

def l64_1 : DC :=
 (.loop [2, 3, 5] b64_0)

def c64 : DC :=
 (.seq (.reg [⟨(some 2), (.box true), [.t 0], none⟩,
   ⟨(some 3), (.box true), [.t 1], none⟩,
   ⟨(some 4), .mv, [.c (.b false)], none⟩] [2, 3])
 (.seq (.seq (.reg [⟨(some 5), .mv, [.c (.i .i64 0)], none⟩] [2, 3, 5])
 (.block 0
  l64_1))
 (.seq (.reg [⟨(some 4), .mv, [.c (.b false)], none⟩] [4])
 .ret)))

def d64 : DFun := ⟨2, 24, c64, [.t 4]⟩

theorem ok64 : Fok Try.prog 64 d64 := ⟨Try.f64, Try.func64, by kernel_rfl, by kernel_rfl⟩

-- (bibelot/peg.jump).after
def c65 : DC :=
 (.seq (.reg [⟨(some 2), (.box true), [.t 0], none⟩,
   ⟨(some 4), .mv, [.c (.i .i64 0)], none⟩,
   ⟨(some 5), .mv, [.c (.b false)], none⟩] [1, 2])
 (.seq (.reg [⟨(some 8), (.fadr 0 1 false), [.t 2], none⟩,
   ⟨(some 9), (.ld 1 false), [.t 8], none⟩,
   ⟨(some 10), (.conv .u64), [.t 9], none⟩,
   ⟨(some 11), (.binI .shl), [.c (.i .i64 1), .t 10], none⟩,
   ⟨(some 12), (.fadr 1 1 false), [.t 2], none⟩,
   ⟨(some 13), (.ld 1 false), [.t 12], none⟩,
   ⟨(some 14), (.conv .u64), [.t 13], none⟩,
   ⟨(some 15), (.binI .shl), [.c (.i .i64 1), .t 14], none⟩,
   ⟨(some 16), (.binI .or), [.t 11, .t 15], none⟩,
   ⟨(some 17), (.fadr 2 1 false), [.t 2], none⟩,
   ⟨(some 18), (.ld 1 false), [.t 17], none⟩,
   ⟨(some 19), (.conv .u64), [.t 18], none⟩,
   ⟨(some 20), (.binI .shl), [.c (.i .i64 1), .t 19], none⟩,
   ⟨(some 6), .mv, [.t 16], none⟩,
   ⟨(some 7), .mv, [.t 20], none⟩] [1, 6, 7])
 (.seq (.seq (.reg [⟨(some 21), .mv, [.t 1], none⟩,
   ⟨(some 22), .mv, [.t 6], none⟩,
   ⟨(some 23), (.binI .and), [.t 21, .t 22], none⟩,
   ⟨(some 24), .mv, [.t 6], none⟩,
   ⟨(some 25), (.binI .neq), [.t 23, .t 24], none⟩,
   ⟨(some 26), .mv, [.t 25], none⟩,
   ⟨(some 27), .mv, [.t 1], (some (26, false))⟩,
   ⟨(some 28), .mv, [.t 7], (some (26, false))⟩,
   ⟨(some 29), (.binI .and), [.t 27, .t 28], (some (26, false))⟩,
   ⟨(some 30), (.binI .neq), [.t 29, .c (.i .i64 0)], (some (26, false))⟩,
   ⟨(some 31), .pick, [.t 26, .c (.b true), .t 30], none⟩] [1, 6, 7, 31])
 (.cond (.t 31)
  (.seq (.reg [⟨(some 4), .mv, [.c (.i .i64 0)], none⟩,
    ⟨(some 5), .mv, [.c (.b false)], none⟩] [4, 5])
  .ret)
  .skip))
 (.seq (.reg [⟨(some 32), .mv, [.t 1], none⟩,
   ⟨(some 33), .mv, [.t 6], none⟩,
   ⟨(some 34), (.binI .andNot), [.t 32, .t 33], none⟩,
   ⟨(some 35), .mv, [.t 7], none⟩,
   ⟨(some 36), (.binI .or), [.t 34, .t 35], none⟩,
   ⟨(some 4), .mv, [.t 36], none⟩,
   ⟨(some 5), .mv, [.c (.b true)], none⟩] [4, 5])
 .ret))))

def d65 : DFun := ⟨2, 37, c65, [.t 4, .t 5]⟩

theorem ok65 : Fok Try.prog 65 d65 := ⟨Try.f65, Try.func65, by kernel_rfl, by kernel_rfl⟩

-- bibelot/peg.openFew
def c66 : DC :=
 (.seq (.reg [⟨(some 8), .mv, [.c (.i .i64 0)], none⟩] [0, 1, 2, 3])
 (.seq (.seq (.reg [⟨(some 10), .mv, [.t 0], none⟩,
   ⟨(some 11), .mv, [.t 1], none⟩,
   ⟨(some 12), .mv, [.t 2], none⟩,
   ⟨(some 13), .mv, [.t 3], none⟩,
   ⟨(some 14), (.bsl false [(.i .i64 0)] false 2 [0, 1]), [.t 12, .t 13], none⟩,
   ⟨(some 15), (.call (.pu [])), [.c (.fn 48 [] []), .t 10, .t 11, .t 14], none⟩,
   ⟨(some 9), .mv, [.t 15], none⟩] [0, 1, 9])
 (.seq (.reg [⟨(some 16), .mv, [.t 9], none⟩,
   ⟨(some 17), (.binI .neq), [.t 16, .c (.i .i64 0)], none⟩] [0, 1, 9, 17])
 (.cond (.t 17)
  (.seq (.reg [⟨(some 18), .mv, [.t 9], none⟩,
    ⟨(some 8), .mv, [.t 18], none⟩] [8])
  .ret)
  .skip)))
 (.seq (.seq (.reg [⟨(some 19), .mv, [.t 0], none⟩,
   ⟨(some 20), (.binI .gtr), [.t 19, .c (.i .i64 9)], none⟩,
   ⟨(some 21), .mv, [.t 20], none⟩,
   ⟨(some 22), .mv, [.t 1], (some (21, false))⟩,
   ⟨(some 23), (.len 0), [.t 22], (some (21, false))⟩,
   ⟨(some 24), (.binI .gtr), [.t 23, .c (.i .i64 12)], (some (21, false))⟩,
   ⟨(some 25), .pick, [.t 21, .c (.b true), .t 24], none⟩] [25])
 (.cond (.t 25)
  (.seq (.reg [⟨(some 8), .mv, [.c (.i .i64 2)], none⟩] [8])
  .ret)
  .skip))
 (.seq (.reg [⟨(some 8), .mv, [.c (.i .i64 0)], none⟩] [8])
 .ret))))

def d66 : DFun := ⟨4, 26, c66, [.t 8]⟩

theorem ok66 : Fok Try.prog 66 d66 := ⟨Try.f66, Try.func66, by kernel_rfl, by kernel_rfl⟩

-- bibelot/peg.decide
def a67_0 : DC :=
 (.seq (.reg [⟨(some 16), .mv, [.t 60], none⟩] [13, 14, 16, 61])
 (.reg [⟨(some 17), (.alloc [(.i .i64 0), (.i .i64 0), (.i .i64 0)] true), [], none⟩,
   ⟨none, (.st 3), [.t 17, .t 61], none⟩] [13, 14, 16, 17]))

def b67_1 : DC :=
 (.block 3
  (.seq (.reg [⟨(some 62), (.ld 1 false), [.t 13], none⟩] [14, 16, 17, 62])
  (.block 4
   (.seq (.seq (.reg [⟨(some 64), (.fadr 0 1 false), [.t 17], none⟩,
     ⟨(some 65), (.ld 1 false), [.t 64], none⟩,
     ⟨(some 66), (.binI .eql), [.t 62, .t 65], none⟩,
     ⟨(some 63), .mv, [.t 66], none⟩] [14, 16, 17, 62, 63])
   (.cond (.t 63)
    .skip
    (.reg [⟨(some 67), (.fadr 1 1 false), [.t 17], none⟩,
      ⟨(some 68), (.ld 1 false), [.t 67], none⟩,
      ⟨(some 69), (.binI .eql), [.t 62, .t 68], none⟩,
      ⟨(some 63), .mv, [.t 69], none⟩] [14, 16, 17, 62, 63])))
   (.cond (.t 63)
    (.reg [⟨(some 70), (.ld 1 false), [.t 14], none⟩,
      ⟨(some 71), .mv, [.t 16], none⟩,
      ⟨(some 72), (.ixS 1 false), [.t 70, .t 71], none⟩,
      ⟨none, (.st 1), [.t 72, .c (.i .i64 1)], none⟩] [])
    (.seq (.reg [⟨(some 74), (.fadr 2 1 false), [.t 17], none⟩,
      ⟨(some 75), (.ld 1 false), [.t 74], none⟩,
      ⟨(some 76), (.binI .eql), [.t 62, .t 75], none⟩,
      ⟨(some 73), .mv, [.t 76], none⟩] [14, 16, 73])
    (.cond (.t 73)
     (.reg [⟨(some 77), (.ld 1 false), [.t 14], none⟩,
       ⟨(some 78), .mv, [.t 16], none⟩,
       ⟨(some 79), (.ixS 1 false), [.t 77, .t 78], none⟩,
       ⟨none, (.st 1), [.t 79, .c (.i .i64 (-1))], none⟩] [])
     .skip)))))))

def b67_2 : DC :=
 (.seq (.reg [⟨(some 86), (.binI .lss), [.t 85, .t 84], none⟩] [0, 1, 2, 3, 11, 12, 13, 14, 15, 38, 39, 84, 85, 86])
 (.seq (.cond (.t 86)
  .skip
  (.exit 5))
 (.seq (.block 6
  (.seq (.reg [⟨(some 87), .mv, [.t 85], none⟩,
    ⟨(some 18), .mv, [.t 87], none⟩] [0, 1, 2, 3, 11, 12, 13, 14, 15, 18, 38, 39, 84, 85])
  (.reg [⟨(some 88), (.ld 1 false), [.t 14], none⟩,
    ⟨(some 89), .mv, [.t 18], none⟩,
    ⟨(some 90), (.ld 1 false), [.t 14], none⟩,
    ⟨(some 91), .mv, [.t 18], none⟩,
    ⟨(some 92), (.ixS 1 false), [.t 90, .t 91], none⟩,
    ⟨(some 93), (.ld 1 false), [.t 92], none⟩,
    ⟨(some 94), (.negI .i64), [.t 93], none⟩,
    ⟨(some 95), (.ixS 1 false), [.t 88, .t 89], none⟩,
    ⟨none, (.st 1), [.t 95, .t 94], none⟩] [0, 1, 2, 3, 11, 12, 13, 14, 15, 38, 39, 84, 85])))
 (.reg [⟨(some 96), (.binI .add), [.t 85, .c (.i .i64 1)], none⟩,
   ⟨(some 85), .mv, [.t 96], none⟩] [0, 1, 2, 3, 11, 12, 13, 14, 15, 38, 39, 84, 85]))))

def l67_3 : DC :=
 (.loop [0, 1, 2, 3, 11, 12, 13, 14, 15, 38, 39, 84, 85] b67_2)

def b67_4 : DC :=
 (.seq (.reg [⟨(some 40), (.binI .lss), [.t 39, .t 38], none⟩] [0, 1, 2, 3, 11, 12, 38, 39, 40])
 (.seq (.cond (.t 40)
  .skip
  (.exit 0))
 (.seq (.block 1
  (.seq (.reg [⟨(some 41), .mv, [.t 39], none⟩,
    ⟨(some 13), (.alloc [(.i .i64 0)] false), [], none⟩,
    ⟨none, (.st 1), [.t 13, .t 41], none⟩] [0, 1, 2, 3, 11, 12, 13, 38, 39])
  (.seq (.reg [⟨(some 42), .mv, [.t 11], none⟩,
    ⟨(some 43), .mv, [.t 0], none⟩,
    ⟨(some 44), (.binI .add), [.t 42, .t 43], none⟩,
    ⟨(some 45), (.binI .add), [.t 44, .c (.i .i64 1)], none⟩,
    ⟨(some 46), (.mksl [(.i .i64 0)] false 8), [.t 45, .t 45], none⟩,
    ⟨(some 14), (.alloc [.nilsl] false), [], none⟩,
    ⟨none, (.st 1), [.t 14, .t 46], none⟩] [0, 1, 2, 3, 11, 12, 13, 14, 38, 39])
  (.seq (.reg [⟨(some 47), .mv, [.t 2], none⟩,
    ⟨(some 48), (.ld 1 false), [.t 13], none⟩,
    ⟨(some 49), (.conv .u64), [.t 48], none⟩,
    ⟨(some 50), (.binI .shr), [.t 47, .t 49], none⟩,
    ⟨(some 51), (.binI .and), [.t 50, .c (.i .i64 1)], none⟩,
    ⟨(some 52), .mv, [.t 3], none⟩,
    ⟨(some 53), (.ld 1 false), [.t 13], none⟩,
    ⟨(some 54), (.conv .u64), [.t 53], none⟩,
    ⟨(some 55), (.binI .shr), [.t 52, .t 54], none⟩,
    ⟨(some 56), (.binI .and), [.t 55, .c (.i .i64 1)], none⟩,
    ⟨(some 57), (.binI .sub), [.t 51, .t 56], none⟩,
    ⟨(some 15), .mv, [.t 57], none⟩] [0, 1, 2, 3, 11, 12, 13, 14, 15, 38, 39])
  (.seq (.seq (.reg [⟨(some 58), .mv, [.t 1], none⟩,
    ⟨(some 59), (.call .sh), [.c (.fn 62 [] []), .t 58], none⟩] [0, 1, 2, 3, 11, 12, 13, 14, 15, 38, 39, 59])
  (.block 2
   (.rfunc (.t 59) [60, 61] a67_0
    b67_1 [0, 1, 2, 3, 11, 12, 13, 14, 15, 38, 39])))
  (.seq (.seq (.reg [⟨(some 80), .mv, [.t 15], none⟩,
    ⟨(some 81), (.binI .lss), [.t 80, .c (.i .i64 0)], none⟩] [0, 1, 2, 3, 11, 12, 13, 14, 15, 38, 39, 81])
  (.cond (.t 81)
   (.seq (.reg [⟨(some 82), .mv, [.t 15], none⟩,
     ⟨(some 83), (.negI .i64), [.t 82], none⟩,
     ⟨(some 15), .mv, [.t 83], none⟩] [0, 1, 2, 3, 11, 12, 13, 14, 15, 38, 39])
   (.seq (.reg [⟨(some 84), .mv, [.t 11], none⟩,
     ⟨(some 85), .mv, [.c (.i .i64 0)], none⟩] [0, 1, 2, 3, 11, 12, 13, 14, 15, 38, 39, 84, 85])
   (.block 5
    l67_3)))
   .skip))
  (.seq (.reg [⟨(some 97), (.ld 1 false), [.t 14], none⟩,
    ⟨(some 98), .mv, [.t 11], none⟩,
    ⟨(some 99), (.ld 1 false), [.t 13], none⟩,
    ⟨(some 100), (.binI .add), [.t 98, .t 99], none⟩,
    ⟨(some 101), (.ld 1 false), [.t 14], none⟩,
    ⟨(some 102), .mv, [.t 11], none⟩,
    ⟨(some 103), .mv, [.t 0], none⟩,
    ⟨(some 104), (.binI .add), [.t 102, .t 103], none⟩,
    ⟨(some 105), .mv, [.t 15], none⟩,
    ⟨(some 106), (.ixS 1 false), [.t 97, .t 100], none⟩,
    ⟨none, (.st 1), [.t 106, .c (.i .i64 1)], none⟩,
    ⟨(some 107), (.ixS 1 false), [.t 101, .t 104], none⟩,
    ⟨none, (.st 1), [.t 107, .t 105], none⟩] [0, 1, 2, 3, 11, 12, 13, 14, 38, 39])
  (.seq (.reg [⟨(some 108), .mv, [.t 12], none⟩,
    ⟨(some 109), .mv, [.t 12], none⟩,
    ⟨(some 110), .nilck, [.t 109], none⟩,
    ⟨(some 111), (.fadr 0 1 false), [.t 110], none⟩,
    ⟨(some 112), (.ld 1 false), [.t 111], none⟩,
    ⟨(some 113), (.ld 1 false), [.t 14], none⟩,
    ⟨(some 114), (.bsl false [.nilsl] false 1 [0]), [.t 113], none⟩,
    ⟨(some 115), (.app 1 false 24), [.t 112, .t 114], none⟩,
    ⟨(some 116), .nilck, [.t 108], none⟩,
    ⟨(some 117), (.fadr 0 1 false), [.t 116], none⟩,
    ⟨none, (.st 1), [.t 117, .t 115], none⟩] [0, 1, 2, 3, 11, 12, 13, 38, 39])
  (.reg [⟨(some 118), .mv, [.t 12], none⟩,
    ⟨(some 119), .mv, [.t 12], none⟩,
    ⟨(some 120), .nilck, [.t 119], none⟩,
    ⟨(some 121), (.fadr 1 1 false), [.t 120], none⟩,
    ⟨(some 122), (.ld 1 false), [.t 121], none⟩,
    ⟨(some 123), .mv, [.t 11], none⟩,
    ⟨(some 124), (.ld 1 false), [.t 13], none⟩,
    ⟨(some 125), (.binI .add), [.t 123, .t 124], none⟩,
    ⟨(some 126), (.bsl false [(.i .i64 0)] false 1 [0]), [.t 125], none⟩,
    ⟨(some 127), (.app 1 false 8), [.t 122, .t 126], none⟩,
    ⟨(some 128), .nilck, [.t 118], none⟩,
    ⟨(some 129), (.fadr 1 1 false), [.t 128], none⟩,
    ⟨none, (.st 1), [.t 129, .t 127], none⟩] [0, 1, 2, 3, 11, 12, 38, 39])))))))))
 (.reg [⟨(some 130), (.binI .add), [.t 39, .c (.i .i64 1)], none⟩,
   ⟨(some 39), .mv, [.t 130], none⟩] [0, 1, 2, 3, 11, 12, 38, 39]))))

def l67_5 : DC :=
 (.loop [0, 1, 2, 3, 11, 12, 38, 39] b67_4)

def b67_6 : DC :=
 (.seq (.reg [⟨(some 148), (.binI .lss), [.t 147, .t 146], none⟩] [0, 2, 3, 11, 12, 19, 139, 140, 141, 145, 146, 147, 148])
 (.seq (.cond (.t 148)
  .skip
  (.exit 9))
 (.seq (.block 10
  (.seq (.reg [⟨(some 149), .mv, [.t 147], none⟩,
    ⟨(some 150), (.ixS 1 false), [.t 145, .t 147], none⟩,
    ⟨(some 151), (.ld 1 false), [.t 150], none⟩,
    ⟨(some 22), .mv, [.t 149], none⟩,
    ⟨(some 23), .mv, [.t 151], none⟩] [0, 2, 3, 11, 12, 19, 22, 23, 139, 140, 141, 145, 146, 147])
  (.seq (.reg [⟨(some 152), .mv, [.t 22], none⟩,
    ⟨(some 153), .mv, [.t 11], none⟩,
    ⟨(some 154), (.binI .lss), [.t 152, .t 153], none⟩,
    ⟨(some 155), .mv, [.t 154], none⟩,
    ⟨(some 156), .mv, [.t 22], (some (155, false))⟩,
    ⟨(some 157), .mv, [.t 11], (some (155, false))⟩,
    ⟨(some 158), .mv, [.t 0], (some (155, false))⟩,
    ⟨(some 159), (.binI .add), [.t 157, .t 158], (some (155, false))⟩,
    ⟨(some 160), (.binI .eql), [.t 156, .t 159], (some (155, false))⟩,
    ⟨(some 161), .pick, [.t 155, .c (.b true), .t 160], none⟩] [0, 2, 3, 11, 12, 19, 22, 23, 139, 140, 141, 145, 146, 147, 161])
  (.cond (.t 161)
   (.reg [⟨(some 162), .mv, [.t 19], none⟩,
     ⟨(some 163), .mv, [.t 22], none⟩,
     ⟨(some 164), (.ixS 1 false), [.t 162, .t 163], none⟩,
     ⟨(some 165), (.ld 1 false), [.t 164], none⟩,
     ⟨(some 166), .mv, [.t 23], none⟩,
     ⟨(some 167), (.binI .sub), [.t 165, .t 166], none⟩,
     ⟨(some 168), (.ixS 1 false), [.t 162, .t 163], none⟩,
     ⟨none, (.st 1), [.t 168, .t 167], none⟩] [0, 2, 3, 11, 12, 19, 139, 140, 141, 145, 146, 147])
   .skip))))
 (.reg [⟨(some 169), (.binI .add), [.t 147, .c (.i .i64 1)], none⟩,
   ⟨(some 147), .mv, [.t 169], none⟩] [0, 2, 3, 11, 12, 19, 139, 140, 141, 145, 146, 147]))))

def l67_7 : DC :=
 (.loop [0, 2, 3, 11, 12, 19, 139, 140, 141, 145, 146, 147] b67_6)

def b67_8 : DC :=
 (.seq (.reg [⟨(some 142), (.binI .lss), [.t 141, .t 140], none⟩] [0, 2, 3, 11, 12, 19, 139, 140, 141, 142])
 (.seq (.cond (.t 142)
  .skip
  (.exit 7))
 (.seq (.block 8
  (.seq (.reg [⟨(some 143), (.ixS 1 false), [.t 139, .t 141], none⟩,
    ⟨(some 144), (.ld 1 false), [.t 143], none⟩,
    ⟨(some 21), .mv, [.t 144], none⟩] [0, 2, 3, 11, 12, 19, 21, 139, 140, 141])
  (.seq (.reg [⟨(some 145), .mv, [.t 21], none⟩,
    ⟨(some 146), (.len 0), [.t 145], none⟩,
    ⟨(some 147), .mv, [.c (.i .i64 0)], none⟩] [0, 2, 3, 11, 12, 19, 139, 140, 141, 145, 146, 147])
  (.block 9
   l67_7))))
 (.reg [⟨(some 170), (.binI .add), [.t 141, .c (.i .i64 1)], none⟩,
   ⟨(some 141), .mv, [.t 170], none⟩] [0, 2, 3, 11, 12, 19, 139, 140, 141]))))

def l67_9 : DC :=
 (.loop [0, 2, 3, 11, 12, 19, 139, 140, 141] b67_8)

def b67_10 : DC :=
 (.seq (.reg [⟨(some 185), (.binI .lss), [.t 184, .t 183], none⟩] [0, 2, 3, 11, 12, 183, 184, 185])
 (.seq (.cond (.t 185)
  .skip
  (.exit 11))
 (.seq (.block 12
  (.seq (.reg [⟨(some 186), .mv, [.t 184], none⟩,
    ⟨(some 24), .mv, [.t 186], none⟩] [0, 2, 3, 11, 12, 24, 183, 184])
  (.reg [⟨(some 187), .mv, [.t 12], none⟩,
    ⟨(some 188), .nilck, [.t 187], none⟩,
    ⟨(some 189), (.fadr 0 1 false), [.t 188], none⟩,
    ⟨(some 190), (.ld 1 false), [.t 189], none⟩,
    ⟨(some 191), .mv, [.t 24], none⟩,
    ⟨(some 192), .mv, [.t 12], none⟩,
    ⟨(some 193), .nilck, [.t 192], none⟩,
    ⟨(some 194), (.fadr 0 1 false), [.t 193], none⟩,
    ⟨(some 195), (.ld 1 false), [.t 194], none⟩,
    ⟨(some 196), .mv, [.t 24], none⟩,
    ⟨(some 197), (.ixS 1 false), [.t 195, .t 196], none⟩,
    ⟨(some 198), (.ld 1 false), [.t 197], none⟩,
    ⟨(some 199), (.bsl false [(.i .i64 0)] false 1 [0]), [.c (.i .i64 0)], none⟩,
    ⟨(some 200), (.app 1 false 8), [.t 198, .t 199], none⟩,
    ⟨(some 201), (.ixS 1 false), [.t 190, .t 191], none⟩,
    ⟨none, (.st 1), [.t 201, .t 200], none⟩] [0, 2, 3, 11, 12, 183, 184])))
 (.reg [⟨(some 202), (.binI .add), [.t 184, .c (.i .i64 1)], none⟩,
   ⟨(some 184), .mv, [.t 202], none⟩] [0, 2, 3, 11, 12, 183, 184]))))

def l67_11 : DC :=
 (.loop [0, 2, 3, 11, 12, 183, 184] b67_10)

def b67_12 : DC :=
 (.seq (.reg [⟨(some 221), (.binI .lss), [.t 220, .t 219], none⟩] [0, 2, 3, 11, 12, 25, 26, 219, 220, 221])
 (.seq (.cond (.t 221)
  .skip
  (.exit 15))
 (.seq (.block 16
  (.seq (.reg [⟨(some 222), .mv, [.t 220], none⟩,
    ⟨(some 27), .mv, [.t 222], none⟩] [0, 2, 3, 11, 12, 25, 26, 27, 219, 220])
  (.seq (.reg [⟨(some 223), .mv, [.t 25], none⟩,
    ⟨(some 224), .mv, [.t 27], none⟩,
    ⟨(some 225), (.ixS 1 false), [.t 223, .t 224], none⟩,
    ⟨(some 226), (.ld 1 false), [.t 225], none⟩,
    ⟨(some 227), (.binI .lss), [.t 226, .c (.i .i64 0)], none⟩] [0, 2, 3, 11, 12, 25, 26, 27, 219, 220, 227])
  (.cond (.t 227)
   (.seq (.reg [⟨(some 228), .mv, [.t 27], none⟩,
     ⟨(some 26), .mv, [.t 228], none⟩] [0, 2, 3, 11, 12, 25, 26])
   (.exit 15))
   .skip))))
 (.reg [⟨(some 229), (.binI .add), [.t 220, .c (.i .i64 1)], none⟩,
   ⟨(some 220), .mv, [.t 229], none⟩] [0, 2, 3, 11, 12, 25, 26, 219, 220]))))

def l67_13 : DC :=
 (.loop [0, 2, 3, 11, 12, 25, 26, 219, 220] b67_12)

def b67_14 : DC :=
 (.seq (.reg [⟨(some 234), (.binI .lss), [.t 233, .t 232], none⟩] [0, 2, 3, 11, 12, 25, 26, 28, 232, 233, 234])
 (.seq (.cond (.t 234)
  .skip
  (.exit 17))
 (.seq (.block 18
  (.seq (.reg [⟨(some 235), .mv, [.t 233], none⟩,
    ⟨(some 29), .mv, [.t 235], none⟩] [0, 2, 3, 11, 12, 25, 26, 28, 29, 232, 233])
  (.seq (.reg [⟨(some 236), .mv, [.t 12], none⟩,
    ⟨(some 237), .nilck, [.t 236], none⟩,
    ⟨(some 238), (.fadr 0 1 false), [.t 237], none⟩,
    ⟨(some 239), (.ld 1 false), [.t 238], none⟩,
    ⟨(some 240), .mv, [.t 29], none⟩,
    ⟨(some 241), (.ixS 1 false), [.t 239, .t 240], none⟩,
    ⟨(some 242), (.ld 1 false), [.t 241], none⟩,
    ⟨(some 30), .mv, [.t 242], none⟩] [0, 2, 3, 11, 12, 25, 26, 28, 29, 30, 232, 233])
  (.seq (.seq (.reg [⟨(some 243), .mv, [.t 30], none⟩,
    ⟨(some 244), .mv, [.t 26], none⟩,
    ⟨(some 245), (.ixS 1 false), [.t 243, .t 244], none⟩,
    ⟨(some 246), (.ld 1 false), [.t 245], none⟩,
    ⟨(some 247), (.binI .leq), [.t 246, .c (.i .i64 0)], none⟩] [0, 2, 3, 11, 12, 25, 26, 28, 29, 30, 232, 233, 247])
  (.cond (.t 247)
   (.exit 18)
   .skip))
  (.seq (.seq (.reg [⟨(some 248), .mv, [.t 28], none⟩,
    ⟨(some 249), (.binI .lss), [.t 248, .c (.i .i64 0)], none⟩] [0, 2, 3, 11, 12, 25, 26, 28, 29, 30, 232, 233, 249])
  (.cond (.t 249)
   (.seq (.reg [⟨(some 250), .mv, [.t 29], none⟩,
     ⟨(some 28), .mv, [.t 250], none⟩] [0, 2, 3, 11, 12, 25, 26, 28, 232, 233])
   (.exit 18))
   .skip))
  (.seq (.reg [⟨(some 251), .mv, [.t 12], none⟩,
    ⟨(some 252), .nilck, [.t 251], none⟩,
    ⟨(some 253), (.fadr 0 1 false), [.t 252], none⟩,
    ⟨(some 254), (.ld 1 false), [.t 253], none⟩,
    ⟨(some 255), .mv, [.t 28], none⟩,
    ⟨(some 256), (.ixS 1 false), [.t 254, .t 255], none⟩,
    ⟨(some 257), (.ld 1 false), [.t 256], none⟩,
    ⟨(some 31), .mv, [.t 257], none⟩] [0, 2, 3, 11, 12, 25, 26, 28, 29, 30, 31, 232, 233])
  (.seq (.reg [⟨(some 258), .mv, [.t 30], none⟩,
    ⟨(some 259), .mv, [.t 11], none⟩,
    ⟨(some 260), .mv, [.t 0], none⟩,
    ⟨(some 261), (.binI .add), [.t 259, .t 260], none⟩,
    ⟨(some 262), (.ixS 1 false), [.t 258, .t 261], none⟩,
    ⟨(some 263), (.ld 1 false), [.t 262], none⟩,
    ⟨(some 264), .mv, [.t 31], none⟩,
    ⟨(some 265), .mv, [.t 26], none⟩,
    ⟨(some 266), (.ixS 1 false), [.t 264, .t 265], none⟩,
    ⟨(some 267), (.ld 1 false), [.t 266], none⟩,
    ⟨(some 268), (.binI .mul), [.t 263, .t 267], none⟩,
    ⟨(some 269), .mv, [.t 31], none⟩,
    ⟨(some 270), .mv, [.t 11], none⟩,
    ⟨(some 271), .mv, [.t 0], none⟩,
    ⟨(some 272), (.binI .add), [.t 270, .t 271], none⟩,
    ⟨(some 273), (.ixS 1 false), [.t 269, .t 272], none⟩,
    ⟨(some 274), (.ld 1 false), [.t 273], none⟩,
    ⟨(some 275), .mv, [.t 30], none⟩,
    ⟨(some 276), .mv, [.t 26], none⟩,
    ⟨(some 277), (.ixS 1 false), [.t 275, .t 276], none⟩,
    ⟨(some 278), (.ld 1 false), [.t 277], none⟩,
    ⟨(some 279), (.binI .mul), [.t 274, .t 278], none⟩,
    ⟨(some 280), (.binI .sub), [.t 268, .t 279], none⟩,
    ⟨(some 32), .mv, [.t 280], none⟩] [0, 2, 3, 11, 12, 25, 26, 28, 29, 32, 232, 233])
  (.seq (.reg [⟨(some 281), .mv, [.t 32], none⟩,
    ⟨(some 282), (.binI .lss), [.t 281, .c (.i .i64 0)], none⟩,
    ⟨(some 283), .mv, [.t 282], none⟩,
    ⟨(some 284), .mv, [.t 32], (some (283, false))⟩,
    ⟨(some 285), (.binI .eql), [.t 284, .c (.i .i64 0)], (some (283, false))⟩,
    ⟨(some 286), .mv, [.t 285], (some (283, false))⟩,
    ⟨(some 287), .mv, [.t 12], (some (286, true))⟩,
    ⟨(some 288), .nilck, [.t 287], (some (286, true))⟩,
    ⟨(some 289), (.fadr 1 1 false), [.t 288], (some (286, true))⟩,
    ⟨(some 290), (.ld 1 false), [.t 289], (some (286, true))⟩,
    ⟨(some 291), .mv, [.t 29], (some (286, true))⟩,
    ⟨(some 292), (.ixS 1 false), [.t 290, .t 291], (some (286, true))⟩,
    ⟨(some 293), (.ld 1 false), [.t 292], (some (286, true))⟩,
    ⟨(some 294), .mv, [.t 12], (some (286, true))⟩,
    ⟨(some 295), .nilck, [.t 294], (some (286, true))⟩,
    ⟨(some 296), (.fadr 1 1 false), [.t 295], (some (286, true))⟩,
    ⟨(some 297), (.ld 1 false), [.t 296], (some (286, true))⟩,
    ⟨(some 298), .mv, [.t 28], (some (286, true))⟩,
    ⟨(some 299), (.ixS 1 false), [.t 297, .t 298], (some (286, true))⟩,
    ⟨(some 300), (.ld 1 false), [.t 299], (some (286, true))⟩,
    ⟨(some 301), (.binI .lss), [.t 293, .t 300], (some (286, true))⟩,
    ⟨(some 302), .pick, [.t 286, .t 301, .c (.b false)], (some (283, false))⟩,
    ⟨(some 303), .pick, [.t 283, .c (.b true), .t 302], none⟩] [0, 2, 3, 11, 12, 25, 26, 28, 29, 232, 233, 303])
  (.cond (.t 303)
   (.reg [⟨(some 304), .mv, [.t 29], none⟩,
     ⟨(some 28), .mv, [.t 304], none⟩] [0, 2, 3, 11, 12, 25, 26, 28, 232, 233])
   .skip)))))))))
 (.reg [⟨(some 305), (.binI .add), [.t 233, .c (.i .i64 1)], none⟩,
   ⟨(some 233), .mv, [.t 305], none⟩] [0, 2, 3, 11, 12, 25, 26, 28, 232, 233]))))

def l67_15 : DC :=
 (.loop [0, 2, 3, 11, 12, 25, 26, 28, 232, 233] b67_14)

def b67_16 : DC :=
 (.block 14
  (.seq (.reg [⟨(some 26), .mv, [.c (.i .i64 (-1))], none⟩] [0, 2, 3, 11, 12, 25, 26])
  (.seq (.seq (.reg [⟨(some 219), .mv, [.t 11], none⟩,
    ⟨(some 220), .mv, [.c (.i .i64 0)], none⟩] [0, 2, 3, 11, 12, 25, 26, 219, 220])
  (.block 15
   l67_13))
  (.seq (.seq (.reg [⟨(some 230), .mv, [.t 26], none⟩,
    ⟨(some 231), (.binI .lss), [.t 230, .c (.i .i64 0)], none⟩] [0, 2, 3, 11, 12, 25, 26, 231])
  (.cond (.t 231)
   (.exit 13)
   .skip))
  (.seq (.reg [⟨(some 28), .mv, [.c (.i .i64 (-1))], none⟩] [0, 2, 3, 11, 12, 25, 26, 28])
  (.seq (.seq (.reg [⟨(some 232), .mv, [.t 0], none⟩,
    ⟨(some 233), .mv, [.c (.i .i64 0)], none⟩] [0, 2, 3, 11, 12, 25, 26, 28, 232, 233])
  (.block 17
   l67_15))
  (.reg [⟨(some 306), .mv, [.t 12], none⟩,
    ⟨(some 307), .mv, [.t 28], none⟩,
    ⟨(some 308), .mv, [.t 26], none⟩,
    ⟨(some 309), (.call (.pu [])), [.c (.fn 78 [] []), .t 306, .t 307, .t 308], none⟩] [0, 2, 3, 11, 12, 25])))))))

def l67_17 : DC :=
 (.loop [0, 2, 3, 11, 12, 25] b67_16)

def c67 : DC :=
 (.seq (.reg [⟨(some 8), .mv, [.c .nilsl], none⟩,
   ⟨(some 9), .mv, [.c (.i .i64 0)], none⟩,
   ⟨(some 10), .mv, [.c .nilsl], none⟩] [0, 1, 2, 3])
 (.scope (.seq (.reg [⟨(some 33), .mv, [.t 1], none⟩,
   ⟨(some 34), (.len 0), [.t 33], none⟩,
   ⟨(some 35), (.binI .mul), [.c (.i .i64 2), .t 34], none⟩,
   ⟨(some 11), .mv, [.t 35], none⟩] [0, 1, 2, 3, 11])
 (.seq (.reg [⟨(some 36), (.build [.nilsl, .nilsl] []), [], none⟩,
   ⟨(some 37), (.box true), [.t 36], none⟩,
   ⟨(some 12), .mv, [.t 37], none⟩] [0, 1, 2, 3, 11, 12])
 (.seq (.seq (.reg [⟨(some 38), .mv, [.t 0], none⟩,
   ⟨(some 39), .mv, [.c (.i .i64 0)], none⟩] [0, 1, 2, 3, 11, 12, 38, 39])
 (.block 0
  l67_5))
 (.seq (.reg [⟨(some 131), .mv, [.t 11], none⟩,
   ⟨(some 132), .mv, [.t 0], none⟩,
   ⟨(some 133), (.binI .add), [.t 131, .t 132], none⟩,
   ⟨(some 134), (.binI .add), [.t 133, .c (.i .i64 1)], none⟩,
   ⟨(some 135), (.mksl [(.i .i64 0)] false 8), [.t 134, .t 134], none⟩,
   ⟨(some 19), .mv, [.t 135], none⟩] [0, 2, 3, 11, 12, 19])
 (.seq (.seq (.reg [⟨(some 136), .mv, [.t 12], none⟩,
   ⟨(some 137), .nilck, [.t 136], none⟩,
   ⟨(some 138), (.fadr 0 1 false), [.t 137], none⟩,
   ⟨(some 139), (.ld 1 false), [.t 138], none⟩,
   ⟨(some 140), (.len 0), [.t 139], none⟩,
   ⟨(some 141), .mv, [.c (.i .i64 0)], none⟩] [0, 2, 3, 11, 12, 19, 139, 140, 141])
 (.block 7
  l67_9))
 (.seq (.reg [⟨(some 171), .mv, [.t 12], none⟩,
   ⟨(some 172), .mv, [.t 12], none⟩,
   ⟨(some 173), .nilck, [.t 172], none⟩,
   ⟨(some 174), (.fadr 0 1 false), [.t 173], none⟩,
   ⟨(some 175), (.ld 1 false), [.t 174], none⟩,
   ⟨(some 176), .mv, [.t 19], none⟩,
   ⟨(some 177), (.bsl false [(.i .i64 0)] false 1 [0]), [.c (.i .i64 1)], none⟩,
   ⟨(some 178), (.app 1 false 8), [.t 176, .t 177], none⟩,
   ⟨(some 179), (.bsl false [.nilsl] false 1 [0]), [.t 178], none⟩,
   ⟨(some 180), (.app 1 false 24), [.t 175, .t 179], none⟩,
   ⟨(some 181), .nilck, [.t 171], none⟩,
   ⟨(some 182), (.fadr 0 1 false), [.t 181], none⟩,
   ⟨none, (.st 1), [.t 182, .t 180], none⟩] [0, 2, 3, 11, 12])
 (.seq (.seq (.reg [⟨(some 183), .mv, [.t 0], none⟩,
   ⟨(some 184), .mv, [.c (.i .i64 0)], none⟩] [0, 2, 3, 11, 12, 183, 184])
 (.block 11
  l67_11))
 (.seq (.reg [⟨(some 203), .mv, [.t 12], none⟩,
   ⟨(some 204), .mv, [.t 12], none⟩,
   ⟨(some 205), .nilck, [.t 204], none⟩,
   ⟨(some 206), (.fadr 1 1 false), [.t 205], none⟩,
   ⟨(some 207), (.ld 1 false), [.t 206], none⟩,
   ⟨(some 208), (.bsl false [(.i .i64 0)] false 1 [0]), [.c (.i .i64 (-1))], none⟩,
   ⟨(some 209), (.app 1 false 8), [.t 207, .t 208], none⟩,
   ⟨(some 210), .nilck, [.t 203], none⟩,
   ⟨(some 211), (.fadr 1 1 false), [.t 210], none⟩,
   ⟨none, (.st 1), [.t 211, .t 209], none⟩] [0, 2, 3, 11, 12])
 (.seq (.reg [⟨(some 212), .mv, [.t 12], none⟩,
   ⟨(some 213), .nilck, [.t 212], none⟩,
   ⟨(some 214), (.fadr 0 1 false), [.t 213], none⟩,
   ⟨(some 215), (.ld 1 false), [.t 214], none⟩,
   ⟨(some 216), .mv, [.t 0], none⟩,
   ⟨(some 217), (.ixS 1 false), [.t 215, .t 216], none⟩,
   ⟨(some 218), (.ld 1 false), [.t 217], none⟩,
   ⟨(some 25), .mv, [.t 218], none⟩] [0, 2, 3, 11, 12, 25])
 (.seq .skip
 (.seq (.block 13
  l67_17)
 (.seq (.seq (.reg [⟨(some 310), .mv, [.t 25], none⟩,
   ⟨(some 311), .mv, [.t 11], none⟩,
   ⟨(some 312), .mv, [.t 0], none⟩,
   ⟨(some 313), (.binI .add), [.t 311, .t 312], none⟩,
   ⟨(some 314), (.ixS 1 false), [.t 310, .t 313], none⟩,
   ⟨(some 315), (.ld 1 false), [.t 314], none⟩,
   ⟨(some 316), (.binI .neq), [.t 315, .c (.i .i64 0)], none⟩] [0, 2, 3, 11, 12, 316])
 (.cond (.t 316)
  (.seq (.reg [⟨(some 317), .mv, [.t 12], none⟩,
    ⟨(some 318), .mv, [.t 0], none⟩,
    ⟨(some 319), .mv, [.t 11], none⟩,
    ⟨(some 320), .mv, [.t 2], none⟩,
    ⟨(some 321), .mv, [.t 3], none⟩,
    ⟨(some 322), (.call (.pu [])), [.c (.fn 79 [] []), .t 317, .t 318, .t 319, .t 320, .t 321], none⟩,
    ⟨(some 8), .mv, [.t 322], none⟩,
    ⟨(some 9), .mv, [.c (.i .i64 0)], none⟩,
    ⟨(some 10), .mv, [.c .nilsl], none⟩] [8, 9, 10])
  .ret)
  .skip))
 (.seq (.reg [⟨(some 324), .mv, [.t 12], none⟩,
   ⟨(some 325), .mv, [.t 0], none⟩,
   ⟨(some 326), .mv, [.t 11], none⟩,
   ⟨(some 327), (.call (.pu [])), [.c (.fn 80 [] []), .t 324, .t 325, .t 326], none⟩,
   ⟨(some 323), .mv, [.t 327], none⟩,
   ⟨(some 328), (.ext 0), [.t 323], none⟩,
   ⟨(some 329), (.ext 1), [.t 323], none⟩,
   ⟨(some 9), .mv, [.t 328], none⟩,
   ⟨(some 10), .mv, [.t 329], none⟩] [9, 10])
 (.seq (.reg [⟨(some 330), .mv, [.t 9], none⟩,
   ⟨(some 331), .mv, [.t 10], none⟩,
   ⟨(some 8), .mv, [.c .nilsl], none⟩,
   ⟨(some 9), .mv, [.t 330], none⟩,
   ⟨(some 10), .mv, [.t 331], none⟩] [8, 9, 10])
 .ret))))))))))))))))

def d67 : DFun := ⟨4, 332, c67, [.t 8, .t 9, .t 10]⟩

-- slices.SortFunc[[][3]int,[3]int]
def c68 : DC :=
 (.seq (.reg [⟨(some 5), .mv, [.t 0], none⟩,
   ⟨(some 6), (.len 0), [.t 5], none⟩,
   ⟨(some 4), .mv, [.t 6], none⟩] [0, 1, 4])
 (.reg [⟨(some 7), .mv, [.t 0], none⟩,
   ⟨(some 8), .mv, [.t 4], none⟩,
   ⟨(some 9), .mv, [.t 4], none⟩,
   ⟨(some 10), (.conv .u64), [.t 9], none⟩,
   ⟨(some 11), (.call (.pu [])), [.c (.fn 82 [] []), .t 10], none⟩,
   ⟨(some 12), .mv, [.t 1], none⟩,
   ⟨(some 13), (.call .sh), [.c (.fn 81 [] []), .t 7, .c (.i .i64 0), .t 8, .t 11, .t 12], none⟩] []))

def d68 : DFun := ⟨2, 14, c68, []⟩

theorem ok68 : Fok Try.prog 68 d68 := ⟨Try.f68, Try.func68, by kernel_rfl, by kernel_rfl⟩

-- bibelot/peg.Jumps$1
def c69 : DC :=
 (.seq (.reg [⟨(some 2), (.box true), [.t 0], none⟩,
   ⟨(some 3), (.box true), [.t 1], none⟩,
   ⟨(some 4), .mv, [.c (.i .i64 0)], none⟩] [2, 3])
 (.seq (.reg [⟨(some 5), (.slcA false false false 3 1 false), [.t 2], none⟩,
   ⟨(some 6), (.slcA false false false 3 1 false), [.t 3], none⟩,
   ⟨(some 7), (.call (.pu [])), [.c (.fn 70 [] []), .t 5, .t 6], none⟩,
   ⟨(some 4), .mv, [.t 7], none⟩] [4])
 .ret))

def d69 : DFun := ⟨2, 8, c69, [.t 4]⟩

theorem ok69 : Fok Try.prog 69 d69 := ⟨Try.f69, Try.func69, by kernel_rfl, by kernel_rfl⟩

-- slices.Compare[[]int,int]
def b70_0 : DC :=
 (.seq (.reg [⟨(some 12), (.binI .lss), [.t 11, .t 10], none⟩] [0, 1, 9, 10, 11, 12])
 (.seq (.cond (.t 12)
  .skip
  (.exit 0))
 (.seq (.block 1
  (.seq (.reg [⟨(some 13), .mv, [.t 11], none⟩,
    ⟨(some 14), (.ixS 1 false), [.t 9, .t 11], none⟩,
    ⟨(some 15), (.ld 1 false), [.t 14], none⟩,
    ⟨(some 5), .mv, [.t 13], none⟩,
    ⟨(some 6), .mv, [.t 15], none⟩] [0, 1, 5, 6, 9, 10, 11])
  (.seq (.seq (.reg [⟨(some 16), .mv, [.t 5], none⟩,
    ⟨(some 17), .mv, [.t 1], none⟩,
    ⟨(some 18), (.len 0), [.t 17], none⟩,
    ⟨(some 19), (.binI .geq), [.t 16, .t 18], none⟩] [0, 1, 5, 6, 9, 10, 11, 19])
  (.cond (.t 19)
   (.seq (.reg [⟨(some 4), .mv, [.c (.i .i64 1)], none⟩] [4])
   .ret)
   .skip))
  (.seq (.reg [⟨(some 20), .mv, [.t 1], none⟩,
    ⟨(some 21), .mv, [.t 5], none⟩,
    ⟨(some 22), (.ixS 1 false), [.t 20, .t 21], none⟩,
    ⟨(some 23), (.ld 1 false), [.t 22], none⟩,
    ⟨(some 7), .mv, [.t 23], none⟩] [0, 1, 6, 7, 9, 10, 11])
  (.seq (.reg [⟨(some 24), .mv, [.t 6], none⟩,
    ⟨(some 25), .mv, [.t 7], none⟩,
    ⟨(some 26), (.call (.pu [])), [.c (.fn 83 [] []), .t 24, .t 25], none⟩,
    ⟨(some 8), .mv, [.t 26], none⟩] [0, 1, 8, 9, 10, 11])
  (.seq (.reg [⟨(some 27), .mv, [.t 8], none⟩,
    ⟨(some 28), (.binI .neq), [.t 27, .c (.i .i64 0)], none⟩] [0, 1, 8, 9, 10, 11, 28])
  (.cond (.t 28)
   (.seq (.reg [⟨(some 29), .mv, [.t 8], none⟩,
     ⟨(some 4), .mv, [.t 29], none⟩] [4])
   .ret)
   .skip)))))))
 (.reg [⟨(some 30), (.binI .add), [.t 11, .c (.i .i64 1)], none⟩,
   ⟨(some 11), .mv, [.t 30], none⟩] [0, 1, 9, 10, 11]))))

def l70_1 : DC :=
 (.loop [0, 1, 9, 10, 11] b70_0)

def c70 : DC :=
 (.seq (.reg [⟨(some 4), .mv, [.c (.i .i64 0)], none⟩] [0, 1])
 (.seq (.seq (.reg [⟨(some 9), .mv, [.t 0], none⟩,
   ⟨(some 10), (.len 0), [.t 9], none⟩,
   ⟨(some 11), .mv, [.c (.i .i64 0)], none⟩] [0, 1, 9, 10, 11])
 (.block 0
  l70_1))
 (.seq (.seq (.reg [⟨(some 31), .mv, [.t 0], none⟩,
   ⟨(some 32), (.len 0), [.t 31], none⟩,
   ⟨(some 33), .mv, [.t 1], none⟩,
   ⟨(some 34), (.len 0), [.t 33], none⟩,
   ⟨(some 35), (.binI .lss), [.t 32, .t 34], none⟩] [35])
 (.cond (.t 35)
  (.seq (.reg [⟨(some 4), .mv, [.c (.i .i64 (-1))], none⟩] [4])
  .ret)
  .skip))
 (.seq (.reg [⟨(some 4), .mv, [.c (.i .i64 0)], none⟩] [4])
 .ret))))

def d70 : DFun := ⟨2, 36, c70, [.t 4]⟩

theorem ok70 : Fok Try.prog 70 d70 := ⟨Try.f70, Try.func70, by kernel_rfl, by kernel_rfl⟩

-- bibelot/peg.open$1
def c71 : DC :=
 (.seq (.reg [⟨(some 3), .mv, [.c (.b false)], none⟩] [0, 1])
 (.seq (.reg [⟨(some 4), .mv, [.t 0], none⟩,
   ⟨(some 5), (.binI .lss), [.t 4, .c (.i .i64 0)], none⟩,
   ⟨(some 6), .mv, [.t 5], none⟩,
   ⟨(some 7), .mv, [.t 0], (some (6, false))⟩,
   ⟨(some 8), (.ld 1 false), [.t 1], (some (6, false))⟩,
   ⟨(some 9), (.conv .u64), [.t 8], (some (6, false))⟩,
   ⟨(some 10), (.binI .shl), [.c (.i .i64 1), .t 9], (some (6, false))⟩,
   ⟨(some 11), (.binI .geq), [.t 7, .t 10], (some (6, false))⟩,
   ⟨(some 12), .pick, [.t 6, .c (.b true), .t 11], none⟩,
   ⟨(some 3), .mv, [.t 12], none⟩] [3])
 .ret))

def d71 : DFun := ⟨2, 13, c71, [.t 3]⟩

theorem ok71 : Fok Try.prog 71 d71 := ⟨Try.f71, Try.func71, by kernel_rfl, by kernel_rfl⟩

-- math/bits.OnesCount32
def c72 : DC :=
 (.seq (.reg [⟨(some 2), .mv, [.c (.i .i64 0)], none⟩] [0])
 (.seq (.reg [⟨(some 3), .mv, [.t 0], none⟩,
   ⟨(some 4), (.binI .shr), [.t 3, .c (.i .u64 24)], none⟩,
   ⟨(some 5), .ixStr, [.c (.s ⟨#[0, 1, 1, 2, 1, 2, 2, 3, 1, 2, 2, 3, 2, 3, 3, 4, 1, 2, 2, 3, 2, 3, 3, 4, 2, 3, 3, 4, 3, 4, 4, 5, 1, 2, 2, 3, 2, 3, 3, 4, 2, 3, 3, 4, 3, 4, 4, 5, 2, 3, 3, 4, 3, 4, 4, 5, 3, 4, 4, 5, 4, 5, 5, 6, 1, 2, 2, 3, 2, 3, 3, 4, 2, 3, 3, 4, 3, 4, 4, 5, 2, 3, 3, 4, 3, 4, 4, 5, 3, 4, 4, 5, 4, 5, 5, 6, 2, 3, 3, 4, 3, 4, 4, 5, 3, 4, 4, 5, 4, 5, 5, 6, 3, 4, 4, 5, 4, 5, 5, 6, 4, 5, 5, 6, 5, 6, 6, 7, 1, 2, 2, 3, 2, 3, 3, 4, 2, 3, 3, 4, 3, 4, 4, 5, 2, 3, 3, 4, 3, 4, 4, 5, 3, 4, 4, 5, 4, 5, 5, 6, 2, 3, 3, 4, 3, 4, 4, 5, 3, 4, 4, 5, 4, 5, 5, 6, 3, 4, 4, 5, 4, 5, 5, 6, 4, 5, 5, 6, 5, 6, 6, 7, 2, 3, 3, 4, 3, 4, 4, 5, 3, 4, 4, 5, 4, 5, 5, 6, 3, 4, 4, 5, 4, 5, 5, 6, 4, 5, 5, 6, 5, 6, 6, 7, 3, 4, 4, 5, 4, 5, 5, 6, 4, 5, 5, 6, 5, 6, 6, 7, 4, 5, 5, 6, 5, 6, 6, 7, 5, 6, 6, 7, 6, 7, 7, 8]⟩), .t 4], none⟩,
   ⟨(some 6), .mv, [.t 0], none⟩,
   ⟨(some 7), (.binI .shr), [.t 6, .c (.i .u64 16)], none⟩,
   ⟨(some 8), (.binI .and), [.t 7, .c (.i .u32 255)], none⟩,
   ⟨(some 9), .ixStr, [.c (.s ⟨#[0, 1, 1, 2, 1, 2, 2, 3, 1, 2, 2, 3, 2, 3, 3, 4, 1, 2, 2, 3, 2, 3, 3, 4, 2, 3, 3, 4, 3, 4, 4, 5, 1, 2, 2, 3, 2, 3, 3, 4, 2, 3, 3, 4, 3, 4, 4, 5, 2, 3, 3, 4, 3, 4, 4, 5, 3, 4, 4, 5, 4, 5, 5, 6, 1, 2, 2, 3, 2, 3, 3, 4, 2, 3, 3, 4, 3, 4, 4, 5, 2, 3, 3, 4, 3, 4, 4, 5, 3, 4, 4, 5, 4, 5, 5, 6, 2, 3, 3, 4, 3, 4, 4, 5, 3, 4, 4, 5, 4, 5, 5, 6, 3, 4, 4, 5, 4, 5, 5, 6, 4, 5, 5, 6, 5, 6, 6, 7, 1, 2, 2, 3, 2, 3, 3, 4, 2, 3, 3, 4, 3, 4, 4, 5, 2, 3, 3, 4, 3, 4, 4, 5, 3, 4, 4, 5, 4, 5, 5, 6, 2, 3, 3, 4, 3, 4, 4, 5, 3, 4, 4, 5, 4, 5, 5, 6, 3, 4, 4, 5, 4, 5, 5, 6, 4, 5, 5, 6, 5, 6, 6, 7, 2, 3, 3, 4, 3, 4, 4, 5, 3, 4, 4, 5, 4, 5, 5, 6, 3, 4, 4, 5, 4, 5, 5, 6, 4, 5, 5, 6, 5, 6, 6, 7, 3, 4, 4, 5, 4, 5, 5, 6, 4, 5, 5, 6, 5, 6, 6, 7, 4, 5, 5, 6, 5, 6, 6, 7, 5, 6, 6, 7, 6, 7, 7, 8]⟩), .t 8], none⟩,
   ⟨(some 10), (.binI .add), [.t 5, .t 9], none⟩,
   ⟨(some 11), .mv, [.t 0], none⟩,
   ⟨(some 12), (.binI .shr), [.t 11, .c (.i .u64 8)], none⟩,
   ⟨(some 13), (.binI .and), [.t 12, .c (.i .u32 255)], none⟩,
   ⟨(some 14), .ixStr, [.c (.s ⟨#[0, 1, 1, 2, 1, 2, 2, 3, 1, 2, 2, 3, 2, 3, 3, 4, 1, 2, 2, 3, 2, 3, 3, 4, 2, 3, 3, 4, 3, 4, 4, 5, 1, 2, 2, 3, 2, 3, 3, 4, 2, 3, 3, 4, 3, 4, 4, 5, 2, 3, 3, 4, 3, 4, 4, 5, 3, 4, 4, 5, 4, 5, 5, 6, 1, 2, 2, 3, 2, 3, 3, 4, 2, 3, 3, 4, 3, 4, 4, 5, 2, 3, 3, 4, 3, 4, 4, 5, 3, 4, 4, 5, 4, 5, 5, 6, 2, 3, 3, 4, 3, 4, 4, 5, 3, 4, 4, 5, 4, 5, 5, 6, 3, 4, 4, 5, 4, 5, 5, 6, 4, 5, 5, 6, 5, 6, 6, 7, 1, 2, 2, 3, 2, 3, 3, 4, 2, 3, 3, 4, 3, 4, 4, 5, 2, 3, 3, 4, 3, 4, 4, 5, 3, 4, 4, 5, 4, 5, 5, 6, 2, 3, 3, 4, 3, 4, 4, 5, 3, 4, 4, 5, 4, 5, 5, 6, 3, 4, 4, 5, 4, 5, 5, 6, 4, 5, 5, 6, 5, 6, 6, 7, 2, 3, 3, 4, 3, 4, 4, 5, 3, 4, 4, 5, 4, 5, 5, 6, 3, 4, 4, 5, 4, 5, 5, 6, 4, 5, 5, 6, 5, 6, 6, 7, 3, 4, 4, 5, 4, 5, 5, 6, 4, 5, 5, 6, 5, 6, 6, 7, 4, 5, 5, 6, 5, 6, 6, 7, 5, 6, 6, 7, 6, 7, 7, 8]⟩), .t 13], none⟩,
   ⟨(some 15), (.binI .add), [.t 10, .t 14], none⟩,
   ⟨(some 16), .mv, [.t 0], none⟩,
   ⟨(some 17), (.binI .and), [.t 16, .c (.i .u32 255)], none⟩,
   ⟨(some 18), .ixStr, [.c (.s ⟨#[0, 1, 1, 2, 1, 2, 2, 3, 1, 2, 2, 3, 2, 3, 3, 4, 1, 2, 2, 3, 2, 3, 3, 4, 2, 3, 3, 4, 3, 4, 4, 5, 1, 2, 2, 3, 2, 3, 3, 4, 2, 3, 3, 4, 3, 4, 4, 5, 2, 3, 3, 4, 3, 4, 4, 5, 3, 4, 4, 5, 4, 5, 5, 6, 1, 2, 2, 3, 2, 3, 3, 4, 2, 3, 3, 4, 3, 4, 4, 5, 2, 3, 3, 4, 3, 4, 4, 5, 3, 4, 4, 5, 4, 5, 5, 6, 2, 3, 3, 4, 3, 4, 4, 5, 3, 4, 4, 5, 4, 5, 5, 6, 3, 4, 4, 5, 4, 5, 5, 6, 4, 5, 5, 6, 5, 6, 6, 7, 1, 2, 2, 3, 2, 3, 3, 4, 2, 3, 3, 4, 3, 4, 4, 5, 2, 3, 3, 4, 3, 4, 4, 5, 3, 4, 4, 5, 4, 5, 5, 6, 2, 3, 3, 4, 3, 4, 4, 5, 3, 4, 4, 5, 4, 5, 5, 6, 3, 4, 4, 5, 4, 5, 5, 6, 4, 5, 5, 6, 5, 6, 6, 7, 2, 3, 3, 4, 3, 4, 4, 5, 3, 4, 4, 5, 4, 5, 5, 6, 3, 4, 4, 5, 4, 5, 5, 6, 4, 5, 5, 6, 5, 6, 6, 7, 3, 4, 4, 5, 4, 5, 5, 6, 4, 5, 5, 6, 5, 6, 6, 7, 4, 5, 5, 6, 5, 6, 6, 7, 5, 6, 6, 7, 6, 7, 7, 8]⟩), .t 17], none⟩,
   ⟨(some 19), (.binI .add), [.t 15, .t 18], none⟩,
   ⟨(some 20), (.conv .i64), [.t 19], none⟩,
   ⟨(some 2), .mv, [.t 20], none⟩] [2])
 .ret))

def d72 : DFun := ⟨1, 21, c72, [.t 2]⟩

theorem ok72 : Fok Try.prog 72 d72 := ⟨Try.f72, Try.func72, by kernel_rfl, by kernel_rfl⟩

-- math/bits.OnesCount64
def c73 : DC :=
 (.seq (.reg [⟨(some 2), .mv, [.c (.i .i64 0)], none⟩] [0])
 (.seq (.reg [⟨(some 3), .mv, [.t 0], none⟩,
   ⟨(some 4), (.binI .shr), [.t 3, .c (.i .u64 1)], none⟩,
   ⟨(some 5), (.binI .and), [.t 4, .c (.i .u64 6148914691236517205)], none⟩,
   ⟨(some 6), .mv, [.t 0], none⟩,
   ⟨(some 7), (.binI .and), [.t 6, .c (.i .u64 6148914691236517205)], none⟩,
   ⟨(some 8), (.binI .add), [.t 5, .t 7], none⟩,
   ⟨(some 0), .mv, [.t 8], none⟩] [0])
 (.seq (.reg [⟨(some 9), .mv, [.t 0], none⟩,
   ⟨(some 10), (.binI .shr), [.t 9, .c (.i .u64 2)], none⟩,
   ⟨(some 11), (.binI .and), [.t 10, .c (.i .u64 3689348814741910323)], none⟩,
   ⟨(some 12), .mv, [.t 0], none⟩,
   ⟨(some 13), (.binI .and), [.t 12, .c (.i .u64 3689348814741910323)], none⟩,
   ⟨(some 14), (.binI .add), [.t 11, .t 13], none⟩,
   ⟨(some 0), .mv, [.t 14], none⟩] [0])
 (.seq (.reg [⟨(some 15), .mv, [.t 0], none⟩,
   ⟨(some 16), (.binI .shr), [.t 15, .c (.i .u64 4)], none⟩,
   ⟨(some 17), .mv, [.t 0], none⟩,
   ⟨(some 18), (.binI .add), [.t 16, .t 17], none⟩,
   ⟨(some 19), (.binI .and), [.t 18, .c (.i .u64 1085102592571150095)], none⟩,
   ⟨(some 0), .mv, [.t 19], none⟩] [0])
 (.seq (.reg [⟨(some 20), .mv, [.t 0], none⟩,
   ⟨(some 21), .mv, [.t 0], none⟩,
   ⟨(some 22), (.binI .shr), [.t 21, .c (.i .u64 8)], none⟩,
   ⟨(some 23), (.binI .add), [.t 20, .t 22], none⟩,
   ⟨(some 0), .mv, [.t 23], none⟩] [0])
 (.seq (.reg [⟨(some 24), .mv, [.t 0], none⟩,
   ⟨(some 25), .mv, [.t 0], none⟩,
   ⟨(some 26), (.binI .shr), [.t 25, .c (.i .u64 16)], none⟩,
   ⟨(some 27), (.binI .add), [.t 24, .t 26], none⟩,
   ⟨(some 0), .mv, [.t 27], none⟩] [0])
 (.seq (.reg [⟨(some 28), .mv, [.t 0], none⟩,
   ⟨(some 29), .mv, [.t 0], none⟩,
   ⟨(some 30), (.binI .shr), [.t 29, .c (.i .u64 32)], none⟩,
   ⟨(some 31), (.binI .add), [.t 28, .t 30], none⟩,
   ⟨(some 0), .mv, [.t 31], none⟩] [0])
 (.seq (.reg [⟨(some 32), .mv, [.t 0], none⟩,
   ⟨(some 33), (.conv .i64), [.t 32], none⟩,
   ⟨(some 34), (.binI .and), [.t 33, .c (.i .i64 127)], none⟩,
   ⟨(some 2), .mv, [.t 34], none⟩] [2])
 .ret))))))))

def d73 : DFun := ⟨1, 35, c73, [.t 2]⟩

theorem ok73 : Fok Try.prog 73 d73 := ⟨Try.f73, Try.func73, by kernel_rfl, by kernel_rfl⟩

-- slices.IndexFunc[[]int,int]
def b74_0 : DC :=
 (.seq (.reg [⟨(some 9), (.binI .lss), [.t 8, .t 7], none⟩] [0, 1, 7, 8, 9])
 (.seq (.cond (.t 9)
  .skip
  (.exit 0))
 (.seq (.block 1
  (.seq (.reg [⟨(some 10), .mv, [.t 8], none⟩,
    ⟨(some 5), .mv, [.t 10], none⟩] [0, 1, 5, 7, 8])
  (.seq (.reg [⟨(some 11), .mv, [.t 1], none⟩,
    ⟨(some 12), .mv, [.t 0], none⟩,
    ⟨(some 13), .mv, [.t 5], none⟩,
    ⟨(some 14), (.ixS 1 false), [.t 12, .t 13], none⟩,
    ⟨(some 15), (.ld 1 false), [.t 14], none⟩,
    ⟨(some 16), (.call .sh), [.t 11, .t 15], none⟩] [0, 1, 5, 7, 8, 16])
  (.cond (.t 16)
   (.seq (.reg [⟨(some 17), .mv, [.t 5], none⟩,
     ⟨(some 4), .mv, [.t 17], none⟩] [4])
   .ret)
   .skip))))
 (.reg [⟨(some 18), (.binI .add), [.t 8, .c (.i .i64 1)], none⟩,
   ⟨(some 8), .mv, [.t 18], none⟩] [0, 1, 7, 8]))))

def l74_1 : DC :=
 (.loop [0, 1, 7, 8] b74_0)

def c74 : DC :=
 (.seq (.reg [⟨(some 4), .mv, [.c (.i .i64 0)], none⟩] [0, 1])
 (.seq (.seq (.reg [⟨(some 6), .mv, [.t 0], none⟩,
   ⟨(some 7), (.len 0), [.t 6], none⟩,
   ⟨(some 8), .mv, [.c (.i .i64 0)], none⟩] [0, 1, 7, 8])
 (.block 0
  l74_1))
 (.seq (.reg [⟨(some 4), .mv, [.c (.i .i64 (-1))], none⟩] [4])
 .ret)))

def d74 : DFun := ⟨2, 19, c74, [.t 4]⟩

theorem ok74 : Fok Try.prog 74 d74 := ⟨Try.f74, Try.func74, by kernel_rfl, by kernel_rfl⟩

-- slices.Min[[]int,int]
def b75_0 : DC :=
 (.seq (.seq (.reg [⟨(some 12), .mv, [.t 4], none⟩,
   ⟨(some 13), .mv, [.t 0], none⟩,
   ⟨(some 14), (.len 0), [.t 13], none⟩,
   ⟨(some 15), (.binI .lss), [.t 12, .t 14], none⟩] [0, 3, 4, 15])
 (.cond (.t 15)
  .skip
  (.exit 0)))
 (.seq (.block 1
  (.reg [⟨(some 18), .mv, [.t 3], none⟩,
    ⟨(some 19), .mv, [.t 0], none⟩,
    ⟨(some 20), .mv, [.t 4], none⟩,
    ⟨(some 21), (.ixS 1 false), [.t 19, .t 20], none⟩,
    ⟨(some 22), (.ld 1 false), [.t 21], none⟩,
    ⟨(some 23), .mnI, [.t 18, .t 22], none⟩,
    ⟨(some 3), .mv, [.t 23], none⟩] [0, 3, 4]))
 (.reg [⟨(some 16), .mv, [.t 4], none⟩,
   ⟨(some 17), (.binI .add), [.t 16, .c (.i .i64 1)], none⟩,
   ⟨(some 4), .mv, [.t 17], none⟩] [0, 3, 4])))

def l75_1 : DC :=
 (.loop [0, 3, 4] b75_0)

def c75 : DC :=
 (.seq (.reg [⟨(some 2), .mv, [.c (.i .i64 0)], none⟩] [0])
 (.seq (.seq (.reg [⟨(some 5), .mv, [.t 0], none⟩,
   ⟨(some 6), (.len 0), [.t 5], none⟩,
   ⟨(some 7), (.binI .lss), [.t 6, .c (.i .i64 1)], none⟩] [0, 7])
 (.cond (.t 7)
  (.reg [⟨(some 8), .never, [], none⟩,
    ⟨none, .never, [], none⟩] [0])
  .skip))
 (.seq (.reg [⟨(some 9), .mv, [.t 0], none⟩,
   ⟨(some 10), (.ixS 1 false), [.t 9, .c (.i .i64 0)], none⟩,
   ⟨(some 11), (.ld 1 false), [.t 10], none⟩,
   ⟨(some 3), .mv, [.t 11], none⟩] [0, 3])
 (.seq (.seq (.reg [⟨(some 4), .mv, [.c (.i .i64 1)], none⟩] [0, 3, 4])
 (.block 0
  l75_1))
 (.seq (.reg [⟨(some 24), .mv, [.t 3], none⟩,
   ⟨(some 2), .mv, [.t 24], none⟩] [2])
 .ret)))))

def d75 : DFun := ⟨1, 25, c75, [.t 2]⟩

theorem ok75 : Fok Try.prog 75 d75 := ⟨Try.f75, Try.func75, by kernel_rfl, by kernel_rfl⟩

-- slices.Max[[]int,int]
def b76_0 : DC :=
 (.seq (.seq (.reg [⟨(some 12), .mv, [.t 4], none⟩,
   ⟨(some 13), .mv, [.t 0], none⟩,
   ⟨(some 14), (.len 0), [.t 13], none⟩,
   ⟨(some 15), (.binI .lss), [.t 12, .t 14], none⟩] [0, 3, 4, 15])
 (.cond (.t 15)
  .skip
  (.exit 0)))
 (.seq (.block 1
  (.reg [⟨(some 18), .mv, [.t 3], none⟩,
    ⟨(some 19), .mv, [.t 0], none⟩,
    ⟨(some 20), .mv, [.t 4], none⟩,
    ⟨(some 21), (.ixS 1 false), [.t 19, .t 20], none⟩,
    ⟨(some 22), (.ld 1 false), [.t 21], none⟩,
    ⟨(some 23), .mxI, [.t 18, .t 22], none⟩,
    ⟨(some 3), .mv, [.t 23], none⟩] [0, 3, 4]))
 (.reg [⟨(some 16), .mv, [.t 4], none⟩,
   ⟨(some 17), (.binI .add), [.t 16, .c (.i .i64 1)], none⟩,
   ⟨(some 4), .mv, [.t 17], none⟩] [0, 3, 4])))

def l76_1 : DC :=
 (.loop [0, 3, 4] b76_0)

def c76 : DC :=
 (.seq (.reg [⟨(some 2), .mv, [.c (.i .i64 0)], none⟩] [0])
 (.seq (.seq (.reg [⟨(some 5), .mv, [.t 0], none⟩,
   ⟨(some 6), (.len 0), [.t 5], none⟩,
   ⟨(some 7), (.binI .lss), [.t 6, .c (.i .i64 1)], none⟩] [0, 7])
 (.cond (.t 7)
  (.reg [⟨(some 8), .never, [], none⟩,
    ⟨none, .never, [], none⟩] [0])
  .skip))
 (.seq (.reg [⟨(some 9), .mv, [.t 0], none⟩,
   ⟨(some 10), (.ixS 1 false), [.t 9, .c (.i .i64 0)], none⟩,
   ⟨(some 11), (.ld 1 false), [.t 10], none⟩,
   ⟨(some 3), .mv, [.t 11], none⟩] [0, 3])
 (.seq (.seq (.reg [⟨(some 4), .mv, [.c (.i .i64 1)], none⟩] [0, 3, 4])
 (.block 0
  l76_1))
 (.seq (.reg [⟨(some 24), .mv, [.t 3], none⟩,
   ⟨(some 2), .mv, [.t 24], none⟩] [2])
 .ret)))))

def d76 : DFun := ⟨1, 25, c76, [.t 2]⟩

theorem ok76 : Fok Try.prog 76 d76 := ⟨Try.f76, Try.func76, by kernel_rfl, by kernel_rfl⟩

-- bibelot/peg.jumps$1
def b77_0 : DC :=
 (.seq (.reg [⟨(some 8), (.binI .lss), [.t 7, .t 6], none⟩] [0, 5, 6, 7, 8])
 (.seq (.cond (.t 8)
  .skip
  (.exit 0))
 (.seq (.block 1
  (.seq (.reg [⟨(some 9), .mv, [.t 7], none⟩,
    ⟨(some 10), (.ixS 3 true), [.t 5, .t 7], none⟩,
    ⟨(some 11), (.ld 3 true), [.t 10], none⟩,
    ⟨(some 4), (.alloc [(.i .i64 0), (.i .i64 0), (.i .i64 0)] true), [], none⟩,
    ⟨(some 3), .mv, [.t 9], none⟩,
    ⟨none, (.st 3), [.t 4, .t 11], none⟩] [0, 3, 4, 5, 6, 7])
  (.seq (.reg [⟨(some 12), .mv, [.t 0], none⟩,
    ⟨(some 13), .mv, [.t 3], none⟩,
    ⟨(some 14), (.binI .mul), [.c (.i .i64 2), .t 13], none⟩,
    ⟨(some 15), (.ixA 3 1 false), [.t 4, .c (.i .i64 0)], none⟩,
    ⟨(some 16), (.ld 1 false), [.t 15], none⟩,
    ⟨(some 17), (.ixA 3 1 false), [.t 4, .c (.i .i64 1)], none⟩,
    ⟨(some 18), (.ld 1 false), [.t 17], none⟩,
    ⟨(some 19), (.ixA 3 1 false), [.t 4, .c (.i .i64 2)], none⟩,
    ⟨(some 20), (.ld 1 false), [.t 19], none⟩,
    ⟨(some 21), (.build [(.i .i64 0), (.i .i64 0), (.i .i64 0)] [(0, 1), (1, 1), (2, 1)]), [.t 16, .t 18, .t 20], none⟩,
    ⟨(some 22), (.call .sh), [.t 12, .t 14, .t 21], none⟩,
    ⟨(some 23), .notB, [.t 22], none⟩,
    ⟨(some 24), .mv, [.t 23], none⟩,
    ⟨(some 25), .mv, [.t 0], (some (24, false))⟩,
    ⟨(some 26), .mv, [.t 3], (some (24, false))⟩,
    ⟨(some 27), (.binI .mul), [.c (.i .i64 2), .t 26], (some (24, false))⟩,
    ⟨(some 28), (.binI .add), [.t 27, .c (.i .i64 1)], (some (24, false))⟩,
    ⟨(some 29), (.ixA 3 1 false), [.t 4, .c (.i .i64 2)], (some (24, false))⟩,
    ⟨(some 30), (.ld 1 false), [.t 29], (some (24, false))⟩,
    ⟨(some 31), (.ixA 3 1 false), [.t 4, .c (.i .i64 1)], (some (24, false))⟩,
    ⟨(some 32), (.ld 1 false), [.t 31], (some (24, false))⟩,
    ⟨(some 33), (.ixA 3 1 false), [.t 4, .c (.i .i64 0)], (some (24, false))⟩,
    ⟨(some 34), (.ld 1 false), [.t 33], (some (24, false))⟩,
    ⟨(some 35), (.build [(.i .i64 0), (.i .i64 0), (.i .i64 0)] [(0, 1), (1, 1), (2, 1)]), [.t 30, .t 32, .t 34], (some (24, false))⟩,
    ⟨(some 36), (.call .sh), [.t 25, .t 28, .t 35], (some (24, false))⟩,
    ⟨(some 37), .notB, [.t 36], (some (24, false))⟩,
    ⟨(some 38), .pick, [.t 24, .c (.b true), .t 37], none⟩] [0, 5, 6, 7, 38])
  (.cond (.t 38)
   .ret
   .skip))))
 (.reg [⟨(some 39), (.binI .add), [.t 7, .c (.i .i64 1)], none⟩,
   ⟨(some 7), .mv, [.t 39], none⟩] [0, 5, 6, 7]))))

def l77_1 : DC :=
 (.loop [0, 5, 6, 7] b77_0)

def c77 : DC :=
 (.seq (.reg [⟨(some 5), (.ld 1 false), [.t 1], none⟩,
   ⟨(some 6), (.len 0), [.t 5], none⟩,
   ⟨(some 7), .mv, [.c (.i .i64 0)], none⟩] [0, 5, 6, 7])
 (.block 0
  l77_1))

def d77 : DFun := ⟨2, 40, c77, []⟩

theorem ok77 : Fok Try.prog 77 d77 := ⟨Try.f77, Try.func77, by kernel_rfl, by kernel_rfl⟩

-- (*bibelot/peg.tableau).pivot
def b78_0 : DC :=
 (.seq (.reg [⟨(some 65), (.binI .lss), [.t 64, .t 63], none⟩] [0, 1, 2, 6, 8, 10, 11, 23, 24, 25, 63, 64, 65])
 (.seq (.cond (.t 65)
  .skip
  (.exit 2))
 (.seq (.block 3
  (.seq (.reg [⟨(some 66), .mv, [.t 64], none⟩,
    ⟨(some 12), .mv, [.t 66], none⟩] [0, 1, 2, 6, 8, 10, 11, 12, 23, 24, 25, 63, 64])
  (.reg [⟨(some 67), .mv, [.t 8], none⟩,
    ⟨(some 68), .mv, [.t 12], none⟩,
    ⟨(some 69), .mv, [.t 8], none⟩,
    ⟨(some 70), .mv, [.t 12], none⟩,
    ⟨(some 71), (.ixS 1 false), [.t 69, .t 70], none⟩,
    ⟨(some 72), (.ld 1 false), [.t 71], none⟩,
    ⟨(some 73), .mv, [.t 10], none⟩,
    ⟨(some 74), (.binI .mul), [.t 72, .t 73], none⟩,
    ⟨(some 75), .mv, [.t 6], none⟩,
    ⟨(some 76), .mv, [.t 12], none⟩,
    ⟨(some 77), (.ixS 1 false), [.t 75, .t 76], none⟩,
    ⟨(some 78), (.ld 1 false), [.t 77], none⟩,
    ⟨(some 79), .mv, [.t 11], none⟩,
    ⟨(some 80), (.binI .mul), [.t 78, .t 79], none⟩,
    ⟨(some 81), (.binI .sub), [.t 74, .t 80], none⟩,
    ⟨(some 82), (.ixS 1 false), [.t 67, .t 68], none⟩,
    ⟨none, (.st 1), [.t 82, .t 81], none⟩] [0, 1, 2, 6, 8, 10, 11, 23, 24, 25, 63, 64])))
 (.reg [⟨(some 83), (.binI .add), [.t 64, .c (.i .i64 1)], none⟩,
   ⟨(some 64), .mv, [.t 83], none⟩] [0, 1, 2, 6, 8, 10, 11, 23, 24, 25, 63, 64]))))

def l78_1 : DC :=
 (.loop [0, 1, 2, 6, 8, 10, 11, 23, 24, 25, 63, 64] b78_0)

def b78_2 : DC :=
 (.seq (.reg [⟨(some 26), (.binI .lss), [.t 25, .t 24], none⟩] [0, 1, 2, 6, 23, 24, 25, 26])
 (.seq (.cond (.t 26)
  .skip
  (.exit 0))
 (.seq (.block 1
  (.seq (.reg [⟨(some 27), .mv, [.t 25], none⟩,
    ⟨(some 28), (.ixS 1 false), [.t 23, .t 25], none⟩,
    ⟨(some 29), (.ld 1 false), [.t 28], none⟩,
    ⟨(some 7), .mv, [.t 27], none⟩,
    ⟨(some 8), .mv, [.t 29], none⟩] [0, 1, 2, 6, 7, 8, 23, 24, 25])
  (.seq (.seq (.reg [⟨(some 30), .mv, [.t 7], none⟩,
    ⟨(some 31), .mv, [.t 1], none⟩,
    ⟨(some 32), (.binI .eql), [.t 30, .t 31], none⟩,
    ⟨(some 33), .mv, [.t 32], none⟩,
    ⟨(some 34), .mv, [.t 8], (some (33, false))⟩,
    ⟨(some 35), .mv, [.t 2], (some (33, false))⟩,
    ⟨(some 36), (.ixS 1 false), [.t 34, .t 35], (some (33, false))⟩,
    ⟨(some 37), (.ld 1 false), [.t 36], (some (33, false))⟩,
    ⟨(some 38), (.binI .eql), [.t 37, .c (.i .i64 0)], (some (33, false))⟩,
    ⟨(some 39), .pick, [.t 33, .c (.b true), .t 38], none⟩] [0, 1, 2, 6, 8, 23, 24, 25, 39])
  (.cond (.t 39)
   (.exit 1)
   .skip))
  (.seq (.reg [⟨(some 40), .mv, [.t 6], none⟩,
    ⟨(some 41), .mv, [.t 2], none⟩,
    ⟨(some 42), (.ixS 1 false), [.t 40, .t 41], none⟩,
    ⟨(some 43), (.ld 1 false), [.t 42], none⟩,
    ⟨(some 44), .mv, [.t 8], none⟩,
    ⟨(some 45), .mv, [.t 2], none⟩,
    ⟨(some 46), (.ixS 1 false), [.t 44, .t 45], none⟩,
    ⟨(some 47), (.ld 1 false), [.t 46], none⟩,
    ⟨(some 48), (.bsl false [(.i .i64 0)] false 2 [0, 1]), [.t 43, .t 47], none⟩,
    ⟨(some 49), (.call (.pu [])), [.c (.fn 84 [] []), .t 48], none⟩,
    ⟨(some 9), .mv, [.t 49], none⟩] [0, 1, 2, 6, 8, 9, 23, 24, 25])
  (.seq (.reg [⟨(some 50), .mv, [.t 6], none⟩,
    ⟨(some 51), .mv, [.t 2], none⟩,
    ⟨(some 52), (.ixS 1 false), [.t 50, .t 51], none⟩,
    ⟨(some 53), (.ld 1 false), [.t 52], none⟩,
    ⟨(some 54), .mv, [.t 9], none⟩,
    ⟨(some 55), (.binI .quo), [.t 53, .t 54], none⟩,
    ⟨(some 56), .mv, [.t 8], none⟩,
    ⟨(some 57), .mv, [.t 2], none⟩,
    ⟨(some 58), (.ixS 1 false), [.t 56, .t 57], none⟩,
    ⟨(some 59), (.ld 1 false), [.t 58], none⟩,
    ⟨(some 60), .mv, [.t 9], none⟩,
    ⟨(some 61), (.binI .quo), [.t 59, .t 60], none⟩,
    ⟨(some 10), .mv, [.t 55], none⟩,
    ⟨(some 11), .mv, [.t 61], none⟩] [0, 1, 2, 6, 8, 10, 11, 23, 24, 25])
  (.seq (.seq (.reg [⟨(some 62), .mv, [.t 8], none⟩,
    ⟨(some 63), (.len 0), [.t 62], none⟩,
    ⟨(some 64), .mv, [.c (.i .i64 0)], none⟩] [0, 1, 2, 6, 8, 10, 11, 23, 24, 25, 63, 64])
  (.block 2
   l78_1))
  (.reg [⟨(some 84), .mv, [.t 8], none⟩,
    ⟨(some 85), (.call (.pu [])), [.c (.fn 85 [] []), .t 84], none⟩] [0, 1, 2, 6, 23, 24, 25])))))))
 (.reg [⟨(some 86), (.binI .add), [.t 25, .c (.i .i64 1)], none⟩,
   ⟨(some 25), .mv, [.t 86], none⟩] [0, 1, 2, 6, 23, 24, 25]))))

def l78_3 : DC :=
 (.loop [0, 1, 2, 6, 23, 24, 25] b78_2)

def c78 : DC :=
 (.seq (.reg [⟨(some 13), .mv, [.t 0], none⟩,
   ⟨(some 14), .nilck, [.t 13], none⟩,
   ⟨(some 15), (.fadr 0 1 false), [.t 14], none⟩,
   ⟨(some 16), (.ld 1 false), [.t 15], none⟩,
   ⟨(some 17), .mv, [.t 1], none⟩,
   ⟨(some 18), (.ixS 1 false), [.t 16, .t 17], none⟩,
   ⟨(some 19), (.ld 1 false), [.t 18], none⟩,
   ⟨(some 6), .mv, [.t 19], none⟩] [0, 1, 2, 6])
 (.seq (.seq (.reg [⟨(some 20), .mv, [.t 0], none⟩,
   ⟨(some 21), .nilck, [.t 20], none⟩,
   ⟨(some 22), (.fadr 0 1 false), [.t 21], none⟩,
   ⟨(some 23), (.ld 1 false), [.t 22], none⟩,
   ⟨(some 24), (.len 0), [.t 23], none⟩,
   ⟨(some 25), .mv, [.c (.i .i64 0)], none⟩] [0, 1, 2, 6, 23, 24, 25])
 (.block 0
  l78_3))
 (.reg [⟨(some 87), .mv, [.t 0], none⟩,
   ⟨(some 88), .nilck, [.t 87], none⟩,
   ⟨(some 89), (.fadr 1 1 false), [.t 88], none⟩,
   ⟨(some 90), (.ld 1 false), [.t 89], none⟩,
   ⟨(some 91), .mv, [.t 1], none⟩,
   ⟨(some 92), .mv, [.t 2], none⟩,
   ⟨(some 93), (.ixS 1 false), [.t 90, .t 91], none⟩,
   ⟨none, (.st 1), [.t 93, .t 92], none⟩] [])))

def d78 : DFun := ⟨3, 94, c78, []⟩

theorem ok78 : Fok Try.prog 78 d78 := ⟨Try.f78, Try.func78, by kernel_rfl, by kernel_rfl⟩

-- (*bibelot/peg.tableau).weights
def b79_0 : DC :=
 (.seq (.reg [⟨(some 37), (.binI .lss), [.t 36, .t 35], none⟩] [2, 3, 4, 11, 12, 13, 35, 36, 37])
 (.seq (.cond (.t 37)
  .skip
  (.exit 0))
 (.seq (.block 1
  (.seq (.reg [⟨(some 38), .mv, [.t 36], none⟩,
    ⟨(some 14), .mv, [.t 38], none⟩] [2, 3, 4, 11, 12, 13, 14, 35, 36])
  (.seq (.reg [⟨(some 39), .mv, [.t 12], none⟩,
    ⟨(some 40), .mv, [.t 11], none⟩,
    ⟨(some 41), .mv, [.t 2], none⟩,
    ⟨(some 42), .mv, [.t 14], none⟩,
    ⟨(some 43), (.binI .add), [.t 41, .t 42], none⟩,
    ⟨(some 44), (.ixS 1 false), [.t 40, .t 43], none⟩,
    ⟨(some 45), (.ld 1 false), [.t 44], none⟩,
    ⟨(some 46), (.binI .sub), [.t 39, .t 45], none⟩,
    ⟨(some 15), .mv, [.t 46], none⟩] [2, 3, 4, 11, 12, 13, 14, 15, 35, 36])
  (.seq (.seq (.reg [⟨(some 47), .mv, [.t 3], none⟩,
    ⟨(some 48), .mv, [.t 14], none⟩,
    ⟨(some 49), (.conv .u64), [.t 48], none⟩,
    ⟨(some 50), (.binI .shr), [.t 47, .t 49], none⟩,
    ⟨(some 51), (.binI .and), [.t 50, .c (.i .i64 1)], none⟩,
    ⟨(some 52), .mv, [.t 4], none⟩,
    ⟨(some 53), .mv, [.t 14], none⟩,
    ⟨(some 54), (.conv .u64), [.t 53], none⟩,
    ⟨(some 55), (.binI .shr), [.t 52, .t 54], none⟩,
    ⟨(some 56), (.binI .and), [.t 55, .c (.i .i64 1)], none⟩,
    ⟨(some 57), (.binI .lss), [.t 51, .t 56], none⟩] [2, 3, 4, 11, 12, 13, 14, 15, 35, 36, 57])
  (.cond (.t 57)
   (.reg [⟨(some 58), .mv, [.t 15], none⟩,
     ⟨(some 59), (.negI .i64), [.t 58], none⟩,
     ⟨(some 15), .mv, [.t 59], none⟩] [2, 3, 4, 11, 12, 13, 14, 15, 35, 36])
   .skip))
  (.reg [⟨(some 60), .mv, [.t 13], none⟩,
    ⟨(some 61), .mv, [.t 14], none⟩,
    ⟨(some 62), .mv, [.t 15], none⟩,
    ⟨(some 63), (.negI .i64), [.t 62], none⟩,
    ⟨(some 64), (.ixS 1 false), [.t 60, .t 61], none⟩,
    ⟨none, (.st 1), [.t 64, .t 63], none⟩] [2, 3, 4, 11, 12, 13, 35, 36])))))
 (.reg [⟨(some 65), (.binI .add), [.t 36, .c (.i .i64 1)], none⟩,
   ⟨(some 36), .mv, [.t 65], none⟩] [2, 3, 4, 11, 12, 13, 35, 36]))))

def l79_1 : DC :=
 (.loop [2, 3, 4, 11, 12, 13, 35, 36] b79_0)

def b79_2 : DC :=
 (.seq (.reg [⟨(some 73), (.binI .lss), [.t 72, .t 71], none⟩] [13, 16, 71, 72, 73])
 (.seq (.cond (.t 73)
  .skip
  (.exit 2))
 (.seq (.block 3
  (.seq (.reg [⟨(some 74), .mv, [.t 72], none⟩,
    ⟨(some 17), .mv, [.t 74], none⟩] [13, 16, 17, 71, 72])
  (.reg [⟨(some 75), .mv, [.t 13], none⟩,
    ⟨(some 76), .mv, [.t 17], none⟩,
    ⟨(some 77), (.ixS 1 false), [.t 75, .t 76], none⟩,
    ⟨(some 78), (.ld 1 false), [.t 77], none⟩,
    ⟨(some 79), .mv, [.t 16], none⟩,
    ⟨(some 80), (.binI .quo), [.t 78, .t 79], none⟩,
    ⟨(some 81), (.ixS 1 false), [.t 75, .t 76], none⟩,
    ⟨none, (.st 1), [.t 81, .t 80], none⟩] [13, 16, 71, 72])))
 (.reg [⟨(some 82), (.binI .add), [.t 72, .c (.i .i64 1)], none⟩,
   ⟨(some 72), .mv, [.t 82], none⟩] [13, 16, 71, 72]))))

def l79_3 : DC :=
 (.loop [13, 16, 71, 72] b79_2)

def c79 : DC :=
 (.seq (.reg [⟨(some 10), .mv, [.c .nilsl], none⟩] [0, 1, 2, 3, 4])
 (.seq (.reg [⟨(some 18), .mv, [.t 0], none⟩,
   ⟨(some 19), .nilck, [.t 18], none⟩,
   ⟨(some 20), (.fadr 0 1 false), [.t 19], none⟩,
   ⟨(some 21), (.ld 1 false), [.t 20], none⟩,
   ⟨(some 22), .mv, [.t 1], none⟩,
   ⟨(some 23), (.ixS 1 false), [.t 21, .t 22], none⟩,
   ⟨(some 24), (.ld 1 false), [.t 23], none⟩,
   ⟨(some 11), .mv, [.t 24], none⟩] [1, 2, 3, 4, 11])
 (.seq (.reg [⟨(some 25), .mv, [.t 11], none⟩,
   ⟨(some 26), .mv, [.t 2], none⟩,
   ⟨(some 27), .mv, [.t 1], none⟩,
   ⟨(some 28), (.binI .add), [.t 26, .t 27], none⟩,
   ⟨(some 29), (.binI .add), [.t 28, .c (.i .i64 1)], none⟩,
   ⟨(some 30), (.ixS 1 false), [.t 25, .t 29], none⟩,
   ⟨(some 31), (.ld 1 false), [.t 30], none⟩,
   ⟨(some 12), .mv, [.t 31], none⟩] [1, 2, 3, 4, 11, 12])
 (.seq (.reg [⟨(some 32), .mv, [.t 1], none⟩,
   ⟨(some 33), (.mksl [(.i .i64 0)] false 8), [.t 32, .t 32], none⟩,
   ⟨(some 13), .mv, [.t 33], none⟩] [2, 3, 4, 11, 12, 13])
 (.seq (.seq (.reg [⟨(some 34), .mv, [.t 13], none⟩,
   ⟨(some 35), (.len 0), [.t 34], none⟩,
   ⟨(some 36), .mv, [.c (.i .i64 0)], none⟩] [2, 3, 4, 11, 12, 13, 35, 36])
 (.block 0
  l79_1))
 (.seq (.seq (.reg [⟨(some 66), .mv, [.t 13], none⟩,
   ⟨(some 67), (.call (.pu [])), [.c (.fn 86 [] []), .t 66], none⟩,
   ⟨(some 16), .mv, [.t 67], none⟩] [13, 16])
 (.seq (.reg [⟨(some 68), .mv, [.t 16], none⟩,
   ⟨(some 69), (.binI .gtr), [.t 68, .c (.i .i64 1)], none⟩] [13, 16, 69])
 (.cond (.t 69)
  (.seq (.reg [⟨(some 70), .mv, [.t 13], none⟩,
    ⟨(some 71), (.len 0), [.t 70], none⟩,
    ⟨(some 72), .mv, [.c (.i .i64 0)], none⟩] [13, 16, 71, 72])
  (.block 2
   l79_3))
  .skip)))
 (.seq (.reg [⟨(some 83), .mv, [.t 13], none⟩,
   ⟨(some 10), .mv, [.t 83], none⟩] [10])
 .ret)))))))

def d79 : DFun := ⟨5, 84, c79, [.t 10]⟩

theorem ok79 : Fok Try.prog 79 d79 := ⟨Try.f79, Try.func79, by kernel_rfl, by kernel_rfl⟩

end Go.Proofs.Try.Dn

