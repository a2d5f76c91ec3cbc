import Derived.Test.YtegihfgibonhpaaProg
import Derived.Test.YtegihfgibonhpaaDc
set_option linter.unusedVariables false
set_option maxRecDepth 100000
namespace Go.Proofs.Try.Dn
open Go.Dn

def c83 : DC := (.seq (.reg [⟨(some 4), .mv, [.c (.i .i64 0)], none⟩] [0, 1]) (.seq (.reg [⟨(some 7), .mv, [.t 0], none⟩, ⟨(some 8), (.call (.pu [])), [.c (.fn 97 [] []), .t 7], none⟩, ⟨(some 5), .mv, [.t 8], none⟩] [0, 1, 5]) (.seq (.reg [⟨(some 9), .mv, [.t 1], none⟩, ⟨(some 10), (.call (.pu [])), [.c (.fn 97 [] []), .t 9], none⟩, ⟨(some 6), .mv, [.t 10], none⟩] [0, 1, 5, 6]) (.seq (.seq (.reg [⟨(some 11), .mv, [.t 5], none⟩] [0, 1, 6, 11]) (.cond (.t 11) (.seq (.seq (.reg [⟨(some 12), .mv, [.t 6], none⟩] [12]) (.cond (.t 12) (.seq (.reg [⟨(some 4), .mv, [.c (.i .i64 0)], none⟩] [4]) .ret) .skip)) (.seq (.reg [⟨(some 4), .mv, [.c (.i .i64 (-1))], none⟩] [4]) .ret)) .skip)) (.seq (.seq (.reg [⟨(some 13), .mv, [.t 6], none⟩] [0, 1, 13]) (.cond (.t 13) (.seq (.reg [⟨(some 4), .mv, [.c (.i .i64 1)], none⟩] [4]) .ret) .skip)) (.seq (.seq (.reg [⟨(some 14), .mv, [.t 0], none⟩, ⟨(some 15), .mv, [.t 1], none⟩, ⟨(some 16), (.binI .lss), [.t 14, .t 15], none⟩] [0, 1, 16]) (.cond (.t 16) (.seq (.reg [⟨(some 4), .mv, [.c (.i .i64 (-1))], none⟩] [4]) .ret) .skip)) (.seq (.seq (.reg [⟨(some 17), .mv, [.t 0], none⟩, ⟨(some 18), .mv, [.t 1], none⟩, ⟨(some 19), (.binI .gtr), [.t 17, .t 18], none⟩] [19]) (.cond (.t 19) (.seq (.reg [⟨(some 4), .mv, [.c (.i .i64 1)], none⟩] [4]) .ret) .skip)) (.seq (.reg [⟨(some 4), .mv, [.c (.i .i64 0)], none⟩] [4]) .ret))))))))

def d83 : DFun := ⟨2, 20, c83, [.t 4]⟩

theorem ok83 : Fok Try.prog 83 d83 := ⟨Try.f83, Try.func83, by kernel_rfl, by kernel_rfl⟩

def c97 : DC := (.seq (.reg [⟨(some 2), .mv, [.c (.b false)], none⟩] [0]) (.seq (.reg [⟨(some 3), .mv, [.t 0], none⟩, ⟨(some 4), .mv, [.t 0], none⟩, ⟨(some 5), (.binI .neq), [.t 3, .t 4], none⟩, ⟨(some 2), .mv, [.t 5], none⟩] [2]) .ret))

def d97 : DFun := ⟨1, 6, c97, [.t 2]⟩

theorem ok97 : Fok Try.prog 97 d97 := ⟨Try.f97, Try.func97, by kernel_rfl, by kernel_rfl⟩

end Go.Proofs.Try.Dn

