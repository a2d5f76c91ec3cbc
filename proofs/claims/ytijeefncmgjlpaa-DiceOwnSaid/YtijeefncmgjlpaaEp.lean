/-
  slices.SortFunc, as the dice's program holds it twice: the kit's contract, laid.
-/
import Derived.Test.YtijeefncmgjlpaaProg
import Derived.Test.YtijeefncmgjlpaaDb
import Derived.Shelf.SlSortCmp.NoneTotal

namespace Go.Proofs
open Go.Shelf
def Try.srt81_ren : Go.Shelf.Ren := ⟨fun | 6 => 81 | 15 => 105 | 14 => 104 | 28 => 119 | 29 => 120 | 20 => 111 | 21 => 112 | 22 => 113 | 23 => 114 | 24 => 115 | 25 => 116 | 26 => 117 | 27 => 118 | 46 => 132 | 47 => 133 | 48 => 134 | 49 => 135 | 50 => 136 | 57 => 140 | n => n, fun | 22 => 24 | 24 => 70 | 25 => 106 | 3 => 3 | 39 => 37 | 0 => 0 | 53 => 135 | 55 => 137 | 4 => 4 | 46 => 129 | 45 => 128 | 50 => 94 | 5 => 5 | 9 => 9 | 66 => 144 | 70 => 148 | 76 => 152 | 77 => 153 | n => n, fun | n => n⟩
theorem Try.srt81 : Go.Proofs.SlLaysF0.n6 Try.prog Try.srt81_ren := {
 mixed := by kernel_rfl
 f6 := ⟨Try.f81.name, by decide, Try.func81.trans (congrArg some (by kernel_rfl))⟩
 f14 := ⟨Try.f104.name, by decide, Try.func104.trans (congrArg some (by kernel_rfl))⟩
 f15 := Try.func105.trans (congrArg some (by kernel_rfl))
 f20 := ⟨Try.f111.name, by decide, Try.func111.trans (congrArg some (by kernel_rfl))⟩
 f21 := ⟨Try.f112.name, by decide, Try.func112.trans (congrArg some (by kernel_rfl))⟩
 f22 := ⟨Try.f113.name, by decide, Try.func113.trans (congrArg some (by kernel_rfl))⟩
 f23 := ⟨Try.f114.name, by decide, Try.func114.trans (congrArg some (by kernel_rfl))⟩
 f24 := ⟨Try.f115.name, by decide, Try.func115.trans (congrArg some (by kernel_rfl))⟩
 f25 := ⟨Try.f116.name, by decide, Try.func116.trans (congrArg some (by kernel_rfl))⟩
 f26 := ⟨Try.f117.name, by decide, Try.func117.trans (congrArg some (by kernel_rfl))⟩
 f27 := ⟨Try.f118.name, by decide, Try.func118.trans (congrArg some (by kernel_rfl))⟩
 f28 := Try.func119.trans (congrArg some (by kernel_rfl))
 f29 := Try.func120.trans (congrArg some (by kernel_rfl))
 f46 := ⟨Try.f132.name, by decide, Try.func132.trans (congrArg some (by kernel_rfl))⟩
 f47 := Try.func133.trans (congrArg some (by kernel_rfl))
 f48 := Try.func134.trans (congrArg some (by kernel_rfl))
 f49 := ⟨Try.f135.name, by decide, Try.func135.trans (congrArg some (by kernel_rfl))⟩
 f50 := ⟨Try.f136.name, by decide, Try.func136.trans (congrArg some (by kernel_rfl))⟩
 f57 := ⟨Try.f140.name, by decide, Try.func140.trans (congrArg some (by kernel_rfl))⟩
 t0 := Try.underlying0
 a0 := Try.isAgg0
 z0 := Try.sizeOf0
 v0 := Try.zeroValue0
 t3 := Try.underlying3
 a3 := Try.isAgg3
 z3 := Try.sizeOf3
 v3 := Try.zeroValue3
 t4 := Try.underlying4
 a4 := Try.isAgg4
 z4 := Try.sizeOf4
 v4 := Try.zeroValue4
 t5 := Try.underlying5
 a5 := Try.isAgg5
 z5 := Try.sizeOf5
 v5 := Try.zeroValue5
 t9 := Try.underlying9
 a9 := Try.isAgg9
 z9 := Try.sizeOf9
 v9 := Try.zeroValue9
 t22 := Try.underlying24
 a22 := Try.isAgg24
 z22 := Try.sizeOf24
 v22 := Try.zeroValue24
 t25 := Try.underlying106
 a25 := Try.isAgg106
 z25 := Try.sizeOf106
 v25 := Try.zeroValue106
 t39 := Try.underlying37
 a39 := Try.isAgg37
 z39 := Try.sizeOf37
 v39 := Try.zeroValue37
 t45 := Try.underlying128
 a45 := Try.isAgg128
 z45 := Try.sizeOf128
 v45 := Try.zeroValue128
 t46 := Try.underlying129
 a46 := Try.isAgg129
 z46 := Try.sizeOf129
 v46 := Try.zeroValue129
 t50 := Try.underlying94
 a50 := Try.isAgg94
 z50 := Try.sizeOf94
 v50 := Try.zeroValue94
 t53 := Try.underlying135
 a53 := Try.isAgg135
 z53 := Try.sizeOf135
 v53 := Try.zeroValue135
 t55 := Try.underlying137
 a55 := Try.isAgg137
 z55 := Try.sizeOf137
 v55 := Try.zeroValue137
 t66 := Try.underlying144
 a66 := Try.isAgg144
 z66 := Try.sizeOf144
 v66 := Try.zeroValue144
 t70 := Try.underlying148
 a70 := Try.isAgg148
 z70 := Try.sizeOf148
 v70 := Try.zeroValue148
 t76 := Try.underlying152
 a76 := Try.isAgg152
 z76 := Try.sizeOf152
 v76 := Try.zeroValue152
 t77 := Try.underlying153
 a77 := Try.isAgg153
 z77 := Try.sizeOf153
 v77 := Try.zeroValue153 }
def Try.srt96_ren : Go.Shelf.Ren := ⟨fun | 6 => 96 | 15 => 105 | 14 => 107 | 28 => 119 | 29 => 120 | 20 => 123 | 21 => 124 | 22 => 125 | 23 => 126 | 24 => 127 | 25 => 128 | 26 => 129 | 27 => 130 | 46 => 137 | 47 => 133 | 48 => 134 | 49 => 138 | 50 => 139 | 57 => 141 | n => n, fun | 22 => 60 | 24 => 65 | 25 => 118 | 3 => 3 | 39 => 37 | 0 => 0 | 53 => 135 | 55 => 137 | 4 => 4 | 46 => 129 | 45 => 128 | 50 => 94 | 5 => 5 | 9 => 9 | 66 => 144 | 70 => 148 | 76 => 152 | 77 => 153 | n => n, fun | n => n⟩
theorem Try.srt96 : Go.Proofs.SlLaysF0.n6 Try.prog Try.srt96_ren := {
 mixed := by kernel_rfl
 f6 := ⟨Try.f96.name, by decide, Try.func96.trans (congrArg some (by kernel_rfl))⟩
 f14 := ⟨Try.f107.name, by decide, Try.func107.trans (congrArg some (by kernel_rfl))⟩
 f15 := Try.func105.trans (congrArg some (by kernel_rfl))
 f20 := ⟨Try.f123.name, by decide, Try.func123.trans (congrArg some (by kernel_rfl))⟩
 f21 := ⟨Try.f124.name, by decide, Try.func124.trans (congrArg some (by kernel_rfl))⟩
 f22 := ⟨Try.f125.name, by decide, Try.func125.trans (congrArg some (by kernel_rfl))⟩
 f23 := ⟨Try.f126.name, by decide, Try.func126.trans (congrArg some (by kernel_rfl))⟩
 f24 := ⟨Try.f127.name, by decide, Try.func127.trans (congrArg some (by kernel_rfl))⟩
 f25 := ⟨Try.f128.name, by decide, Try.func128.trans (congrArg some (by kernel_rfl))⟩
 f26 := ⟨Try.f129.name, by decide, Try.func129.trans (congrArg some (by kernel_rfl))⟩
 f27 := ⟨Try.f130.name, by decide, Try.func130.trans (congrArg some (by kernel_rfl))⟩
 f28 := Try.func119.trans (congrArg some (by kernel_rfl))
 f29 := Try.func120.trans (congrArg some (by kernel_rfl))
 f46 := ⟨Try.f137.name, by decide, Try.func137.trans (congrArg some (by kernel_rfl))⟩
 f47 := Try.func133.trans (congrArg some (by kernel_rfl))
 f48 := Try.func134.trans (congrArg some (by kernel_rfl))
 f49 := ⟨Try.f138.name, by decide, Try.func138.trans (congrArg some (by kernel_rfl))⟩
 f50 := ⟨Try.f139.name, by decide, Try.func139.trans (congrArg some (by kernel_rfl))⟩
 f57 := ⟨Try.f141.name, by decide, Try.func141.trans (congrArg some (by kernel_rfl))⟩
 t0 := Try.underlying0
 a0 := Try.isAgg0
 z0 := Try.sizeOf0
 v0 := Try.zeroValue0
 t3 := Try.underlying3
 a3 := Try.isAgg3
 z3 := Try.sizeOf3
 v3 := Try.zeroValue3
 t4 := Try.underlying4
 a4 := Try.isAgg4
 z4 := Try.sizeOf4
 v4 := Try.zeroValue4
 t5 := Try.underlying5
 a5 := Try.isAgg5
 z5 := Try.sizeOf5
 v5 := Try.zeroValue5
 t9 := Try.underlying9
 a9 := Try.isAgg9
 z9 := Try.sizeOf9
 v9 := Try.zeroValue9
 t22 := Try.underlying60
 a22 := Try.isAgg60
 z22 := Try.sizeOf60
 v22 := Try.zeroValue60
 t25 := Try.underlying118
 a25 := Try.isAgg118
 z25 := Try.sizeOf118
 v25 := Try.zeroValue118
 t39 := Try.underlying37
 a39 := Try.isAgg37
 z39 := Try.sizeOf37
 v39 := Try.zeroValue37
 t45 := Try.underlying128
 a45 := Try.isAgg128
 z45 := Try.sizeOf128
 v45 := Try.zeroValue128
 t46 := Try.underlying129
 a46 := Try.isAgg129
 z46 := Try.sizeOf129
 v46 := Try.zeroValue129
 t50 := Try.underlying94
 a50 := Try.isAgg94
 z50 := Try.sizeOf94
 v50 := Try.zeroValue94
 t53 := Try.underlying135
 a53 := Try.isAgg135
 z53 := Try.sizeOf135
 v53 := Try.zeroValue135
 t55 := Try.underlying137
 a55 := Try.isAgg137
 z55 := Try.sizeOf137
 v55 := Try.zeroValue137
 t66 := Try.underlying144
 a66 := Try.isAgg144
 z66 := Try.sizeOf144
 v66 := Try.zeroValue144
 t70 := Try.underlying148
 a70 := Try.isAgg148
 z70 := Try.sizeOf148
 v70 := Try.zeroValue148
 t76 := Try.underlying152
 a76 := Try.isAgg152
 z76 := Try.sizeOf152
 v76 := Try.zeroValue152
 t77 := Try.underlying153
 a77 := Try.isAgg153
 z77 := Try.sizeOf153
 v77 := Try.zeroValue153 }

open Go.Dn in
theorem Try.sort81 : SortAt Try.prog 81 2 :=
 ⟨fun args w => Bears.enters Try.srt81.f6 rfl args w, fun p cap fv w => AnyF.slices_SortFunc_none Try.srt81 p cap fv w, fun enc hk h1 cf hO g cb blk off cap d w eg hcmp hH hblk hsz =>
  AnyQ.slices_SortFunc_eq Try.srt81 2 Try.isAgg70 Try.sizeOf70 enc hk h1 cf hO g cb blk off cap d w eg hcmp hH hblk hsz⟩
open Go.Dn in
theorem Try.sort96 : SortAt Try.prog 96 2 :=
 ⟨fun args w => Bears.enters Try.srt96.f6 rfl args w, fun p cap fv w => AnyF.slices_SortFunc_none Try.srt96 p cap fv w, fun enc hk h1 cf hO g cb blk off cap d w eg hcmp hH hblk hsz =>
  AnyQ.slices_SortFunc_eq Try.srt96 2 Try.isAgg65 Try.sizeOf65 enc hk h1 cf hO g cb blk off cap d w eg hcmp hH hblk hsz⟩
end Go.Proofs

