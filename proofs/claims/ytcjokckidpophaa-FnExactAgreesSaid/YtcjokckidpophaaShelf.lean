/- Where the library's sort and its AppendSeq stand in this program: their numbers, and that the bodies are the same. -/
import Derived.Shelf.SlGeneric
import Derived.Shelf.SortG.Plain
import Derived.Shelf.SortG.SortNone
import Derived.Shelf.SlIterI.Collect
import Derived.Test.YtcjokckidpophaaProg
set_option linter.all false
namespace Go.Proofs
open Go.Shelf
def Try.sortI_ren : Go.Shelf.Ren := ⟨fun | 53 => 85 | 64 => 98 | 63 => 97 | 78 => 111 | 79 => 112 | 70 => 102 | 71 => 103 | 72 => 104 | 73 => 105 | 74 => 106 | 75 => 107 | 59 => 108 | 76 => 109 | 77 => 110 | 88 => 114 | 89 => 115 | 90 => 116 | 91 => 117 | 92 => 118 | 68 => 119 | 96 => 120 | n => n, fun | 22 => 22 | 23 => 2 | 3 => 3 | 51 => 107 | 0 => 0 | 67 => 119 | 69 => 72 | 4 => 4 | 61 => 111 | 60 => 110 | 44 => 116 | 5 => 5 | 9 => 9 | 75 => 122 | 79 => 126 | 83 => 128 | 84 => 129 | n => n, fun | n => n⟩
theorem Try.sortI : Go.Proofs.SlLaysN.n53 Try.prog Try.sortI_ren := {
  mixed := by kernel_rfl
  f53 := ⟨Try.f85.name, by decide, Try.func85.trans (congrArg some (by kernel_rfl))⟩
  f59 := ⟨Try.f108.name, by decide, Try.func108.trans (congrArg some (by kernel_rfl))⟩
  f63 := ⟨Try.f97.name, by decide, Try.func97.trans (congrArg some (by kernel_rfl))⟩
  f64 := Try.func98.trans (congrArg some (by kernel_rfl))
  f68 := ⟨Try.f119.name, by decide, Try.func119.trans (congrArg some (by kernel_rfl))⟩
  f70 := ⟨Try.f102.name, by decide, Try.func102.trans (congrArg some (by kernel_rfl))⟩
  f71 := ⟨Try.f103.name, by decide, Try.func103.trans (congrArg some (by kernel_rfl))⟩
  f72 := ⟨Try.f104.name, by decide, Try.func104.trans (congrArg some (by kernel_rfl))⟩
  f73 := ⟨Try.f105.name, by decide, Try.func105.trans (congrArg some (by kernel_rfl))⟩
  f74 := ⟨Try.f106.name, by decide, Try.func106.trans (congrArg some (by kernel_rfl))⟩
  f75 := ⟨Try.f107.name, by decide, Try.func107.trans (congrArg some (by kernel_rfl))⟩
  f76 := ⟨Try.f109.name, by decide, Try.func109.trans (congrArg some (by kernel_rfl))⟩
  f77 := ⟨Try.f110.name, by decide, Try.func110.trans (congrArg some (by kernel_rfl))⟩
  f78 := Try.func111.trans (congrArg some (by kernel_rfl))
  f79 := Try.func112.trans (congrArg some (by kernel_rfl))
  f88 := ⟨Try.f114.name, by decide, Try.func114.trans (congrArg some (by kernel_rfl))⟩
  f89 := Try.func115.trans (congrArg some (by kernel_rfl))
  f90 := Try.func116.trans (congrArg some (by kernel_rfl))
  f91 := ⟨Try.f117.name, by decide, Try.func117.trans (congrArg some (by kernel_rfl))⟩
  f92 := ⟨Try.f118.name, by decide, Try.func118.trans (congrArg some (by kernel_rfl))⟩
  f96 := ⟨Try.f120.name, by decide, Try.func120.trans (congrArg some (by kernel_rfl))⟩
  t0 := Try.underlying0
  a0 := Try.isAgg0
  z0 := Try.sizeOf0
  v0 := Try.zeroValue0
  t3 := Try.underlying3
  a3 := Try.isAgg3
  z3 := Try.sizeOf3
  v3 := Try.zeroValue3
  t4 := Try.underlying4
  a4 := Try.isAgg4
  z4 := Try.sizeOf4
  v4 := Try.zeroValue4
  t5 := Try.underlying5
  a5 := Try.isAgg5
  z5 := Try.sizeOf5
  v5 := Try.zeroValue5
  t9 := Try.underlying9
  a9 := Try.isAgg9
  z9 := Try.sizeOf9
  v9 := Try.zeroValue9
  t22 := Try.underlying22
  a22 := Try.isAgg22
  z22 := Try.sizeOf22
  v22 := Try.zeroValue22
  t23 := Try.underlying2
  a23 := Try.isAgg2
  z23 := Try.sizeOf2
  v23 := Try.zeroValue2
  t44 := Try.underlying116
  a44 := Try.isAgg116
  z44 := Try.sizeOf116
  v44 := Try.zeroValue116
  t51 := Try.underlying107
  a51 := Try.isAgg107
  z51 := Try.sizeOf107
  v51 := Try.zeroValue107
  t60 := Try.underlying110
  a60 := Try.isAgg110
  z60 := Try.sizeOf110
  v60 := Try.zeroValue110
  t61 := Try.underlying111
  a61 := Try.isAgg111
  z61 := Try.sizeOf111
  v61 := Try.zeroValue111
  t67 := Try.underlying119
  a67 := Try.isAgg119
  z67 := Try.sizeOf119
  v67 := Try.zeroValue119
  t69 := Try.underlying72
  a69 := Try.isAgg72
  z69 := Try.sizeOf72
  v69 := Try.zeroValue72
  t75 := Try.underlying122
  a75 := Try.isAgg122
  z75 := Try.sizeOf122
  v75 := Try.zeroValue122
  t79 := Try.underlying126
  a79 := Try.isAgg126
  z79 := Try.sizeOf126
  v79 := Try.zeroValue126
  t83 := Try.underlying128
  a83 := Try.isAgg128
  z83 := Try.sizeOf128
  v83 := Try.zeroValue128
  t84 := Try.underlying129
  a84 := Try.isAgg129
  z84 := Try.sizeOf129
  v84 := Try.zeroValue129 }
def Try.appI_ren : Go.Shelf.Ren := ⟨fun | 11 => 113 | n => n, fun | 24 => 22 | 26 => 2 | 28 => 100 | 0 => 0 | 33 => 70 | 4 => 4 | n => n, fun | n => n⟩
theorem Try.appI : Go.Proofs.SlLaysZI.n11 Try.prog Try.appI_ren := {
  mixed := by kernel_rfl
  f11 := ⟨Try.f113.name, by decide, Try.func113.trans (congrArg some (by kernel_rfl))⟩
  t0 := Try.underlying0
  a0 := Try.isAgg0
  z0 := Try.sizeOf0
  v0 := Try.zeroValue0
  t24 := Try.underlying22
  a24 := Try.isAgg22
  z24 := Try.sizeOf22
  v24 := Try.zeroValue22
  t26 := Try.underlying2
  a26 := Try.isAgg2
  z26 := Try.sizeOf2
  v26 := Try.zeroValue2
  t28 := Try.underlying100
  a28 := Try.isAgg100
  z28 := Try.sizeOf100
  v28 := Try.zeroValue100
  i26 := by kernel_rfl }
end Go.Proofs
