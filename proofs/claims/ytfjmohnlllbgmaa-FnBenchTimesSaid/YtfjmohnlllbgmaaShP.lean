/-
  DERIVED: THE SHELF's CONTRACTS AT THIS DUMP, IN PLAIN WORDS (tools/lay-plain.mjs out of 'YtfjmohnlllbgmaaShelf.lean', which tools/lay-shelf.mjs wrote): THE SAME DECLARATIONS UNDER THE SAME NAMES: 'import', 'namespace', 'open', 'def', 'theorem' AND NOTHING ELSE: no command of the shelf's: FOR A HAND-IN. Each laying: the table of numbers ('.._ren') and one theorem, a field a fact of the dump's own or the kernel's comparison; each contract: ONE APPLICATION.
-/
import Derived.Shelf.SlicesG.Clone
import Derived.Ground.SlgnProg
import Derived.Shelf.SortG.Plain
import Derived.Shelf.SortG.SortNone
import Derived.Test.YtfjmohnlllbgmaaProg
namespace Go.Proofs
open Go.Shelf
def Try.laysClone_ren : Go.Shelf.Ren := ⟨fun | 41 => 88 | n => n, fun | 22 => 34 | 23 => 2 | 4 => 4 | n => n, fun | n => n⟩
theorem Try.laysClone : Go.Proofs.SlLaysN.n41 Try.prog Try.laysClone_ren := {
  mixed := by kernel_rfl
  f41 := ⟨Try.f88.name, by decide, Try.func88.trans (congrArg some (by kernel_rfl))⟩
  t4 := Try.underlying4
  a4 := Try.isAgg4
  z4 := Try.sizeOf4
  v4 := Try.zeroValue4
  t22 := Try.underlying34
  a22 := Try.isAgg34
  z22 := Try.sizeOf34
  v22 := Try.zeroValue34
  t23 := Try.underlying2
  a23 := Try.isAgg2
  z23 := Try.sizeOf2
  v23 := Try.zeroValue2
  i23 := by kernel_rfl }
def Try.laysSort_ren : Go.Shelf.Ren := ⟨fun | 53 => 89 | 64 => 100 | 63 => 99 | 78 => 113 | 79 => 114 | 70 => 104 | 71 => 105 | 72 => 106 | 73 => 107 | 74 => 108 | 75 => 109 | 59 => 110 | 76 => 111 | 77 => 112 | 88 => 116 | 89 => 117 | 90 => 118 | 91 => 119 | 92 => 120 | 68 => 97 | 96 => 122 | n => n, fun | 22 => 34 | 23 => 2 | 3 => 3 | 51 => 89 | 0 => 0 | 67 => 107 | 69 => 79 | 4 => 4 | 61 => 99 | 60 => 98 | 44 => 104 | 5 => 5 | 9 => 9 | 75 => 109 | 79 => 113 | 83 => 115 | 84 => 116 | n => n, fun | n => n⟩
theorem Try.laysSort : Go.Proofs.SlLaysN.n53 Try.prog Try.laysSort_ren := {
  mixed := by kernel_rfl
  f53 := ⟨Try.f89.name, by decide, Try.func89.trans (congrArg some (by kernel_rfl))⟩
  f59 := ⟨Try.f110.name, by decide, Try.func110.trans (congrArg some (by kernel_rfl))⟩
  f63 := ⟨Try.f99.name, by decide, Try.func99.trans (congrArg some (by kernel_rfl))⟩
  f64 := Try.func100.trans (congrArg some (by kernel_rfl))
  f68 := ⟨Try.f97.name, by decide, Try.func97.trans (congrArg some (by kernel_rfl))⟩
  f70 := ⟨Try.f104.name, by decide, Try.func104.trans (congrArg some (by kernel_rfl))⟩
  f71 := ⟨Try.f105.name, by decide, Try.func105.trans (congrArg some (by kernel_rfl))⟩
  f72 := ⟨Try.f106.name, by decide, Try.func106.trans (congrArg some (by kernel_rfl))⟩
  f73 := ⟨Try.f107.name, by decide, Try.func107.trans (congrArg some (by kernel_rfl))⟩
  f74 := ⟨Try.f108.name, by decide, Try.func108.trans (congrArg some (by kernel_rfl))⟩
  f75 := ⟨Try.f109.name, by decide, Try.func109.trans (congrArg some (by kernel_rfl))⟩
  f76 := ⟨Try.f111.name, by decide, Try.func111.trans (congrArg some (by kernel_rfl))⟩
  f77 := ⟨Try.f112.name, by decide, Try.func112.trans (congrArg some (by kernel_rfl))⟩
  f78 := Try.func113.trans (congrArg some (by kernel_rfl))
  f79 := Try.func114.trans (congrArg some (by kernel_rfl))
  f88 := ⟨Try.f116.name, by decide, Try.func116.trans (congrArg some (by kernel_rfl))⟩
  f89 := Try.func117.trans (congrArg some (by kernel_rfl))
  f90 := Try.func118.trans (congrArg some (by kernel_rfl))
  f91 := ⟨Try.f119.name, by decide, Try.func119.trans (congrArg some (by kernel_rfl))⟩
  f92 := ⟨Try.f120.name, by decide, Try.func120.trans (congrArg some (by kernel_rfl))⟩
  f96 := ⟨Try.f122.name, by decide, Try.func122.trans (congrArg some (by kernel_rfl))⟩
  t0 := Try.underlying0
  a0 := Try.isAgg0
  z0 := Try.sizeOf0
  v0 := Try.zeroValue0
  t3 := Try.underlying3
  a3 := Try.isAgg3
  z3 := Try.sizeOf3
  v3 := Try.zeroValue3
  t4 := Try.underlying4
  a4 := Try.isAgg4
  z4 := Try.sizeOf4
  v4 := Try.zeroValue4
  t5 := Try.underlying5
  a5 := Try.isAgg5
  z5 := Try.sizeOf5
  v5 := Try.zeroValue5
  t9 := Try.underlying9
  a9 := Try.isAgg9
  z9 := Try.sizeOf9
  v9 := Try.zeroValue9
  t22 := Try.underlying34
  a22 := Try.isAgg34
  z22 := Try.sizeOf34
  v22 := Try.zeroValue34
  t23 := Try.underlying2
  a23 := Try.isAgg2
  z23 := Try.sizeOf2
  v23 := Try.zeroValue2
  t44 := Try.underlying104
  a44 := Try.isAgg104
  z44 := Try.sizeOf104
  v44 := Try.zeroValue104
  t51 := Try.underlying89
  a51 := Try.isAgg89
  z51 := Try.sizeOf89
  v51 := Try.zeroValue89
  t60 := Try.underlying98
  a60 := Try.isAgg98
  z60 := Try.sizeOf98
  v60 := Try.zeroValue98
  t61 := Try.underlying99
  a61 := Try.isAgg99
  z61 := Try.sizeOf99
  v61 := Try.zeroValue99
  t67 := Try.underlying107
  a67 := Try.isAgg107
  z67 := Try.sizeOf107
  v67 := Try.zeroValue107
  t69 := Try.underlying79
  a69 := Try.isAgg79
  z69 := Try.sizeOf79
  v69 := Try.zeroValue79
  t75 := Try.underlying109
  a75 := Try.isAgg109
  z75 := Try.sizeOf109
  v75 := Try.zeroValue109
  t79 := Try.underlying113
  a79 := Try.isAgg113
  z79 := Try.sizeOf113
  v79 := Try.zeroValue113
  t83 := Try.underlying115
  a83 := Try.isAgg115
  z83 := Try.sizeOf115
  v83 := Try.zeroValue115
  t84 := Try.underlying116
  a84 := Try.isAgg116
  z84 := Try.sizeOf116
  v84 := Try.zeroValue116 }
end Go.Proofs
