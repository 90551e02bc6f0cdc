/-
  DERIVED: THE SHELF's CONTRACTS AT THIS DUMP, IN PLAIN WORDS (tools/lay-plain.mjs out of 'YtepbamacebjopaaGreatDoorShelfNRaw.lean', which tools/lay-shelf.mjs wrote): THE SAME DECLARATIONS UNDER THE SAME NAMES: 'import', 'namespace', 'open', 'def', 'theorem' AND NOTHING ELSE: no command of the shelf's: FOR A HAND-IN. Each laying: the table of numbers ('.._ren') and one theorem, a field a fact of the dump's own or the kernel's comparison; each contract: ONE APPLICATION.
-/
import Derived.Shelf.SortG.Plain
import Derived.Shelf.SlicesG.In.CompactI
import Derived.Shelf.SlGeneric
import Derived.Ground.SlgnProg
import Derived.Test.YtepbamacebjopaaGreatDoorProg
namespace Go.Proofs
open Go.Shelf
def Tryz.sortInts_ren : Go.Shelf.Ren := ⟨fun | 53 => 40 | 64 => 87 | 63 => 86 | 78 => 120 | 79 => 121 | 70 => 111 | 71 => 112 | 72 => 113 | 73 => 114 | 74 => 115 | 75 => 116 | 59 => 117 | 76 => 118 | 77 => 119 | 88 => 141 | 89 => 142 | 90 => 143 | 91 => 144 | 92 => 145 | 68 => 146 | 96 => 166 | n => n, fun | 22 => 22 | 23 => 3 | 3 => 3 | 51 => 137 | 0 => 0 | 67 => 168 | 69 => 127 | 4 => 4 | 61 => 162 | 60 => 161 | 44 => 96 | 5 => 5 | 9 => 9 | 75 => 183 | 79 => 187 | 83 => 204 | 84 => 205 | n => n, fun | n => n⟩
theorem Tryz.sortInts : Go.Proofs.SlLaysN.n53 Tryz.prog Tryz.sortInts_ren := {
  mixed := by kernel_rfl
  f53 := ⟨Tryz.f40.name, by decide, Tryz.func40.trans (congrArg some (by kernel_rfl))⟩
  f59 := ⟨Tryz.f117.name, by decide, Tryz.func117.trans (congrArg some (by kernel_rfl))⟩
  f63 := ⟨Tryz.f86.name, by decide, Tryz.func86.trans (congrArg some (by kernel_rfl))⟩
  f64 := Tryz.func87.trans (congrArg some (by kernel_rfl))
  f68 := ⟨Tryz.f146.name, by decide, Tryz.func146.trans (congrArg some (by kernel_rfl))⟩
  f70 := ⟨Tryz.f111.name, by decide, Tryz.func111.trans (congrArg some (by kernel_rfl))⟩
  f71 := ⟨Tryz.f112.name, by decide, Tryz.func112.trans (congrArg some (by kernel_rfl))⟩
  f72 := ⟨Tryz.f113.name, by decide, Tryz.func113.trans (congrArg some (by kernel_rfl))⟩
  f73 := ⟨Tryz.f114.name, by decide, Tryz.func114.trans (congrArg some (by kernel_rfl))⟩
  f74 := ⟨Tryz.f115.name, by decide, Tryz.func115.trans (congrArg some (by kernel_rfl))⟩
  f75 := ⟨Tryz.f116.name, by decide, Tryz.func116.trans (congrArg some (by kernel_rfl))⟩
  f76 := ⟨Tryz.f118.name, by decide, Tryz.func118.trans (congrArg some (by kernel_rfl))⟩
  f77 := ⟨Tryz.f119.name, by decide, Tryz.func119.trans (congrArg some (by kernel_rfl))⟩
  f78 := Tryz.func120.trans (congrArg some (by kernel_rfl))
  f79 := Tryz.func121.trans (congrArg some (by kernel_rfl))
  f88 := ⟨Tryz.f141.name, by decide, Tryz.func141.trans (congrArg some (by kernel_rfl))⟩
  f89 := Tryz.func142.trans (congrArg some (by kernel_rfl))
  f90 := Tryz.func143.trans (congrArg some (by kernel_rfl))
  f91 := ⟨Tryz.f144.name, by decide, Tryz.func144.trans (congrArg some (by kernel_rfl))⟩
  f92 := ⟨Tryz.f145.name, by decide, Tryz.func145.trans (congrArg some (by kernel_rfl))⟩
  f96 := ⟨Tryz.f166.name, by decide, Tryz.func166.trans (congrArg some (by kernel_rfl))⟩
  t0 := Tryz.underlying0
  a0 := Tryz.isAgg0
  z0 := Tryz.sizeOf0
  v0 := Tryz.zeroValue0
  t3 := Tryz.underlying3
  a3 := Tryz.isAgg3
  z3 := Tryz.sizeOf3
  v3 := Tryz.zeroValue3
  t4 := Tryz.underlying4
  a4 := Tryz.isAgg4
  z4 := Tryz.sizeOf4
  v4 := Tryz.zeroValue4
  t5 := Tryz.underlying5
  a5 := Tryz.isAgg5
  z5 := Tryz.sizeOf5
  v5 := Tryz.zeroValue5
  t9 := Tryz.underlying9
  a9 := Tryz.isAgg9
  z9 := Tryz.sizeOf9
  v9 := Tryz.zeroValue9
  t22 := Tryz.underlying22
  a22 := Tryz.isAgg22
  z22 := Tryz.sizeOf22
  v22 := Tryz.zeroValue22
  t23 := Tryz.underlying3
  a23 := Tryz.isAgg3
  z23 := Tryz.sizeOf3
  v23 := Tryz.zeroValue3
  t44 := Tryz.underlying96
  a44 := Tryz.isAgg96
  z44 := Tryz.sizeOf96
  v44 := Tryz.zeroValue96
  t51 := Tryz.underlying137
  a51 := Tryz.isAgg137
  z51 := Tryz.sizeOf137
  v51 := Tryz.zeroValue137
  t60 := Tryz.underlying161
  a60 := Tryz.isAgg161
  z60 := Tryz.sizeOf161
  v60 := Tryz.zeroValue161
  t61 := Tryz.underlying162
  a61 := Tryz.isAgg162
  z61 := Tryz.sizeOf162
  v61 := Tryz.zeroValue162
  t67 := Tryz.underlying168
  a67 := Tryz.isAgg168
  z67 := Tryz.sizeOf168
  v67 := Tryz.zeroValue168
  t69 := Tryz.underlying127
  a69 := Tryz.isAgg127
  z69 := Tryz.sizeOf127
  v69 := Tryz.zeroValue127
  t75 := Tryz.underlying183
  a75 := Tryz.isAgg183
  z75 := Tryz.sizeOf183
  v75 := Tryz.zeroValue183
  t79 := Tryz.underlying187
  a79 := Tryz.isAgg187
  z79 := Tryz.sizeOf187
  v79 := Tryz.zeroValue187
  t83 := Tryz.underlying204
  a83 := Tryz.isAgg204
  z83 := Tryz.sizeOf204
  v83 := Tryz.zeroValue204
  t84 := Tryz.underlying205
  a84 := Tryz.isAgg205
  z84 := Tryz.sizeOf205
  v84 := Tryz.zeroValue205 }
def Tryz.compactInts_ren : Go.Shelf.Ren := ⟨fun | 43 => 41 | n => n, fun | 22 => 22 | 23 => 3 | 3 => 3 | 4 => 4 | 0 => 0 | n => n, fun | n => n⟩
theorem Tryz.compactInts : Go.Proofs.SlLaysN.n43 Tryz.prog Tryz.compactInts_ren := {
  mixed := by kernel_rfl
  f43 := ⟨Tryz.f41.name, by decide, Tryz.func41.trans (congrArg some (by kernel_rfl))⟩
  t0 := Tryz.underlying0
  a0 := Tryz.isAgg0
  z0 := Tryz.sizeOf0
  v0 := Tryz.zeroValue0
  t3 := Tryz.underlying3
  a3 := Tryz.isAgg3
  z3 := Tryz.sizeOf3
  v3 := Tryz.zeroValue3
  t4 := Tryz.underlying4
  a4 := Tryz.isAgg4
  z4 := Tryz.sizeOf4
  v4 := Tryz.zeroValue4
  t22 := Tryz.underlying22
  a22 := Tryz.isAgg22
  z22 := Tryz.sizeOf22
  v22 := Tryz.zeroValue22
  t23 := Tryz.underlying3
  a23 := Tryz.isAgg3
  z23 := Tryz.sizeOf3
  v23 := Tryz.zeroValue3
  i23 := by kernel_rfl }
end Go.Proofs
