/-
  DERIVED: THE SHELF's CONTRACTS AT THIS DUMP, IN PLAIN WORDS (tools/lay-plain.mjs out of 'YtmpnilliichpfaaGreatDoorShelfNRaw.lean', which tools/lay-shelf.mjs wrote): THE SAME DECLARATIONS UNDER THE SAME NAMES: 'import', 'namespace', 'open', 'def', 'theorem' AND NOTHING ELSE: no command of the shelf's: FOR A HAND-IN. Each laying: the table of numbers ('.._ren') and one theorem, a field a fact of the dump's own or the kernel's comparison; each contract: ONE APPLICATION.
-/
import Derived.Shelf.SortG.Plain
import Derived.Shelf.SlicesG.In.CompactI
import Derived.Shelf.SlGeneric
import Derived.Ground.SlgnProg
import Derived.Test.YtmpnilliichpfaaGreatDoorProg
namespace Go.Proofs
open Go.Shelf
def Tryz.sortInts_ren : Go.Shelf.Ren := ⟨fun | 53 => 99 | 64 => 165 | 63 => 164 | 78 => 215 | 79 => 216 | 70 => 206 | 71 => 207 | 72 => 208 | 73 => 209 | 74 => 210 | 75 => 211 | 59 => 212 | 76 => 213 | 77 => 214 | 88 => 249 | 89 => 250 | 90 => 251 | 91 => 252 | 92 => 253 | 68 => 239 | 96 => 282 | n => n, fun | 22 => 22 | 23 => 3 | 3 => 3 | 51 => 237 | 0 => 0 | 67 => 293 | 69 => 228 | 4 => 4 | 61 => 287 | 60 => 286 | 44 => 165 | 5 => 5 | 9 => 9 | 75 => 332 | 79 => 336 | 83 => 359 | 84 => 360 | n => n, fun | n => n⟩
theorem Tryz.sortInts : Go.Proofs.SlLaysN.n53 Tryz.prog Tryz.sortInts_ren := {
  mixed := by kernel_rfl
  f53 := ⟨Tryz.f99.name, by decide, Tryz.func99.trans (congrArg some (by kernel_rfl))⟩
  f59 := ⟨Tryz.f212.name, by decide, Tryz.func212.trans (congrArg some (by kernel_rfl))⟩
  f63 := ⟨Tryz.f164.name, by decide, Tryz.func164.trans (congrArg some (by kernel_rfl))⟩
  f64 := Tryz.func165.trans (congrArg some (by kernel_rfl))
  f68 := ⟨Tryz.f239.name, by decide, Tryz.func239.trans (congrArg some (by kernel_rfl))⟩
  f70 := ⟨Tryz.f206.name, by decide, Tryz.func206.trans (congrArg some (by kernel_rfl))⟩
  f71 := ⟨Tryz.f207.name, by decide, Tryz.func207.trans (congrArg some (by kernel_rfl))⟩
  f72 := ⟨Tryz.f208.name, by decide, Tryz.func208.trans (congrArg some (by kernel_rfl))⟩
  f73 := ⟨Tryz.f209.name, by decide, Tryz.func209.trans (congrArg some (by kernel_rfl))⟩
  f74 := ⟨Tryz.f210.name, by decide, Tryz.func210.trans (congrArg some (by kernel_rfl))⟩
  f75 := ⟨Tryz.f211.name, by decide, Tryz.func211.trans (congrArg some (by kernel_rfl))⟩
  f76 := ⟨Tryz.f213.name, by decide, Tryz.func213.trans (congrArg some (by kernel_rfl))⟩
  f77 := ⟨Tryz.f214.name, by decide, Tryz.func214.trans (congrArg some (by kernel_rfl))⟩
  f78 := Tryz.func215.trans (congrArg some (by kernel_rfl))
  f79 := Tryz.func216.trans (congrArg some (by kernel_rfl))
  f88 := ⟨Tryz.f249.name, by decide, Tryz.func249.trans (congrArg some (by kernel_rfl))⟩
  f89 := Tryz.func250.trans (congrArg some (by kernel_rfl))
  f90 := Tryz.func251.trans (congrArg some (by kernel_rfl))
  f91 := ⟨Tryz.f252.name, by decide, Tryz.func252.trans (congrArg some (by kernel_rfl))⟩
  f92 := ⟨Tryz.f253.name, by decide, Tryz.func253.trans (congrArg some (by kernel_rfl))⟩
  f96 := ⟨Tryz.f282.name, by decide, Tryz.func282.trans (congrArg some (by kernel_rfl))⟩
  t0 := Tryz.underlying0
  a0 := Tryz.isAgg0
  z0 := Tryz.sizeOf0
  v0 := Tryz.zeroValue0
  t3 := Tryz.underlying3
  a3 := Tryz.isAgg3
  z3 := Tryz.sizeOf3
  v3 := Tryz.zeroValue3
  t4 := Tryz.underlying4
  a4 := Tryz.isAgg4
  z4 := Tryz.sizeOf4
  v4 := Tryz.zeroValue4
  t5 := Tryz.underlying5
  a5 := Tryz.isAgg5
  z5 := Tryz.sizeOf5
  v5 := Tryz.zeroValue5
  t9 := Tryz.underlying9
  a9 := Tryz.isAgg9
  z9 := Tryz.sizeOf9
  v9 := Tryz.zeroValue9
  t22 := Tryz.underlying22
  a22 := Tryz.isAgg22
  z22 := Tryz.sizeOf22
  v22 := Tryz.zeroValue22
  t23 := Tryz.underlying3
  a23 := Tryz.isAgg3
  z23 := Tryz.sizeOf3
  v23 := Tryz.zeroValue3
  t44 := Tryz.underlying165
  a44 := Tryz.isAgg165
  z44 := Tryz.sizeOf165
  v44 := Tryz.zeroValue165
  t51 := Tryz.underlying237
  a51 := Tryz.isAgg237
  z51 := Tryz.sizeOf237
  v51 := Tryz.zeroValue237
  t60 := Tryz.underlying286
  a60 := Tryz.isAgg286
  z60 := Tryz.sizeOf286
  v60 := Tryz.zeroValue286
  t61 := Tryz.underlying287
  a61 := Tryz.isAgg287
  z61 := Tryz.sizeOf287
  v61 := Tryz.zeroValue287
  t67 := Tryz.underlying293
  a67 := Tryz.isAgg293
  z67 := Tryz.sizeOf293
  v67 := Tryz.zeroValue293
  t69 := Tryz.underlying228
  a69 := Tryz.isAgg228
  z69 := Tryz.sizeOf228
  v69 := Tryz.zeroValue228
  t75 := Tryz.underlying332
  a75 := Tryz.isAgg332
  z75 := Tryz.sizeOf332
  v75 := Tryz.zeroValue332
  t79 := Tryz.underlying336
  a79 := Tryz.isAgg336
  z79 := Tryz.sizeOf336
  v79 := Tryz.zeroValue336
  t83 := Tryz.underlying359
  a83 := Tryz.isAgg359
  z83 := Tryz.sizeOf359
  v83 := Tryz.zeroValue359
  t84 := Tryz.underlying360
  a84 := Tryz.isAgg360
  z84 := Tryz.sizeOf360
  v84 := Tryz.zeroValue360 }
def Tryz.compactInts_ren : Go.Shelf.Ren := ⟨fun | 43 => 100 | n => n, fun | 22 => 22 | 23 => 3 | 3 => 3 | 4 => 4 | 0 => 0 | n => n, fun | n => n⟩
theorem Tryz.compactInts : Go.Proofs.SlLaysN.n43 Tryz.prog Tryz.compactInts_ren := {
  mixed := by kernel_rfl
  f43 := ⟨Tryz.f100.name, by decide, Tryz.func100.trans (congrArg some (by kernel_rfl))⟩
  t0 := Tryz.underlying0
  a0 := Tryz.isAgg0
  z0 := Tryz.sizeOf0
  v0 := Tryz.zeroValue0
  t3 := Tryz.underlying3
  a3 := Tryz.isAgg3
  z3 := Tryz.sizeOf3
  v3 := Tryz.zeroValue3
  t4 := Tryz.underlying4
  a4 := Tryz.isAgg4
  z4 := Tryz.sizeOf4
  v4 := Tryz.zeroValue4
  t22 := Tryz.underlying22
  a22 := Tryz.isAgg22
  z22 := Tryz.sizeOf22
  v22 := Tryz.zeroValue22
  t23 := Tryz.underlying3
  a23 := Tryz.isAgg3
  z23 := Tryz.sizeOf3
  v23 := Tryz.zeroValue3
  i23 := by kernel_rfl }
end Go.Proofs
