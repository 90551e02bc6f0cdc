/-
  DERIVED: THE SHELF's CONTRACTS AT THIS DUMP, IN PLAIN WORDS (tools/lay-plain.mjs out of 'YtbjbeddjaajdaaaGreatDoorShelfKRaw.lean', which tools/lay-shelf.mjs wrote): THE SAME DECLARATIONS UNDER THE SAME NAMES: 'import', 'namespace', 'open', 'def', 'theorem' AND NOTHING ELSE: no command of the shelf's: FOR A HAND-IN. Each laying: the table of numbers ('.._ren') and one theorem, a field a fact of the dump's own or the kernel's comparison; each contract: ONE APPLICATION.
-/
import Derived.Shelf.Strings.SlTrimAscii
import Derived.Shelf.Small.Strs
import Derived.Ground.NamesProg
import Derived.Test.YtbjbeddjaajdaaaGreatDoorProg
namespace Go.Proofs
open Go.Shelf
def Tryz.trimStr_ren : Go.Shelf.Ren := ⟨fun | 160 => 115 | 232 => 163 | 231 => 162 | 227 => 164 | 234 => 166 | 233 => 165 | 236 => 168 | 235 => 167 | 228 => 199 | 271 => 202 | 151 => 201 | 197 => 200 | 120 => 239 | 152 => 238 | 260 => 237 | 137 => 116 | 119 => 255 | 224 => 256 | 225 => 257 | 217 => 169 | 266 => 203 | n => n, fun | 9 => 9 | 4 => 4 | 3 => 3 | 5 => 5 | 117 => 251 | 116 => 250 | 0 => 0 | 124 => 254 | 21 => 21 | 105 => 295 | 46 => 183 | 119 => 347 | 139 => 350 | 138 => 349 | n => n, fun | 3 => 4 | 4 => 5 | n => n⟩
theorem Tryz.trimStr : Go.Proofs.Lays.n160 Tryz.prog Tryz.trimStr_ren := {
  mixed := by kernel_rfl
  f119 := Tryz.func255.trans (congrArg some (by kernel_rfl))
  f120 := Tryz.func239.trans (congrArg some (by kernel_rfl))
  f137 := Tryz.func116.trans (congrArg some (by kernel_rfl))
  f151 := Tryz.func201.trans (congrArg some (by kernel_rfl))
  f152 := Tryz.func238.trans (congrArg some (by kernel_rfl))
  f160 := Tryz.func115.trans (congrArg some (by kernel_rfl))
  f197 := Tryz.func200.trans (congrArg some (by kernel_rfl))
  f217 := Tryz.func169.trans (congrArg some (by kernel_rfl))
  f224 := Tryz.func256.trans (congrArg some (by kernel_rfl))
  f225 := Tryz.func257.trans (congrArg some (by kernel_rfl))
  f227 := Tryz.func164.trans (congrArg some (by kernel_rfl))
  f228 := Tryz.func199.trans (congrArg some (by kernel_rfl))
  f231 := Tryz.func162.trans (congrArg some (by kernel_rfl))
  f232 := Tryz.func163.trans (congrArg some (by kernel_rfl))
  f233 := Tryz.func165.trans (congrArg some (by kernel_rfl))
  f234 := Tryz.func166.trans (congrArg some (by kernel_rfl))
  f235 := Tryz.func167.trans (congrArg some (by kernel_rfl))
  f236 := Tryz.func168.trans (congrArg some (by kernel_rfl))
  f260 := Tryz.func237.trans (congrArg some (by kernel_rfl))
  f266 := Tryz.func203.trans (congrArg some (by kernel_rfl))
  f271 := Tryz.func202.trans (congrArg some (by kernel_rfl))
  t0 := Tryz.underlying0
  a0 := Tryz.isAgg0
  z0 := Tryz.sizeOf0
  v0 := Tryz.zeroValue0
  t3 := Tryz.underlying3
  a3 := Tryz.isAgg3
  z3 := Tryz.sizeOf3
  v3 := Tryz.zeroValue3
  t4 := Tryz.underlying4
  a4 := Tryz.isAgg4
  z4 := Tryz.sizeOf4
  v4 := Tryz.zeroValue4
  t5 := Tryz.underlying5
  a5 := Tryz.isAgg5
  z5 := Tryz.sizeOf5
  v5 := Tryz.zeroValue5
  t9 := Tryz.underlying9
  a9 := Tryz.isAgg9
  z9 := Tryz.sizeOf9
  v9 := Tryz.zeroValue9
  t21 := Tryz.underlying21
  a21 := Tryz.isAgg21
  z21 := Tryz.sizeOf21
  v21 := Tryz.zeroValue21
  t46 := Tryz.underlying183
  a46 := Tryz.isAgg183
  z46 := Tryz.sizeOf183
  v46 := Tryz.zeroValue183
  t105 := Tryz.underlying295
  a105 := Tryz.isAgg295
  z105 := Tryz.sizeOf295
  v105 := Tryz.zeroValue295
  t116 := Tryz.underlying250
  a116 := Tryz.isAgg250
  z116 := Tryz.sizeOf250
  t117 := Tryz.underlying251
  a117 := Tryz.isAgg251
  z117 := Tryz.sizeOf251
  v117 := Tryz.zeroValue251
  t119 := Tryz.underlying347
  a119 := Tryz.isAgg347
  z119 := Tryz.sizeOf347
  t124 := Tryz.underlying254
  a124 := Tryz.isAgg254
  z124 := Tryz.sizeOf254
  v124 := Tryz.zeroValue254
  t138 := Tryz.underlying349
  a138 := Tryz.isAgg349
  z138 := Tryz.sizeOf349
  v138 := Tryz.zeroValue349
  t139 := Tryz.underlying350
  a139 := Tryz.isAgg350
  z139 := Tryz.sizeOf350
  v139 := Tryz.zeroValue350
  g3 := by kernel_rfl
  g4 := by kernel_rfl }
def Tryz.indexByteStr_ren : Go.Shelf.Ren := ⟨fun | 137 => 116 | 217 => 169 | 266 => 203 | n => n, fun | 9 => 9 | 5 => 5 | 3 => 3 | n => n, fun | n => n⟩
theorem Tryz.indexByteStr : Go.Proofs.Lays.n137 Tryz.prog Tryz.indexByteStr_ren := {
  mixed := by kernel_rfl
  f137 := Tryz.func116.trans (congrArg some (by kernel_rfl))
  f217 := Tryz.func169.trans (congrArg some (by kernel_rfl))
  f266 := Tryz.func203.trans (congrArg some (by kernel_rfl))
  t3 := Tryz.underlying3
  a3 := Tryz.isAgg3
  z3 := Tryz.sizeOf3
  v3 := Tryz.zeroValue3
  t5 := Tryz.underlying5
  a5 := Tryz.isAgg5
  z5 := Tryz.sizeOf5
  v5 := Tryz.zeroValue5
  t9 := Tryz.underlying9
  a9 := Tryz.isAgg9
  z9 := Tryz.sizeOf9
  v9 := Tryz.zeroValue9 }
end Go.Proofs
