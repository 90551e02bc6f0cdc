/-
  DERIVED: THE SHELF's CONTRACTS AT THIS DUMP, IN PLAIN WORDS (tools/lay-plain.mjs out of 'YtklgknepamebdaaGreatDoorShelfKRaw.lean', which tools/lay-shelf.mjs wrote): THE SAME DECLARATIONS UNDER THE SAME NAMES: 'import', 'namespace', 'open', 'def', 'theorem' AND NOTHING ELSE: no command of the shelf's: FOR A HAND-IN. Each laying: the table of numbers ('.._ren') and one theorem, a field a fact of the dump's own or the kernel's comparison; each contract: ONE APPLICATION.
-/
import Derived.Shelf.Strings.SlTrimAscii
import Derived.Shelf.Small.Strs
import Derived.Ground.NamesProg
import Derived.Test.YtklgknepamebdaaGreatDoorProg
namespace Go.Proofs
open Go.Shelf
def Tryz.trimStr_ren : Go.Shelf.Ren := ⟨fun | 160 => 132 | 232 => 177 | 231 => 176 | 227 => 178 | 234 => 180 | 233 => 179 | 236 => 182 | 235 => 181 | 228 => 211 | 271 => 214 | 151 => 213 | 197 => 212 | 120 => 239 | 152 => 238 | 260 => 237 | 137 => 133 | 119 => 248 | 224 => 249 | 225 => 250 | 217 => 183 | 266 => 215 | n => n, fun | 9 => 9 | 4 => 4 | 3 => 3 | 5 => 5 | 117 => 250 | 116 => 249 | 0 => 0 | 124 => 253 | 21 => 21 | 105 => 282 | 46 => 239 | 119 => 312 | 139 => 315 | 138 => 314 | n => n, fun | 3 => 2 | 4 => 3 | n => n⟩
theorem Tryz.trimStr : Go.Proofs.Lays.n160 Tryz.prog Tryz.trimStr_ren := {
  mixed := by kernel_rfl
  f119 := Tryz.func248.trans (congrArg some (by kernel_rfl))
  f120 := Tryz.func239.trans (congrArg some (by kernel_rfl))
  f137 := Tryz.func133.trans (congrArg some (by kernel_rfl))
  f151 := Tryz.func213.trans (congrArg some (by kernel_rfl))
  f152 := Tryz.func238.trans (congrArg some (by kernel_rfl))
  f160 := Tryz.func132.trans (congrArg some (by kernel_rfl))
  f197 := Tryz.func212.trans (congrArg some (by kernel_rfl))
  f217 := Tryz.func183.trans (congrArg some (by kernel_rfl))
  f224 := Tryz.func249.trans (congrArg some (by kernel_rfl))
  f225 := Tryz.func250.trans (congrArg some (by kernel_rfl))
  f227 := Tryz.func178.trans (congrArg some (by kernel_rfl))
  f228 := Tryz.func211.trans (congrArg some (by kernel_rfl))
  f231 := Tryz.func176.trans (congrArg some (by kernel_rfl))
  f232 := Tryz.func177.trans (congrArg some (by kernel_rfl))
  f233 := Tryz.func179.trans (congrArg some (by kernel_rfl))
  f234 := Tryz.func180.trans (congrArg some (by kernel_rfl))
  f235 := Tryz.func181.trans (congrArg some (by kernel_rfl))
  f236 := Tryz.func182.trans (congrArg some (by kernel_rfl))
  f260 := Tryz.func237.trans (congrArg some (by kernel_rfl))
  f266 := Tryz.func215.trans (congrArg some (by kernel_rfl))
  f271 := Tryz.func214.trans (congrArg some (by kernel_rfl))
  t0 := Tryz.underlying0
  a0 := Tryz.isAgg0
  z0 := Tryz.sizeOf0
  v0 := Tryz.zeroValue0
  t3 := Tryz.underlying3
  a3 := Tryz.isAgg3
  z3 := Tryz.sizeOf3
  v3 := Tryz.zeroValue3
  t4 := Tryz.underlying4
  a4 := Tryz.isAgg4
  z4 := Tryz.sizeOf4
  v4 := Tryz.zeroValue4
  t5 := Tryz.underlying5
  a5 := Tryz.isAgg5
  z5 := Tryz.sizeOf5
  v5 := Tryz.zeroValue5
  t9 := Tryz.underlying9
  a9 := Tryz.isAgg9
  z9 := Tryz.sizeOf9
  v9 := Tryz.zeroValue9
  t21 := Tryz.underlying21
  a21 := Tryz.isAgg21
  z21 := Tryz.sizeOf21
  v21 := Tryz.zeroValue21
  t46 := Tryz.underlying239
  a46 := Tryz.isAgg239
  z46 := Tryz.sizeOf239
  v46 := Tryz.zeroValue239
  t105 := Tryz.underlying282
  a105 := Tryz.isAgg282
  z105 := Tryz.sizeOf282
  v105 := Tryz.zeroValue282
  t116 := Tryz.underlying249
  a116 := Tryz.isAgg249
  z116 := Tryz.sizeOf249
  t117 := Tryz.underlying250
  a117 := Tryz.isAgg250
  z117 := Tryz.sizeOf250
  v117 := Tryz.zeroValue250
  t119 := Tryz.underlying312
  a119 := Tryz.isAgg312
  z119 := Tryz.sizeOf312
  t124 := Tryz.underlying253
  a124 := Tryz.isAgg253
  z124 := Tryz.sizeOf253
  v124 := Tryz.zeroValue253
  t138 := Tryz.underlying314
  a138 := Tryz.isAgg314
  z138 := Tryz.sizeOf314
  v138 := Tryz.zeroValue314
  t139 := Tryz.underlying315
  a139 := Tryz.isAgg315
  z139 := Tryz.sizeOf315
  v139 := Tryz.zeroValue315
  g3 := by kernel_rfl
  g4 := by kernel_rfl }
def Tryz.indexByteStr_ren : Go.Shelf.Ren := ⟨fun | 137 => 133 | 217 => 183 | 266 => 215 | n => n, fun | 9 => 9 | 5 => 5 | 3 => 3 | n => n, fun | n => n⟩
theorem Tryz.indexByteStr : Go.Proofs.Lays.n137 Tryz.prog Tryz.indexByteStr_ren := {
  mixed := by kernel_rfl
  f137 := Tryz.func133.trans (congrArg some (by kernel_rfl))
  f217 := Tryz.func183.trans (congrArg some (by kernel_rfl))
  f266 := Tryz.func215.trans (congrArg some (by kernel_rfl))
  t3 := Tryz.underlying3
  a3 := Tryz.isAgg3
  z3 := Tryz.sizeOf3
  v3 := Tryz.zeroValue3
  t5 := Tryz.underlying5
  a5 := Tryz.isAgg5
  z5 := Tryz.sizeOf5
  v5 := Tryz.zeroValue5
  t9 := Tryz.underlying9
  a9 := Tryz.isAgg9
  z9 := Tryz.sizeOf9
  v9 := Tryz.zeroValue9 }
end Go.Proofs
