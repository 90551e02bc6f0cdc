/-
  DERIVED: THE SHELF's CONTRACTS AT THIS DUMP, IN PLAIN WORDS (tools/lay-plain.mjs out of 'YtjhmgkoghapocaaDoorShelfSRaw.lean', which tools/lay-shelf.mjs wrote): THE SAME DECLARATIONS UNDER THE SAME NAMES: 'import', 'namespace', 'open', 'def', 'theorem' AND NOTHING ELSE: no command of the shelf's: FOR A HAND-IN. Each laying: the table of numbers ('.._ren') and one theorem, a field a fact of the dump's own or the kernel's comparison; each contract: ONE APPLICATION.
-/
import Derived.Shelf.SlSortCmp.Insertion
import Derived.Shelf.SlSortCmp.InsertionK
import Derived.Shelf.Bits.Mul64
import Derived.Shelf.SlGeneric
import Derived.Ground.SlsfProg
import Derived.Ground.NamesProg
import Derived.Test.YtjhmgkoghapocaaDoorProg
namespace Go.Proofs
open Go.Shelf
def Tryd.insInt_ren : Go.Shelf.Ren := ⟨fun | 20 => 102 | n => n, fun | 24 => 3 | 22 => 22 | 3 => 3 | 25 => 57 | 4 => 4 | 0 => 0 | n => n, fun | n => n⟩
theorem Tryd.insInt : Go.Proofs.SlLaysF.n20 Tryd.prog Tryd.insInt_ren := {
  mixed := by kernel_rfl
  f20 := ⟨Tryd.f102.name, by decide, Tryd.func102.trans (congrArg some (by kernel_rfl))⟩
  t0 := Tryd.underlying0
  a0 := Tryd.isAgg0
  z0 := Tryd.sizeOf0
  v0 := Tryd.zeroValue0
  t3 := Tryd.underlying3
  a3 := Tryd.isAgg3
  z3 := Tryd.sizeOf3
  v3 := Tryd.zeroValue3
  t4 := Tryd.underlying4
  a4 := Tryd.isAgg4
  z4 := Tryd.sizeOf4
  v4 := Tryd.zeroValue4
  t22 := Tryd.underlying22
  a22 := Tryd.isAgg22
  z22 := Tryd.sizeOf22
  v22 := Tryd.zeroValue22
  a24 := Tryd.isAgg3
  z24 := Tryd.sizeOf3
  t25 := Tryd.underlying57
  a25 := Tryd.isAgg57
  z25 := Tryd.sizeOf57
  v25 := Tryd.zeroValue57 }
def Tryd.insRest_ren : Go.Shelf.Ren := ⟨fun | 20 => 129 | n => n, fun | 24 => 121 | 22 => 115 | 3 => 3 | 25 => 124 | 4 => 4 | 0 => 0 | n => n, fun | n => n⟩
theorem Tryd.insRest : Go.Proofs.SlLaysF0.n20 Tryd.prog Tryd.insRest_ren := {
  mixed := by kernel_rfl
  f20 := ⟨Tryd.f129.name, by decide, Tryd.func129.trans (congrArg some (by kernel_rfl))⟩
  t0 := Tryd.underlying0
  a0 := Tryd.isAgg0
  z0 := Tryd.sizeOf0
  v0 := Tryd.zeroValue0
  t3 := Tryd.underlying3
  a3 := Tryd.isAgg3
  z3 := Tryd.sizeOf3
  v3 := Tryd.zeroValue3
  t4 := Tryd.underlying4
  a4 := Tryd.isAgg4
  z4 := Tryd.sizeOf4
  v4 := Tryd.zeroValue4
  t22 := Tryd.underlying115
  a22 := Tryd.isAgg115
  z22 := Tryd.sizeOf115
  v22 := Tryd.zeroValue115
  t25 := Tryd.underlying124
  a25 := Tryd.isAgg124
  z25 := Tryd.sizeOf124
  v25 := Tryd.zeroValue124 }
def Tryd.mul64_ren : Go.Shelf.Ren := ⟨fun | 264 => 92 | n => n, fun | 53 => 116 | 46 => 125 | n => n, fun | n => n⟩
theorem Tryd.mul64 : Go.Proofs.Lays.n264 Tryd.prog Tryd.mul64_ren := {
  mixed := by kernel_rfl
  f264 := Tryd.func92.trans (congrArg some (by kernel_rfl))
  t46 := Tryd.underlying125
  a46 := Tryd.isAgg125
  z46 := Tryd.sizeOf125
  v46 := Tryd.zeroValue125
  t53 := Tryd.underlying116
  a53 := Tryd.isAgg116
  z53 := Tryd.sizeOf116
  v53 := Tryd.zeroValue116 }
end Go.Proofs
