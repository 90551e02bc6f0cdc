/-
  DERIVED: THE SHELF's CONTRACTS AT THIS DUMP, IN PLAIN WORDS (tools/lay-plain.mjs out of 'YtjhmgkoghapocaaDoorShelfDRaw.lean', which tools/lay-shelf.mjs wrote): THE SAME DECLARATIONS UNDER THE SAME NAMES: 'import', 'namespace', 'open', 'def', 'theorem' AND NOTHING ELSE: no command of the shelf's: FOR A HAND-IN. Each laying: the table of numbers ('.._ren') and one theorem, a field a fact of the dump's own or the kernel's comparison; each contract: ONE APPLICATION.
-/
import Derived.Shelf.SlSortCmp.NoneTotal
import Derived.Shelf.Small.Strs
import Derived.Shelf.SlGeneric
import Derived.Ground.SlsfProg
import Derived.Ground.NamesProg
import Derived.Test.YtjhmgkoghapocaaDoorProg
namespace Go.Proofs
open Go.Shelf
def Tryd.sortDue_ren : Go.Shelf.Ren := ⟨fun | 6 => 98 | 15 => 119 | 14 => 118 | 28 => 139 | 29 => 128 | 20 => 131 | 21 => 132 | 22 => 133 | 23 => 134 | 24 => 135 | 25 => 136 | 26 => 137 | 27 => 138 | 46 => 146 | 47 => 147 | 48 => 148 | 49 => 149 | 50 => 150 | 57 => 155 | n => n, fun | 22 => 29 | 24 => 36 | 25 => 130 | 3 => 3 | 39 => 125 | 0 => 0 | 53 => 146 | 55 => 116 | 4 => 4 | 46 => 159 | 45 => 158 | 50 => 111 | 5 => 5 | 9 => 9 | 66 => 166 | 70 => 170 | 76 => 177 | 77 => 178 | n => n, fun | n => n⟩
theorem Tryd.sortDue : Go.Proofs.SlLaysF0.n6 Tryd.prog Tryd.sortDue_ren := {
  mixed := by kernel_rfl
  f6 := ⟨Tryd.f98.name, by decide, Tryd.func98.trans (congrArg some (by kernel_rfl))⟩
  f14 := ⟨Tryd.f118.name, by decide, Tryd.func118.trans (congrArg some (by kernel_rfl))⟩
  f15 := Tryd.func119.trans (congrArg some (by kernel_rfl))
  f20 := ⟨Tryd.f131.name, by decide, Tryd.func131.trans (congrArg some (by kernel_rfl))⟩
  f21 := ⟨Tryd.f132.name, by decide, Tryd.func132.trans (congrArg some (by kernel_rfl))⟩
  f22 := ⟨Tryd.f133.name, by decide, Tryd.func133.trans (congrArg some (by kernel_rfl))⟩
  f23 := ⟨Tryd.f134.name, by decide, Tryd.func134.trans (congrArg some (by kernel_rfl))⟩
  f24 := ⟨Tryd.f135.name, by decide, Tryd.func135.trans (congrArg some (by kernel_rfl))⟩
  f25 := ⟨Tryd.f136.name, by decide, Tryd.func136.trans (congrArg some (by kernel_rfl))⟩
  f26 := ⟨Tryd.f137.name, by decide, Tryd.func137.trans (congrArg some (by kernel_rfl))⟩
  f27 := ⟨Tryd.f138.name, by decide, Tryd.func138.trans (congrArg some (by kernel_rfl))⟩
  f28 := Tryd.func139.trans (congrArg some (by kernel_rfl))
  f29 := Tryd.func128.trans (congrArg some (by kernel_rfl))
  f46 := ⟨Tryd.f146.name, by decide, Tryd.func146.trans (congrArg some (by kernel_rfl))⟩
  f47 := Tryd.func147.trans (congrArg some (by kernel_rfl))
  f48 := Tryd.func148.trans (congrArg some (by kernel_rfl))
  f49 := ⟨Tryd.f149.name, by decide, Tryd.func149.trans (congrArg some (by kernel_rfl))⟩
  f50 := ⟨Tryd.f150.name, by decide, Tryd.func150.trans (congrArg some (by kernel_rfl))⟩
  f57 := ⟨Tryd.f155.name, by decide, Tryd.func155.trans (congrArg some (by kernel_rfl))⟩
  t0 := Tryd.underlying0
  a0 := Tryd.isAgg0
  z0 := Tryd.sizeOf0
  v0 := Tryd.zeroValue0
  t3 := Tryd.underlying3
  a3 := Tryd.isAgg3
  z3 := Tryd.sizeOf3
  v3 := Tryd.zeroValue3
  t4 := Tryd.underlying4
  a4 := Tryd.isAgg4
  z4 := Tryd.sizeOf4
  v4 := Tryd.zeroValue4
  t5 := Tryd.underlying5
  a5 := Tryd.isAgg5
  z5 := Tryd.sizeOf5
  v5 := Tryd.zeroValue5
  t9 := Tryd.underlying9
  a9 := Tryd.isAgg9
  z9 := Tryd.sizeOf9
  v9 := Tryd.zeroValue9
  t22 := Tryd.underlying29
  a22 := Tryd.isAgg29
  z22 := Tryd.sizeOf29
  v22 := Tryd.zeroValue29
  t25 := Tryd.underlying130
  a25 := Tryd.isAgg130
  z25 := Tryd.sizeOf130
  v25 := Tryd.zeroValue130
  t39 := Tryd.underlying125
  a39 := Tryd.isAgg125
  z39 := Tryd.sizeOf125
  v39 := Tryd.zeroValue125
  t45 := Tryd.underlying158
  a45 := Tryd.isAgg158
  z45 := Tryd.sizeOf158
  v45 := Tryd.zeroValue158
  t46 := Tryd.underlying159
  a46 := Tryd.isAgg159
  z46 := Tryd.sizeOf159
  v46 := Tryd.zeroValue159
  t50 := Tryd.underlying111
  a50 := Tryd.isAgg111
  z50 := Tryd.sizeOf111
  v50 := Tryd.zeroValue111
  t53 := Tryd.underlying146
  a53 := Tryd.isAgg146
  z53 := Tryd.sizeOf146
  v53 := Tryd.zeroValue146
  t55 := Tryd.underlying116
  a55 := Tryd.isAgg116
  z55 := Tryd.sizeOf116
  v55 := Tryd.zeroValue116
  t66 := Tryd.underlying166
  a66 := Tryd.isAgg166
  z66 := Tryd.sizeOf166
  v66 := Tryd.zeroValue166
  t70 := Tryd.underlying170
  a70 := Tryd.isAgg170
  z70 := Tryd.sizeOf170
  v70 := Tryd.zeroValue170
  t76 := Tryd.underlying177
  a76 := Tryd.isAgg177
  z76 := Tryd.sizeOf177
  v76 := Tryd.zeroValue177
  t77 := Tryd.underlying178
  a77 := Tryd.isAgg178
  z77 := Tryd.sizeOf178
  v77 := Tryd.zeroValue178 }
def Tryd.compareStr_ren : Go.Shelf.Ren := ⟨fun | 106 => 100 | 213 => 120 | 265 => 140 | n => n, fun | 9 => 9 | 3 => 3 | n => n, fun | n => n⟩
theorem Tryd.compareStr : Go.Proofs.Lays.n106 Tryd.prog Tryd.compareStr_ren := {
  mixed := by kernel_rfl
  f106 := Tryd.func100.trans (congrArg some (by kernel_rfl))
  f213 := Tryd.func120.trans (congrArg some (by kernel_rfl))
  f265 := Tryd.func140.trans (congrArg some (by kernel_rfl))
  t3 := Tryd.underlying3
  a3 := Tryd.isAgg3
  z3 := Tryd.sizeOf3
  v3 := Tryd.zeroValue3
  t9 := Tryd.underlying9
  a9 := Tryd.isAgg9
  z9 := Tryd.sizeOf9
  v9 := Tryd.zeroValue9 }
end Go.Proofs
