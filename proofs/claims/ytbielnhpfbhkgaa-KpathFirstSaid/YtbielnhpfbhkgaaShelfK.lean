/-
  DERIVED: THE SHELF's CONTRACTS AT THIS DUMP, IN PLAIN WORDS (tools/lay-plain.mjs out of 'YtbielnhpfbhkgaaShelfK.lean', which tools/lay-shelf.mjs wrote): THE SAME DECLARATIONS UNDER THE SAME NAMES: 'import', 'namespace', 'open', 'def', 'theorem' AND NOTHING ELSE: no command of the shelf's: FOR A HAND-IN. Each laying: the table of numbers ('.._ren') and one theorem, a field a fact of the dump's own or the kernel's comparison; each contract: ONE APPLICATION.
-/
import Derived.Shelf.SlIterI.Nil
import Derived.Shelf.SortM.Plain
import Derived.Shelf.SortM.SortNone
import Derived.Shelf.SlSortCmp.WholeK
import Derived.Ground.SlsfProg
import Derived.Ground.GgzProg
import Derived.Ground.SlgmProg
import Derived.Test.YtbielnhpfbhkgaaProg
namespace Go.Proofs
open Go.Shelf
def Try.sortf93_ren : Go.Shelf.Ren := ⟨fun | 6 => 93 | 15 => 152 | 14 => 151 | 28 => 193 | 29 => 194 | 20 => 185 | 21 => 186 | 22 => 187 | 23 => 188 | 24 => 189 | 25 => 190 | 26 => 191 | 27 => 192 | 46 => 226 | 47 => 227 | 48 => 228 | 49 => 229 | 50 => 230 | 57 => 242 | n => n, fun | 22 => 74 | 24 => 102 | 25 => 147 | 3 => 3 | 39 => 220 | 0 => 0 | 53 => 259 | 55 => 61 | 4 => 4 | 46 => 253 | 45 => 252 | 50 => 131 | 5 => 5 | 9 => 9 | 66 => 285 | 70 => 288 | 76 => 297 | 77 => 244 | n => n, fun | n => n⟩
theorem Try.sortf93 : Go.Proofs.SlLaysF0.n6 Try.prog Try.sortf93_ren := {
  mixed := by kernel_rfl
  f6 := ⟨Try.f93.name, by decide, Try.func93.trans (congrArg some (by kernel_rfl))⟩
  f14 := ⟨Try.f151.name, by decide, Try.func151.trans (congrArg some (by kernel_rfl))⟩
  f15 := Try.func152.trans (congrArg some (by kernel_rfl))
  f20 := ⟨Try.f185.name, by decide, Try.func185.trans (congrArg some (by kernel_rfl))⟩
  f21 := ⟨Try.f186.name, by decide, Try.func186.trans (congrArg some (by kernel_rfl))⟩
  f22 := ⟨Try.f187.name, by decide, Try.func187.trans (congrArg some (by kernel_rfl))⟩
  f23 := ⟨Try.f188.name, by decide, Try.func188.trans (congrArg some (by kernel_rfl))⟩
  f24 := ⟨Try.f189.name, by decide, Try.func189.trans (congrArg some (by kernel_rfl))⟩
  f25 := ⟨Try.f190.name, by decide, Try.func190.trans (congrArg some (by kernel_rfl))⟩
  f26 := ⟨Try.f191.name, by decide, Try.func191.trans (congrArg some (by kernel_rfl))⟩
  f27 := ⟨Try.f192.name, by decide, Try.func192.trans (congrArg some (by kernel_rfl))⟩
  f28 := Try.func193.trans (congrArg some (by kernel_rfl))
  f29 := Try.func194.trans (congrArg some (by kernel_rfl))
  f46 := ⟨Try.f226.name, by decide, Try.func226.trans (congrArg some (by kernel_rfl))⟩
  f47 := Try.func227.trans (congrArg some (by kernel_rfl))
  f48 := Try.func228.trans (congrArg some (by kernel_rfl))
  f49 := ⟨Try.f229.name, by decide, Try.func229.trans (congrArg some (by kernel_rfl))⟩
  f50 := ⟨Try.f230.name, by decide, Try.func230.trans (congrArg some (by kernel_rfl))⟩
  f57 := ⟨Try.f242.name, by decide, Try.func242.trans (congrArg some (by kernel_rfl))⟩
  t0 := Try.underlying0
  a0 := Try.isAgg0
  z0 := Try.sizeOf0
  v0 := Try.zeroValue0
  t3 := Try.underlying3
  a3 := Try.isAgg3
  z3 := Try.sizeOf3
  v3 := Try.zeroValue3
  t4 := Try.underlying4
  a4 := Try.isAgg4
  z4 := Try.sizeOf4
  v4 := Try.zeroValue4
  t5 := Try.underlying5
  a5 := Try.isAgg5
  z5 := Try.sizeOf5
  v5 := Try.zeroValue5
  t9 := Try.underlying9
  a9 := Try.isAgg9
  z9 := Try.sizeOf9
  v9 := Try.zeroValue9
  t22 := Try.underlying74
  a22 := Try.isAgg74
  z22 := Try.sizeOf74
  v22 := Try.zeroValue74
  t25 := Try.underlying147
  a25 := Try.isAgg147
  z25 := Try.sizeOf147
  v25 := Try.zeroValue147
  t39 := Try.underlying220
  a39 := Try.isAgg220
  z39 := Try.sizeOf220
  v39 := Try.zeroValue220
  t45 := Try.underlying252
  a45 := Try.isAgg252
  z45 := Try.sizeOf252
  v45 := Try.zeroValue252
  t46 := Try.underlying253
  a46 := Try.isAgg253
  z46 := Try.sizeOf253
  v46 := Try.zeroValue253
  t50 := Try.underlying131
  a50 := Try.isAgg131
  z50 := Try.sizeOf131
  v50 := Try.zeroValue131
  t53 := Try.underlying259
  a53 := Try.isAgg259
  z53 := Try.sizeOf259
  v53 := Try.zeroValue259
  t55 := Try.underlying61
  a55 := Try.isAgg61
  z55 := Try.sizeOf61
  v55 := Try.zeroValue61
  t66 := Try.underlying285
  a66 := Try.isAgg285
  z66 := Try.sizeOf285
  v66 := Try.zeroValue285
  t70 := Try.underlying288
  a70 := Try.isAgg288
  z70 := Try.sizeOf288
  v70 := Try.zeroValue288
  t76 := Try.underlying297
  a76 := Try.isAgg297
  z76 := Try.sizeOf297
  v76 := Try.zeroValue297
  t77 := Try.underlying244
  a77 := Try.isAgg244
  z77 := Try.sizeOf244
  v77 := Try.zeroValue244 }
end Go.Proofs
