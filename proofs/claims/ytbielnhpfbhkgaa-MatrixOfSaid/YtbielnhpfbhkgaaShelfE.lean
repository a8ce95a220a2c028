/-
  DERIVED: THE SHELF's CONTRACTS AT THIS DUMP, IN PLAIN WORDS (tools/lay-plain.mjs out of 'YtbielnhpfbhkgaaShelfE.lean', which tools/lay-shelf.mjs wrote): THE SAME DECLARATIONS UNDER THE SAME NAMES: 'import', 'namespace', 'open', 'def', 'theorem' AND NOTHING ELSE: no command of the shelf's: FOR A HAND-IN. Each laying: the table of numbers ('.._ren') and one theorem, a field a fact of the dump's own or the kernel's comparison; each contract: ONE APPLICATION.
-/
import Derived.Shelf.SlIterI.Nil
import Derived.Shelf.SortM.Plain
import Derived.Shelf.SortM.SortNone
import Derived.Shelf.SlSortCmp.WholeK
import Derived.Ground.SlsfProg
import Derived.Shelf.SlicesG.CompactI
import Derived.Ground.SlgnProg
import Derived.Ground.GgzProg
import Derived.Ground.SlgmProg
import Derived.Test.YtbielnhpfbhkgaaProg
namespace Go.Proofs
open Go.Shelf
def Try.compact120_ren : Go.Shelf.Ren := ⟨fun | 43 => 120 | n => n, fun | 22 => 51 | 23 => 3 | 3 => 3 | 4 => 4 | 0 => 0 | n => n, fun | n => n⟩
theorem Try.compact120 : Go.Proofs.SlLaysN.n43 Try.prog Try.compact120_ren := {
  mixed := by kernel_rfl
  f43 := ⟨Try.f120.name, by decide, Try.func120.trans (congrArg some (by kernel_rfl))⟩
  t0 := Try.underlying0
  a0 := Try.isAgg0
  z0 := Try.sizeOf0
  v0 := Try.zeroValue0
  t3 := Try.underlying3
  a3 := Try.isAgg3
  z3 := Try.sizeOf3
  v3 := Try.zeroValue3
  t4 := Try.underlying4
  a4 := Try.isAgg4
  z4 := Try.sizeOf4
  v4 := Try.zeroValue4
  t22 := Try.underlying51
  a22 := Try.isAgg51
  z22 := Try.sizeOf51
  v22 := Try.zeroValue51
  t23 := Try.underlying3
  a23 := Try.isAgg3
  z23 := Try.sizeOf3
  v23 := Try.zeroValue3
  i23 := by kernel_rfl }
def Try.sortf114_ren : Go.Shelf.Ren := ⟨fun | 6 => 114 | 15 => 152 | 14 => 162 | 28 => 193 | 29 => 194 | 20 => 203 | 21 => 204 | 22 => 205 | 23 => 206 | 24 => 207 | 25 => 208 | 26 => 209 | 27 => 210 | 46 => 234 | 47 => 227 | 48 => 228 | 49 => 235 | 50 => 236 | 57 => 244 | n => n, fun | 22 => 91 | 24 => 96 | 25 => 181 | 3 => 3 | 39 => 220 | 0 => 0 | 53 => 259 | 55 => 61 | 4 => 4 | 46 => 253 | 45 => 252 | 50 => 131 | 5 => 5 | 9 => 9 | 66 => 285 | 70 => 288 | 76 => 297 | 77 => 244 | n => n, fun | n => n⟩
theorem Try.sortf114 : Go.Proofs.SlLaysF0.n6 Try.prog Try.sortf114_ren := {
  mixed := by kernel_rfl
  f6 := ⟨Try.f114.name, by decide, Try.func114.trans (congrArg some (by kernel_rfl))⟩
  f14 := ⟨Try.f162.name, by decide, Try.func162.trans (congrArg some (by kernel_rfl))⟩
  f15 := Try.func152.trans (congrArg some (by kernel_rfl))
  f20 := ⟨Try.f203.name, by decide, Try.func203.trans (congrArg some (by kernel_rfl))⟩
  f21 := ⟨Try.f204.name, by decide, Try.func204.trans (congrArg some (by kernel_rfl))⟩
  f22 := ⟨Try.f205.name, by decide, Try.func205.trans (congrArg some (by kernel_rfl))⟩
  f23 := ⟨Try.f206.name, by decide, Try.func206.trans (congrArg some (by kernel_rfl))⟩
  f24 := ⟨Try.f207.name, by decide, Try.func207.trans (congrArg some (by kernel_rfl))⟩
  f25 := ⟨Try.f208.name, by decide, Try.func208.trans (congrArg some (by kernel_rfl))⟩
  f26 := ⟨Try.f209.name, by decide, Try.func209.trans (congrArg some (by kernel_rfl))⟩
  f27 := ⟨Try.f210.name, by decide, Try.func210.trans (congrArg some (by kernel_rfl))⟩
  f28 := Try.func193.trans (congrArg some (by kernel_rfl))
  f29 := Try.func194.trans (congrArg some (by kernel_rfl))
  f46 := ⟨Try.f234.name, by decide, Try.func234.trans (congrArg some (by kernel_rfl))⟩
  f47 := Try.func227.trans (congrArg some (by kernel_rfl))
  f48 := Try.func228.trans (congrArg some (by kernel_rfl))
  f49 := ⟨Try.f235.name, by decide, Try.func235.trans (congrArg some (by kernel_rfl))⟩
  f50 := ⟨Try.f236.name, by decide, Try.func236.trans (congrArg some (by kernel_rfl))⟩
  f57 := ⟨Try.f244.name, by decide, Try.func244.trans (congrArg some (by kernel_rfl))⟩
  t0 := Try.underlying0
  a0 := Try.isAgg0
  z0 := Try.sizeOf0
  v0 := Try.zeroValue0
  t3 := Try.underlying3
  a3 := Try.isAgg3
  z3 := Try.sizeOf3
  v3 := Try.zeroValue3
  t4 := Try.underlying4
  a4 := Try.isAgg4
  z4 := Try.sizeOf4
  v4 := Try.zeroValue4
  t5 := Try.underlying5
  a5 := Try.isAgg5
  z5 := Try.sizeOf5
  v5 := Try.zeroValue5
  t9 := Try.underlying9
  a9 := Try.isAgg9
  z9 := Try.sizeOf9
  v9 := Try.zeroValue9
  t22 := Try.underlying91
  a22 := Try.isAgg91
  z22 := Try.sizeOf91
  v22 := Try.zeroValue91
  t25 := Try.underlying181
  a25 := Try.isAgg181
  z25 := Try.sizeOf181
  v25 := Try.zeroValue181
  t39 := Try.underlying220
  a39 := Try.isAgg220
  z39 := Try.sizeOf220
  v39 := Try.zeroValue220
  t45 := Try.underlying252
  a45 := Try.isAgg252
  z45 := Try.sizeOf252
  v45 := Try.zeroValue252
  t46 := Try.underlying253
  a46 := Try.isAgg253
  z46 := Try.sizeOf253
  v46 := Try.zeroValue253
  t50 := Try.underlying131
  a50 := Try.isAgg131
  z50 := Try.sizeOf131
  v50 := Try.zeroValue131
  t53 := Try.underlying259
  a53 := Try.isAgg259
  z53 := Try.sizeOf259
  v53 := Try.zeroValue259
  t55 := Try.underlying61
  a55 := Try.isAgg61
  z55 := Try.sizeOf61
  v55 := Try.zeroValue61
  t66 := Try.underlying285
  a66 := Try.isAgg285
  z66 := Try.sizeOf285
  v66 := Try.zeroValue285
  t70 := Try.underlying288
  a70 := Try.isAgg288
  z70 := Try.sizeOf288
  v70 := Try.zeroValue288
  t76 := Try.underlying297
  a76 := Try.isAgg297
  z76 := Try.sizeOf297
  v76 := Try.zeroValue297
  t77 := Try.underlying244
  a77 := Try.isAgg244
  z77 := Try.sizeOf244
  v77 := Try.zeroValue244 }
end Go.Proofs
