/-
  DERIVED: THE SHELF's CONTRACTS AT THIS DUMP, IN PLAIN WORDS (tools/lay-plain.mjs out of 'YtbielnhpfbhkgaaShelfS.lean', which tools/lay-shelf.mjs wrote): THE SAME DECLARATIONS UNDER THE SAME NAMES: 'import', 'namespace', 'open', 'def', 'theorem' AND NOTHING ELSE: no command of the shelf's: FOR A HAND-IN. Each laying: the table of numbers ('.._ren') and one theorem, a field a fact of the dump's own or the kernel's comparison; each contract: ONE APPLICATION.
-/
import Derived.Shelf.SlIterI.Nil
import Derived.Shelf.SortM.Plain
import Derived.Shelf.SortM.SortNone
import Derived.Ground.GgzProg
import Derived.Ground.SlgmProg
import Derived.Test.YtbielnhpfbhkgaaProg
namespace Go.Proofs
open Go.Shelf
def Try.keys125_ren : Go.Shelf.Ren := ⟨fun | 7 => 125 | 10 => 169 | n => n, fun | 23 => 189 | 26 => 3 | 3 => 96 | 28 => 121 | 0 => 0 | 27 => 120 | 33 => 172 | 4 => 4 | n => n, fun | n => n⟩
theorem Try.keys125 : Go.Proofs.SlLaysZI.n7 Try.prog Try.keys125_ren := {
  mixed := by kernel_rfl
  f7 := ⟨Try.f125.name, by decide, Try.func125.trans (congrArg some (by kernel_rfl))⟩
  f10 := ⟨Try.f169.name, by decide, Try.func169.trans (congrArg some (by kernel_rfl))⟩
  t0 := Try.underlying0
  a0 := Try.isAgg0
  z0 := Try.sizeOf0
  v0 := Try.zeroValue0
  t4 := Try.underlying4
  a4 := Try.isAgg4
  z4 := Try.sizeOf4
  v4 := Try.zeroValue4
  t23 := Try.underlying189
  a23 := Try.isAgg189
  z23 := Try.sizeOf189
  v23 := Try.zeroValue189
  t26 := Try.underlying3
  a26 := Try.isAgg3
  z26 := Try.sizeOf3
  v26 := Try.zeroValue3
  t27 := Try.underlying120
  a27 := Try.isAgg120
  z27 := Try.sizeOf120
  v27 := Try.zeroValue120
  t28 := Try.underlying121
  a28 := Try.isAgg121
  z28 := Try.sizeOf121
  v28 := Try.zeroValue121
  t33 := Try.underlying172
  a33 := Try.isAgg172
  z33 := Try.sizeOf172
  v33 := Try.zeroValue172 }
end Go.Proofs
