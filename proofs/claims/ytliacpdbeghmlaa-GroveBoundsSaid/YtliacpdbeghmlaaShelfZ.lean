/-
  DERIVED: THE SHELF's CONTRACTS AT THIS DUMP, IN PLAIN WORDS (tools/lay-plain.mjs out of 'TryShelfZ.lean', which tools/lay-shelf.mjs wrote): THE SAME DECLARATIONS UNDER THE SAME NAMES: 'import', 'namespace', 'open', 'def', 'theorem' AND NOTHING ELSE: no command of the shelf's: FOR A HAND-IN. Each laying: the table of numbers ('.._ren') and one theorem, a field a fact of the dump's own or the kernel's comparison; each contract: ONE APPLICATION.
-/
import Derived.Shelf.SlIterI.Collect
import Derived.Shelf.SlIterI.Stops
import Derived.Shelf.SlMaps.DeleteFunc
import Derived.Ground.GgzProg
import Derived.Ground.SlmdProg
import Derived.Test.YtliacpdbeghmlaaProg
namespace Go.Proofs
open Go.Shelf
def Try.keysZ_ren : Go.Shelf.Ren := ⟨fun | 7 => 80 | 10 => 92 | n => n, fun | 23 => 123 | 26 => 3 | 3 => 3 | 28 => 127 | 0 => 0 | 27 => 126 | 33 => 87 | 4 => 4 | n => n, fun | n => n⟩
theorem Try.keysZ : Go.Proofs.SlLaysZI.n7 Try.prog Try.keysZ_ren := {
  mixed := by kernel_rfl
  f7 := ⟨Try.f80.name, by decide, Try.func80.trans (congrArg some (by kernel_rfl))⟩
  f10 := ⟨Try.f92.name, by decide, Try.func92.trans (congrArg some (by kernel_rfl))⟩
  t0 := Try.underlying0
  a0 := Try.isAgg0
  z0 := Try.sizeOf0
  v0 := Try.zeroValue0
  t4 := Try.underlying4
  a4 := Try.isAgg4
  z4 := Try.sizeOf4
  v4 := Try.zeroValue4
  t23 := Try.underlying123
  a23 := Try.isAgg123
  z23 := Try.sizeOf123
  v23 := Try.zeroValue123
  t26 := Try.underlying3
  a26 := Try.isAgg3
  z26 := Try.sizeOf3
  v26 := Try.zeroValue3
  t27 := Try.underlying126
  a27 := Try.isAgg126
  z27 := Try.sizeOf126
  v27 := Try.zeroValue126
  t28 := Try.underlying127
  a28 := Try.isAgg127
  z28 := Try.sizeOf127
  v28 := Try.zeroValue127
  t33 := Try.underlying87
  a33 := Try.isAgg87
  z33 := Try.sizeOf87
  v33 := Try.zeroValue87 }
def Try.collectZ_ren : Go.Shelf.Ren := ⟨fun | 8 => 76 | 11 => 90 | n => n, fun | 26 => 3 | 28 => 127 | 24 => 26 | 0 => 0 | 33 => 87 | 4 => 4 | n => n, fun | n => n⟩
theorem Try.collectZ : Go.Proofs.SlLaysZI.n8 Try.prog Try.collectZ_ren := {
  mixed := by kernel_rfl
  f8 := ⟨Try.f76.name, by decide, Try.func76.trans (congrArg some (by kernel_rfl))⟩
  f11 := ⟨Try.f90.name, by decide, Try.func90.trans (congrArg some (by kernel_rfl))⟩
  t0 := Try.underlying0
  a0 := Try.isAgg0
  z0 := Try.sizeOf0
  v0 := Try.zeroValue0
  t24 := Try.underlying26
  a24 := Try.isAgg26
  z24 := Try.sizeOf26
  v24 := Try.zeroValue26
  t26 := Try.underlying3
  a26 := Try.isAgg3
  z26 := Try.sizeOf3
  v26 := Try.zeroValue3
  t28 := Try.underlying127
  a28 := Try.isAgg127
  z28 := Try.sizeOf127
  v28 := Try.zeroValue127
  i26 := by kernel_rfl }
def Try.delZ_ren : Go.Shelf.Ren := ⟨fun | 5 => 78 | n => n, fun | 23 => 123 | 26 => 3 | 24 => 3 | 27 => 130 | 0 => 0 | 4 => 4 | n => n, fun | n => n⟩
theorem Try.delZ : Go.Proofs.SlLaysDf.n5 Try.prog Try.delZ_ren := {
  mixed := by kernel_rfl
  f5 := ⟨Try.f78.name, by decide, Try.func78.trans (congrArg some (by kernel_rfl))⟩
  t0 := Try.underlying0
  a0 := Try.isAgg0
  z0 := Try.sizeOf0
  v0 := Try.zeroValue0
  t4 := Try.underlying4
  a4 := Try.isAgg4
  z4 := Try.sizeOf4
  v4 := Try.zeroValue4
  t23 := Try.underlying123
  a23 := Try.isAgg123
  z23 := Try.sizeOf123
  v23 := Try.zeroValue123
  a24 := Try.isAgg3
  z24 := Try.sizeOf3
  a26 := Try.isAgg3
  z26 := Try.sizeOf3
  t27 := Try.underlying130
  a27 := Try.isAgg130
  z27 := Try.sizeOf130
  v27 := Try.zeroValue130 }
end Go.Proofs
