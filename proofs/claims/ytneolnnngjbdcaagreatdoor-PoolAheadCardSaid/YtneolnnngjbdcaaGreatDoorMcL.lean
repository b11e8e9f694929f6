/-
  Contracts of the shelf laid at this dump (written by lay-plain.mjs out of one line each).
-/
import Derived.Shelf.SlMaps.Clone
import Derived.Test.YtneolnnngjbdcaaGreatDoorProg
namespace Go.Proofs
open Go.Shelf
def Tryz.cloneE_ren : Go.Shelf.Ren := ⟨fun | 5 => 53 | 7 => 82 | n => n, fun | 23 => 78 | 25 => 30 | 3 => 129 | 4 => 4 | 20 => 20 | n => n, fun | n => n⟩
theorem Tryz.cloneE : Go.Proofs.SlLaysW.n5 Tryz.prog Tryz.cloneE_ren := {
  mixed := by kernel_rfl
  f5 := ⟨Tryz.f53.name, by decide, Tryz.func53.trans (congrArg some (by kernel_rfl))⟩
  f7 := Tryz.func82.trans (congrArg some (by kernel_rfl))
  t4 := Tryz.underlying4
  a4 := Tryz.isAgg4
  z4 := Tryz.sizeOf4
  v4 := Tryz.zeroValue4
  t20 := Tryz.underlying20
  a20 := Tryz.isAgg20
  z20 := Tryz.sizeOf20
  v20 := Tryz.zeroValue20
  t23 := Tryz.underlying78
  a23 := Tryz.isAgg78
  z23 := Tryz.sizeOf78
  v23 := Tryz.zeroValue78 }
def Tryz.cloneS_ren : Go.Shelf.Ren := ⟨fun | 5 => 54 | 7 => 82 | n => n, fun | 23 => 79 | 25 => 73 | 3 => 30 | 4 => 4 | 20 => 20 | n => n, fun | n => n⟩
theorem Tryz.cloneS : Go.Proofs.SlLaysW.n5 Tryz.prog Tryz.cloneS_ren := {
  mixed := by kernel_rfl
  f5 := ⟨Tryz.f54.name, by decide, Tryz.func54.trans (congrArg some (by kernel_rfl))⟩
  f7 := Tryz.func82.trans (congrArg some (by kernel_rfl))
  t4 := Tryz.underlying4
  a4 := Tryz.isAgg4
  z4 := Tryz.sizeOf4
  v4 := Tryz.zeroValue4
  t20 := Tryz.underlying20
  a20 := Tryz.isAgg20
  z20 := Tryz.sizeOf20
  v20 := Tryz.zeroValue20
  t23 := Tryz.underlying79
  a23 := Tryz.isAgg79
  z23 := Tryz.sizeOf79
  v23 := Tryz.zeroValue79 }
end Go.Proofs
