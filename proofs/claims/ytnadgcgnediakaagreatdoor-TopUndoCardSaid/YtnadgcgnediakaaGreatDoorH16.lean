/- The library's contract for slices.Delete, laid at this program, in plain words (written by lay-plain.mjs). -/
import Derived.Shelf.Slices.Delete
import Derived.Ground.Names2Prog
import Derived.Test.YtnadgcgnediakaaGreatDoorProg
namespace Go.Proofs
open Go.Shelf
def Tryz.lays2_23_ren : Go.Shelf.Ren := ⟨fun | 23 => 195 | n => n, fun | 22 => 28 | 3 => 3 | 4 => 4 | 0 => 0 | n => n, fun | n => n⟩
theorem Tryz.lays2_23 : Go.Proofs.Lays2.n23 Tryz.prog Tryz.lays2_23_ren := {
  mixed := by kernel_rfl
  f23 := Tryz.func195.trans (congrArg some (by kernel_rfl))
  t0 := Tryz.underlying0
  a0 := Tryz.isAgg0
  z0 := Tryz.sizeOf0
  v0 := Tryz.zeroValue0
  t3 := Tryz.underlying3
  a3 := Tryz.isAgg3
  z3 := Tryz.sizeOf3
  v3 := Tryz.zeroValue3
  t4 := Tryz.underlying4
  a4 := Tryz.isAgg4
  z4 := Tryz.sizeOf4
  v4 := Tryz.zeroValue4
  t22 := Tryz.underlying28
  a22 := Tryz.isAgg28
  z22 := Tryz.sizeOf28
  v22 := Tryz.zeroValue28
  i3 := by kernel_rfl }
end Go.Proofs
