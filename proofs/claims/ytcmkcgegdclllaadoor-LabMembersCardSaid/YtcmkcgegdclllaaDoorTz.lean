/- The contract of math/bits.TrailingZeros, laid at this seat: written by the kit's lay-plain.mjs. Conditions: none. -/
import Derived.Shelf.Spec.TrailingZeros
import Derived.Test.YtcmkcgegdclllaaDoorProg
namespace Go.Proofs
open Go.Shelf
def Tryd.lays27_ren : Go.Shelf.Ren := ⟨fun | 27 => 14 | 28 => 27 | 29 => 28 | n => n, fun | 25 => 36 | 3 => 3 | 27 => 63 | 22 => 65 | 4 => 4 | 53 => 74 | 0 => 0 | 5 => 5 | 54 => 75 | n => n, fun | 0 => 1 | 1 => 2 | n => n⟩
theorem Tryd.lays27 : Go.Proofs.Lays7.n27 Tryd.prog Tryd.lays27_ren := {
  mixed := by kernel_rfl
  f27 := Tryd.func14.trans (congrArg some (by kernel_rfl))
  f28 := Tryd.func27.trans (congrArg some (by kernel_rfl))
  f29 := Tryd.func28.trans (congrArg some (by kernel_rfl))
  t0 := Tryd.underlying0
  a0 := Tryd.isAgg0
  z0 := Tryd.sizeOf0
  v0 := Tryd.zeroValue0
  i0 := by kernel_rfl
  t3 := Tryd.underlying3
  a3 := Tryd.isAgg3
  z3 := Tryd.sizeOf3
  v3 := Tryd.zeroValue3
  i3 := by kernel_rfl
  t4 := Tryd.underlying4
  a4 := Tryd.isAgg4
  z4 := Tryd.sizeOf4
  v4 := Tryd.zeroValue4
  i4 := by kernel_rfl
  t5 := Tryd.underlying5
  a5 := Tryd.isAgg5
  z5 := Tryd.sizeOf5
  v5 := Tryd.zeroValue5
  i5 := by kernel_rfl
  t22 := Tryd.underlying65
  a22 := Tryd.isAgg65
  z22 := Tryd.sizeOf65
  v22 := Tryd.zeroValue65
  i22 := by kernel_rfl
  t25 := Tryd.underlying36
  a25 := Tryd.isAgg36
  z25 := Tryd.sizeOf36
  v25 := Tryd.zeroValue36
  i25 := by kernel_rfl
  t27 := Tryd.underlying63
  a27 := Tryd.isAgg63
  z27 := Tryd.sizeOf63
  v27 := Tryd.zeroValue63
  i27 := by kernel_rfl
  t53 := Tryd.underlying74
  a53 := Tryd.isAgg74
  z53 := Tryd.sizeOf74
  v53 := Tryd.zeroValue74
  i53 := by kernel_rfl
  t54 := Tryd.underlying75
  a54 := Tryd.isAgg75
  z54 := Tryd.sizeOf75
  g0 := by kernel_rfl
  g1 := by kernel_rfl }
end Go.Proofs
