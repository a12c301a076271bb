/- The contract of slices.DeleteFunc at texts, at this seat's numbers, as the kit's tool lays it. -/
import Derived.Shelf.SlicesE.DeleteFunc
import Derived.Test.YteiijbhkplnnmaaDoorProg
namespace Go.Proofs
open Go.Shelf
def Tryd.layDel_ren : Go.Shelf.Ren := ⟨fun | 10 => 16 | 6 => 23 | n => n, fun | 22 => 23 | 23 => 9 | 25 => 25 | 3 => 3 | 4 => 4 | 0 => 0 | n => n, fun | n => n⟩
theorem Tryd.layDel : Go.Proofs.SlLaysH.n10 Tryd.prog Tryd.layDel_ren := {
  mixed := by kernel_rfl
  f6 := ⟨Tryd.f23.name, by decide, Tryd.func23.trans (congrArg some (by kernel_rfl))⟩
  f10 := ⟨Tryd.f16.name, by decide, Tryd.func16.trans (congrArg some (by kernel_rfl))⟩
  t0 := Tryd.underlying0
  a0 := Tryd.isAgg0
  z0 := Tryd.sizeOf0
  v0 := Tryd.zeroValue0
  t3 := Tryd.underlying3
  a3 := Tryd.isAgg3
  z3 := Tryd.sizeOf3
  v3 := Tryd.zeroValue3
  t4 := Tryd.underlying4
  a4 := Tryd.isAgg4
  z4 := Tryd.sizeOf4
  v4 := Tryd.zeroValue4
  t22 := Tryd.underlying23
  a22 := Tryd.isAgg23
  z22 := Tryd.sizeOf23
  v22 := Tryd.zeroValue23
  a23 := Tryd.isAgg9
  z23 := Tryd.sizeOf9
  t25 := Tryd.underlying25
  a25 := Tryd.isAgg25
  z25 := Tryd.sizeOf25
  v25 := Tryd.zeroValue25 }
end Go.Proofs
