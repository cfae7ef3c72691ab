/- The library's insertion sort by a function, laid at this seat's numbers. -/
import Derived.Shelf.SlSortCmp.Insertion
import Derived.Test.YtlfcoopnonhfeaaProg
namespace Go.Proofs
open Go.Shelf
def Try.insL_ren : Go.Shelf.Ren := ⟨fun | 20 => 50 | n => n, fun | 24 => 3 | 22 => 22 | 3 => 3 | 25 => 27 | 4 => 4 | 0 => 0 | n => n, fun | n => n⟩
theorem Try.insL : Go.Proofs.SlLaysF.n20 Try.prog Try.insL_ren := {
  mixed := by kernel_rfl
  f20 := ⟨Try.f50.name, by decide, Try.func50.trans (congrArg some (by kernel_rfl))⟩
  t0 := Try.underlying0
  a0 := Try.isAgg0
  z0 := Try.sizeOf0
  v0 := Try.zeroValue0
  t3 := Try.underlying3
  a3 := Try.isAgg3
  z3 := Try.sizeOf3
  v3 := Try.zeroValue3
  t4 := Try.underlying4
  a4 := Try.isAgg4
  z4 := Try.sizeOf4
  v4 := Try.zeroValue4
  t22 := Try.underlying22
  a22 := Try.isAgg22
  z22 := Try.sizeOf22
  v22 := Try.zeroValue22
  a24 := Try.isAgg3
  z24 := Try.sizeOf3
  t25 := Try.underlying27
  a25 := Try.isAgg27
  z25 := Try.sizeOf27
  v25 := Try.zeroValue27 }
end Go.Proofs
