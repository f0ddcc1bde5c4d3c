/- Functions of Go's library as they stand in this program: laid by the kit's own tool. -/
import Derived.Test.YtpibcbilkpoomaaGreatFwMapg
import Derived.Test.YtpibcbilkpoomaaGreatProg
set_option linter.unusedVariables false
set_option linter.unusedSimpArgs false
namespace Go.Proofs
open Go.Shelf
def Tryz.delU_ren : Go.Shelf.Ren := ⟨fun | 5 => 114 | n => n, fun | 23 => 129 | 26 => 9 | 24 => 48 | 27 => 198 | 0 => 0 | 4 => 4 | n => n, fun | n => n⟩
theorem Tryz.delU : Go.Proofs.SlLaysDf.n5 Tryz.prog Tryz.delU_ren := {
  mixed := by kernel_rfl
  f5 := ⟨Tryz.f114.name, by decide, Tryz.func114.trans (congrArg some (by kernel_rfl))⟩
  t0 := Tryz.underlying0
  a0 := Tryz.isAgg0
  z0 := Tryz.sizeOf0
  v0 := Tryz.zeroValue0
  t4 := Tryz.underlying4
  a4 := Tryz.isAgg4
  z4 := Tryz.sizeOf4
  v4 := Tryz.zeroValue4
  t23 := Tryz.underlying129
  a23 := Tryz.isAgg129
  z23 := Tryz.sizeOf129
  v23 := Tryz.zeroValue129
  a24 := Tryz.isAgg48
  z24 := Tryz.sizeOf48
  a26 := Tryz.isAgg9
  z26 := Tryz.sizeOf9
  t27 := Tryz.underlying198
  a27 := Tryz.isAgg198
  z27 := Tryz.sizeOf198
  v27 := Tryz.zeroValue198 }
end Go.Proofs
