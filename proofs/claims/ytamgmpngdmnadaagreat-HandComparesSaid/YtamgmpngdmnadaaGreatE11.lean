/- Part 11 of what stands below the statement. -/
import Derived.Shelf.Bits.Mul64
import Derived.Test.YtamgmpngdmnadaaGreatE10
namespace Go.Proofs
open Go.Shelf
def Tryz.mul_ren:Go.Shelf.Ren:=⟨fun | 212=>151 | 263=>213 | 264=>214 | n=>n,fun | 46=>190 | 51=>169 | 146=>233 | 53=>204 | 148=>235 | n=>n,fun | n=>n⟩
theorem Tryz.mul:Go.Proofs.Lays.n212 Tryz.prog Tryz.mul_ren:={
 mixed:=by kernel_rfl
 f212:=Tryz.func151.trans (xbb some (by kernel_rfl))
 f263:=Tryz.func213.trans (xbb some (by kernel_rfl))
 f264:=Tryz.func214.trans (xbb some (by kernel_rfl))
 t46:=Tryz.underlying190
 a46:=Tryz.isAgg190
 z46:=Tryz.sizeOf190
 v46:=Tryz.zeroValue190
 t51:=Tryz.underlying169
 a51:=Tryz.isAgg169
 z51:=Tryz.sizeOf169
 v51:=Tryz.zeroValue169
 t53:=Tryz.underlying204
 a53:=Tryz.isAgg204
 z53:=Tryz.sizeOf204
 v53:=Tryz.zeroValue204
 t146:=Tryz.underlying233
 a146:=Tryz.isAgg233
 z146:=Tryz.sizeOf233
 v146:=Tryz.zeroValue233
 t148:=Tryz.underlying235
 a148:=Tryz.isAgg235
 z148:=Tryz.sizeOf235
 v148:=Tryz.zeroValue235}
end Go.Proofs
