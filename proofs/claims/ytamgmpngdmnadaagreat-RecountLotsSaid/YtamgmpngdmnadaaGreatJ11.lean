/- A part of the proof. -/
import Derived.Shelf.Bits.Mul64
import Derived.Test.YtamgmpngdmnadaaGreatJ10
set_option linter.defProp false
namespace Go.Proofs
open Tryz
open Go.Shelf
def Tryz.mul_ren:Go.Shelf.Ren:=⟨λ | 212=>151 | 263=>213 | 264=>214 | n=>n,λ | 46=>190 | 51=>169 | 146=>233 | 53=>204 | 148=>235 | n=>n,λ | n=>n⟩
def Tryz.mul:Go.Proofs.Lays.n212 prog Tryz.mul_ren:={
 mixed:=by kernel_rfl
 f212:=func151.trans (xbr some (by kernel_rfl))
 f263:=func213.trans (xbr some (by kernel_rfl))
 f264:=func214.trans (xbr some (by kernel_rfl))
 t46:=underlying190
 a46:=Tryz.isAgg190
 z46:=sizeOf190
 v46:=Tryz.zeroValue190
 t51:=underlying169
 a51:=Tryz.isAgg169
 z51:=sizeOf169
 v51:=Tryz.zeroValue169
 t53:=underlying204
 a53:=Tryz.isAgg204
 z53:=sizeOf204
 v53:=Tryz.zeroValue204
 t146:=underlying233
 a146:=Tryz.isAgg233
 z146:=sizeOf233
 v146:=Tryz.zeroValue233
 t148:=underlying235
 a148:=Tryz.isAgg235
 z148:=sizeOf235
 v148:=Tryz.zeroValue235}
end Go.Proofs
