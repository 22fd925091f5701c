/- Part 11 of what stands below the statement. -/
import Derived.Shelf.Bits.Mul64
import Derived.Test.YtfgjbkjddcjlfaaGreatS10
set_option linter.defProp false
namespace Go.Proofs
open Tryz
open Go.Shelf
def Tryz.mul_ren:Go.Shelf.Ren:=⟨fun | 212=>79 | 263=>122 | 264=>123 | n=>n,fun | 46=>127 | 51=>161 | 146=>162 | 53=>145 | 148=>164 | n=>n,fun | n=>n⟩
def Tryz.mul:Go.Proofs.Lays.n212 prog Tryz.mul_ren:={
 mixed:=by kernel_rfl
 f212:=func79.trans (xbx some (by kernel_rfl))
 f263:=func122.trans (xbx some (by kernel_rfl))
 f264:=func123.trans (xbx some (by kernel_rfl))
 t46:=underlying127
 a46:=Tryz.isAgg127
 z46:=sizeOf127
 v46:=Tryz.zeroValue127
 t51:=underlying161
 a51:=Tryz.isAgg161
 z51:=sizeOf161
 v51:=Tryz.zeroValue161
 t53:=underlying145
 a53:=Tryz.isAgg145
 z53:=sizeOf145
 v53:=Tryz.zeroValue145
 t146:=underlying162
 a146:=Tryz.isAgg162
 z146:=sizeOf162
 v146:=Tryz.zeroValue162
 t148:=underlying164
 a148:=Tryz.isAgg164
 z148:=sizeOf164
 v148:=Tryz.zeroValue164}
end Go.Proofs
