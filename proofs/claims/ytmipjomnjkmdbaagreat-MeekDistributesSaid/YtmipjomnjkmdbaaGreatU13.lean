/- Part 13 of what stands below the statement. -/
import Derived.Shelf.Bits.Mul64
import Derived.Test.YtmipjomnjkmdbaaGreatU12
namespace Go.Proofs
open Go.Shelf
def Tryz.mul_ren:Go.Shelf.Ren:=⟨fun | 212=>156 | 263=>192 | 264=>193 | n=>n,fun | 46=>124 | 51=>146 | 146=>195 | 53=>120 | 148=>197 | n=>n,fun | n=>n⟩
theorem Tryz.mul:Go.Proofs.Lays.n212 Tryz.prog Tryz.mul_ren:={
 mixed:=by kernel_rfl
 f212:=Tryz.func156.trans (xbe some (by kernel_rfl))
 f263:=Tryz.func192.trans (xbe some (by kernel_rfl))
 f264:=Tryz.func193.trans (xbe some (by kernel_rfl))
 t46:=Tryz.underlying124
 a46:=Tryz.isAgg124
 z46:=Tryz.sizeOf124
 v46:=Tryz.zeroValue124
 t51:=Tryz.underlying146
 a51:=Tryz.isAgg146
 z51:=Tryz.sizeOf146
 v51:=Tryz.zeroValue146
 t53:=Tryz.underlying120
 a53:=Tryz.isAgg120
 z53:=Tryz.sizeOf120
 v53:=Tryz.zeroValue120
 t146:=Tryz.underlying195
 a146:=Tryz.isAgg195
 z146:=Tryz.sizeOf195
 v146:=Tryz.zeroValue195
 t148:=Tryz.underlying197
 a148:=Tryz.isAgg197
 z148:=Tryz.sizeOf197
 v148:=Tryz.zeroValue197}
end Go.Proofs
