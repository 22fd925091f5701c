/- Part 8 of what stands below the statement. -/
import Derived.Shelf.SortM.Plain
import Derived.Shelf.SortM.SortNone
import Derived.Shelf.SlGeneric
import Derived.Shelf.Small.Bits
import Derived.Shelf.SlicesE.Clone
import Derived.Ground.SlgmProg
import Derived.Ground.SlgnProg
import Derived.Ground.NamesProg
import Derived.Test.YtfgjbkjddcjlfaaGreatS7
set_option linter.defProp false
namespace Go.Proofs
open Tryz
open Go.Shelf
def Tryz.sortA_ren:Go.Shelf.Ren:=⟨fun | 5=>125 | 8=>160 | 7=>159 | 19=>163 | 20=>189 | 10=>180 | 11=>181 | 12=>182 | 13=>183 | 14=>184 | 15=>185 | 16=>186 | 17=>187 | 18=>188 | 30=>202 | 31=>203 | 32=>204 | 33=>205 | 34=>206 | 35=>119 | 40=>211 | n=>n,fun | 23=>23 | 25=>3 | 3=>3 | 32=>127 | 22=>23 | 0=>0 | 44=>161 | 46=>145 | 4=>4 | 36=>207 | 35=>206 | 41=>153 | 5=>5 | 9=>9 | 53=>220 | 57=>224 | 63=>229 | 64=>110 | n=>n,fun | n=>n⟩
def Tryz.sortA:Go.Proofs.SlLaysM.n5 prog Tryz.sortA_ren:={
 mixed:=by kernel_rfl
 f5:=⟨Tryz.f125.name,by decide,func125.trans (xbx some (by kernel_rfl))⟩
 f7:=⟨Tryz.f159.name,by decide,func159.trans (xbx some (by kernel_rfl))⟩
 f8:=func160.trans (xbx some (by kernel_rfl))
 f10:=⟨Tryz.f180.name,by decide,func180.trans (xbx some (by kernel_rfl))⟩
 f11:=⟨Tryz.f181.name,by decide,func181.trans (xbx some (by kernel_rfl))⟩
 f12:=⟨Tryz.f182.name,by decide,func182.trans (xbx some (by kernel_rfl))⟩
 f13:=⟨Tryz.f183.name,by decide,func183.trans (xbx some (by kernel_rfl))⟩
 f14:=⟨Tryz.f184.name,by decide,func184.trans (xbx some (by kernel_rfl))⟩
 f15:=⟨Tryz.f185.name,by decide,func185.trans (xbx some (by kernel_rfl))⟩
 f16:=⟨Tryz.f186.name,by decide,func186.trans (xbx some (by kernel_rfl))⟩
 f17:=⟨Tryz.f187.name,by decide,func187.trans (xbx some (by kernel_rfl))⟩
 f18:=⟨Tryz.f188.name,by decide,func188.trans (xbx some (by kernel_rfl))⟩
 f19:=func163.trans (xbx some (by kernel_rfl))
 f20:=func189.trans (xbx some (by kernel_rfl))
 f30:=⟨Tryz.f202.name,by decide,func202.trans (xbx some (by kernel_rfl))⟩
 f31:=func203.trans (xbx some (by kernel_rfl))
 f32:=func204.trans (xbx some (by kernel_rfl))
 f33:=⟨Tryz.f205.name,by decide,func205.trans (xbx some (by kernel_rfl))⟩
 f34:=⟨Tryz.f206.name,by decide,func206.trans (xbx some (by kernel_rfl))⟩
 f35:=⟨Tryz.f119.name,by decide,func119.trans (xbx some (by kernel_rfl))⟩
 f40:=⟨Tryz.f211.name,by decide,func211.trans (xbx some (by kernel_rfl))⟩
 t0:=underlying0
 a0:=Tryz.isAgg0
 z0:=sizeOf0
 v0:=Tryz.zeroValue0
 t3:=underlying3
 a3:=Tryz.isAgg3
 z3:=sizeOf3
 v3:=Tryz.zeroValue3
 t4:=underlying4
 a4:=Tryz.isAgg4
 z4:=sizeOf4
 v4:=Tryz.zeroValue4
 t5:=underlying5
 a5:=Tryz.isAgg5
 z5:=sizeOf5
 v5:=Tryz.zeroValue5
 t9:=underlying9
 a9:=Tryz.isAgg9
 z9:=sizeOf9
 v9:=Tryz.zeroValue9
 t22:=underlying23
 a22:=Tryz.isAgg23
 z22:=sizeOf23
 v22:=Tryz.zeroValue23
 t23:=underlying23
 a23:=Tryz.isAgg23
 z23:=sizeOf23
 v23:=Tryz.zeroValue23
 t25:=underlying3
 a25:=Tryz.isAgg3
 z25:=sizeOf3
 v25:=Tryz.zeroValue3
 t32:=underlying127
 a32:=Tryz.isAgg127
 z32:=sizeOf127
 v32:=Tryz.zeroValue127
 t35:=underlying206
 a35:=Tryz.isAgg206
 z35:=sizeOf206
 v35:=Tryz.zeroValue206
 t36:=underlying207
 a36:=Tryz.isAgg207
 z36:=sizeOf207
 v36:=Tryz.zeroValue207
 t41:=underlying153
 a41:=Tryz.isAgg153
 z41:=sizeOf153
 v41:=Tryz.zeroValue153
 t44:=underlying161
 a44:=Tryz.isAgg161
 z44:=sizeOf161
 v44:=Tryz.zeroValue161
 t46:=underlying145
 a46:=Tryz.isAgg145
 z46:=sizeOf145
 v46:=Tryz.zeroValue145
 t53:=underlying220
 a53:=Tryz.isAgg220
 z53:=sizeOf220
 v53:=Tryz.zeroValue220
 t57:=underlying224
 a57:=Tryz.isAgg224
 z57:=sizeOf224
 v57:=Tryz.zeroValue224
 t63:=underlying229
 a63:=Tryz.isAgg229
 z63:=sizeOf229
 v63:=Tryz.zeroValue229
 t64:=underlying110
 a64:=Tryz.isAgg110
 z64:=sizeOf110
 v64:=Tryz.zeroValue110}
def Tryz.cloneN_ren:Go.Shelf.Ren:=⟨fun | 41=>137 | n=>n,fun | 22=>83 | 23=>161 | 4=>4 | n=>n,fun | n=>n⟩
def Tryz.cloneN:Go.Proofs.SlLaysE0.n41 prog Tryz.cloneN_ren:={
 mixed:=by kernel_rfl
 f41:=⟨Tryz.f137.name,by decide,func137.trans (xbx some (by kernel_rfl))⟩
 t4:=underlying4
 a4:=Tryz.isAgg4
 z4:=sizeOf4
 v4:=Tryz.zeroValue4
 t22:=underlying83
 a22:=Tryz.isAgg83
 z22:=sizeOf83
 v22:=Tryz.zeroValue83}
def Tryz.cloneI_ren:Go.Shelf.Ren:=⟨fun | 41=>145 | n=>n,fun | 22=>23 | 23=>3 | 4=>4 | n=>n,fun | n=>n⟩
def Tryz.cloneI:Go.Proofs.SlLaysE0.n41 prog Tryz.cloneI_ren:={
 mixed:=by kernel_rfl
 f41:=⟨Tryz.f145.name,by decide,func145.trans (xbx some (by kernel_rfl))⟩
 t4:=underlying4
 a4:=Tryz.isAgg4
 z4:=sizeOf4
 v4:=Tryz.zeroValue4
 t22:=underlying23
 a22:=Tryz.isAgg23
 z22:=sizeOf23
 v22:=Tryz.zeroValue23}
def Tryz.len32_ren:Go.Shelf.Ren:=⟨fun | 128=>163 | n=>n,fun | 51=>161 | 3=>3 | 4=>4 | 46=>127 | 5=>5 | 9=>9 | n=>n,fun | n=>n⟩
def Tryz.len32:Go.Proofs.Lays.n128 prog Tryz.len32_ren:={
 mixed:=by kernel_rfl
 f128:=func163.trans (xbx some (by kernel_rfl))
 t3:=underlying3
 a3:=Tryz.isAgg3
 z3:=sizeOf3
 v3:=Tryz.zeroValue3
 t4:=underlying4
 a4:=Tryz.isAgg4
 z4:=sizeOf4
 v4:=Tryz.zeroValue4
 t5:=underlying5
 a5:=Tryz.isAgg5
 z5:=sizeOf5
 v5:=Tryz.zeroValue5
 t9:=underlying9
 a9:=Tryz.isAgg9
 z9:=sizeOf9
 v9:=Tryz.zeroValue9
 t46:=underlying127
 a46:=Tryz.isAgg127
 z46:=sizeOf127
 v46:=Tryz.zeroValue127
 t51:=underlying161
 a51:=Tryz.isAgg161
 z51:=sizeOf161
 v51:=Tryz.zeroValue161}
def Tryz.len_ren:Go.Shelf.Ren:=⟨fun | 125=>160 | 128=>163 | 129=>189 | n=>n,fun | 46=>127 | 3=>3 | 51=>161 | 53=>145 | 4=>4 | 5=>5 | 9=>9 | n=>n,fun | n=>n⟩
def Tryz.len:Go.Proofs.Lays.n125 prog Tryz.len_ren:={
 mixed:=by kernel_rfl
 f125:=func160.trans (xbx some (by kernel_rfl))
 f128:=func163.trans (xbx some (by kernel_rfl))
 f129:=func189.trans (xbx some (by kernel_rfl))
 t3:=underlying3
 a3:=Tryz.isAgg3
 z3:=sizeOf3
 v3:=Tryz.zeroValue3
 t4:=underlying4
 a4:=Tryz.isAgg4
 z4:=sizeOf4
 v4:=Tryz.zeroValue4
 t5:=underlying5
 a5:=Tryz.isAgg5
 z5:=sizeOf5
 v5:=Tryz.zeroValue5
 t9:=underlying9
 a9:=Tryz.isAgg9
 z9:=sizeOf9
 v9:=Tryz.zeroValue9
 t46:=underlying127
 a46:=Tryz.isAgg127
 z46:=sizeOf127
 v46:=Tryz.zeroValue127
 t51:=underlying161
 a51:=Tryz.isAgg161
 z51:=sizeOf161
 v51:=Tryz.zeroValue161
 t53:=underlying145
 a53:=Tryz.isAgg145
 z53:=sizeOf145
 v53:=Tryz.zeroValue145}
end Go.Proofs
