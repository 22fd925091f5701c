/- A part of the proof. -/
import Derived.Shelf.SortM.Plain
import Derived.Shelf.SortM.SortNone
import Derived.Shelf.SlGeneric
import Derived.Shelf.Small.Bits
import Derived.Shelf.SlicesE.Clone
import Derived.Ground.SlgmProg
import Derived.Ground.SlgnProg
import Derived.Ground.NamesProg
import Derived.Test.YtamgmpngdmnadaaGreatJ7
set_option linter.defProp false
namespace Go.Proofs
open Tryz
open Go.Shelf
def Tryz.sortA_ren:Go.Shelf.Ren:=⟨λ | 5=>98 | 8=>183 | 7=>182 | 19=>245 | 20=>246 | 10=>236 | 11=>237 | 12=>238 | 13=>239 | 14=>240 | 15=>241 | 16=>242 | 17=>243 | 18=>244 | 30=>273 | 31=>274 | 32=>275 | 33=>276 | 34=>277 | 35=>261 | 40=>298 | n=>n,λ | 23=>26 | 25=>3 | 3=>3 | 32=>190 | 22=>26 | 0=>0 | 44=>169 | 46=>204 | 4=>4 | 36=>253 | 35=>252 | 41=>150 | 5=>5 | 9=>9 | 53=>277 | 57=>281 | 63=>296 | 64=>297 | n=>n,λ | n=>n⟩
def Tryz.sortA:Go.Proofs.SlLaysM.n5 prog Tryz.sortA_ren:={
 mixed:=by kernel_rfl
 f5:=⟨Tryz.f98.name,by decide,func98.trans (xbr some (by kernel_rfl))⟩
 f7:=⟨Tryz.f182.name,by decide,func182.trans (xbr some (by kernel_rfl))⟩
 f8:=func183.trans (xbr some (by kernel_rfl))
 f10:=⟨Tryz.f236.name,by decide,func236.trans (xbr some (by kernel_rfl))⟩
 f11:=⟨Tryz.f237.name,by decide,func237.trans (xbr some (by kernel_rfl))⟩
 f12:=⟨Tryz.f238.name,by decide,func238.trans (xbr some (by kernel_rfl))⟩
 f13:=⟨Tryz.f239.name,by decide,func239.trans (xbr some (by kernel_rfl))⟩
 f14:=⟨Tryz.f240.name,by decide,func240.trans (xbr some (by kernel_rfl))⟩
 f15:=⟨Tryz.f241.name,by decide,func241.trans (xbr some (by kernel_rfl))⟩
 f16:=⟨Tryz.f242.name,by decide,func242.trans (xbr some (by kernel_rfl))⟩
 f17:=⟨Tryz.f243.name,by decide,func243.trans (xbr some (by kernel_rfl))⟩
 f18:=⟨Tryz.f244.name,by decide,func244.trans (xbr some (by kernel_rfl))⟩
 f19:=func245.trans (xbr some (by kernel_rfl))
 f20:=func246.trans (xbr some (by kernel_rfl))
 f30:=⟨Tryz.f273.name,by decide,func273.trans (xbr some (by kernel_rfl))⟩
 f31:=func274.trans (xbr some (by kernel_rfl))
 f32:=func275.trans (xbr some (by kernel_rfl))
 f33:=⟨Tryz.f276.name,by decide,func276.trans (xbr some (by kernel_rfl))⟩
 f34:=⟨Tryz.f277.name,by decide,func277.trans (xbr some (by kernel_rfl))⟩
 f35:=⟨Tryz.f261.name,by decide,func261.trans (xbr some (by kernel_rfl))⟩
 f40:=⟨Tryz.f298.name,by decide,func298.trans (xbr some (by kernel_rfl))⟩
 t0:=underlying0
 a0:=Tryz.isAgg0
 z0:=sizeOf0
 v0:=Tryz.zeroValue0
 t3:=underlying3
 a3:=Tryz.isAgg3
 z3:=sizeOf3
 v3:=Tryz.zeroValue3
 t4:=underlying4
 a4:=Tryz.isAgg4
 z4:=sizeOf4
 v4:=Tryz.zeroValue4
 t5:=underlying5
 a5:=Tryz.isAgg5
 z5:=sizeOf5
 v5:=Tryz.zeroValue5
 t9:=underlying9
 a9:=Tryz.isAgg9
 z9:=sizeOf9
 v9:=Tryz.zeroValue9
 t22:=underlying26
 a22:=Tryz.isAgg26
 z22:=sizeOf26
 v22:=Tryz.zeroValue26
 t23:=underlying26
 a23:=Tryz.isAgg26
 z23:=sizeOf26
 v23:=Tryz.zeroValue26
 t25:=underlying3
 a25:=Tryz.isAgg3
 z25:=sizeOf3
 v25:=Tryz.zeroValue3
 t32:=underlying190
 a32:=Tryz.isAgg190
 z32:=sizeOf190
 v32:=Tryz.zeroValue190
 t35:=underlying252
 a35:=Tryz.isAgg252
 z35:=sizeOf252
 v35:=Tryz.zeroValue252
 t36:=underlying253
 a36:=Tryz.isAgg253
 z36:=sizeOf253
 v36:=Tryz.zeroValue253
 t41:=underlying150
 a41:=Tryz.isAgg150
 z41:=sizeOf150
 v41:=Tryz.zeroValue150
 t44:=underlying169
 a44:=Tryz.isAgg169
 z44:=sizeOf169
 v44:=Tryz.zeroValue169
 t46:=underlying204
 a46:=Tryz.isAgg204
 z46:=sizeOf204
 v46:=Tryz.zeroValue204
 t53:=underlying277
 a53:=Tryz.isAgg277
 z53:=sizeOf277
 v53:=Tryz.zeroValue277
 t57:=underlying281
 a57:=Tryz.isAgg281
 z57:=sizeOf281
 v57:=Tryz.zeroValue281
 t63:=underlying296
 a63:=Tryz.isAgg296
 z63:=sizeOf296
 v63:=Tryz.zeroValue296
 t64:=underlying297
 a64:=Tryz.isAgg297
 z64:=sizeOf297
 v64:=Tryz.zeroValue297}
def Tryz.cloneN_ren:Go.Shelf.Ren:=⟨λ | 41=>228 | n=>n,λ | 22=>99 | 23=>169 | 4=>4 | n=>n,λ | n=>n⟩
def Tryz.cloneN:Go.Proofs.SlLaysE0.n41 prog Tryz.cloneN_ren:={
 mixed:=by kernel_rfl
 f41:=⟨Tryz.f228.name,by decide,func228.trans (xbr some (by kernel_rfl))⟩
 t4:=underlying4
 a4:=Tryz.isAgg4
 z4:=sizeOf4
 v4:=Tryz.zeroValue4
 t22:=underlying99
 a22:=Tryz.isAgg99
 z22:=sizeOf99
 v22:=Tryz.zeroValue99}
def Tryz.cloneI_ren:Go.Shelf.Ren:=⟨λ | 41=>78 | n=>n,λ | 22=>26 | 23=>3 | 4=>4 | n=>n,λ | n=>n⟩
def Tryz.cloneI:Go.Proofs.SlLaysE0.n41 prog Tryz.cloneI_ren:={
 mixed:=by kernel_rfl
 f41:=⟨Tryz.f78.name,by decide,func78.trans (xbr some (by kernel_rfl))⟩
 t4:=underlying4
 a4:=Tryz.isAgg4
 z4:=sizeOf4
 v4:=Tryz.zeroValue4
 t22:=underlying26
 a22:=Tryz.isAgg26
 z22:=sizeOf26
 v22:=Tryz.zeroValue26}
def Tryz.len32_ren:Go.Shelf.Ren:=⟨λ | 128=>245 | n=>n,λ | 51=>169 | 3=>3 | 4=>4 | 46=>190 | 5=>5 | 9=>9 | n=>n,λ | n=>n⟩
def Tryz.len32:Go.Proofs.Lays.n128 prog Tryz.len32_ren:={
 mixed:=by kernel_rfl
 f128:=func245.trans (xbr some (by kernel_rfl))
 t3:=underlying3
 a3:=Tryz.isAgg3
 z3:=sizeOf3
 v3:=Tryz.zeroValue3
 t4:=underlying4
 a4:=Tryz.isAgg4
 z4:=sizeOf4
 v4:=Tryz.zeroValue4
 t5:=underlying5
 a5:=Tryz.isAgg5
 z5:=sizeOf5
 v5:=Tryz.zeroValue5
 t9:=underlying9
 a9:=Tryz.isAgg9
 z9:=sizeOf9
 v9:=Tryz.zeroValue9
 t46:=underlying190
 a46:=Tryz.isAgg190
 z46:=sizeOf190
 v46:=Tryz.zeroValue190
 t51:=underlying169
 a51:=Tryz.isAgg169
 z51:=sizeOf169
 v51:=Tryz.zeroValue169}
def Tryz.len_ren:Go.Shelf.Ren:=⟨λ | 125=>183 | 128=>245 | 129=>246 | n=>n,λ | 46=>190 | 3=>3 | 51=>169 | 53=>204 | 4=>4 | 5=>5 | 9=>9 | n=>n,λ | n=>n⟩
def Tryz.len:Go.Proofs.Lays.n125 prog Tryz.len_ren:={
 mixed:=by kernel_rfl
 f125:=func183.trans (xbr some (by kernel_rfl))
 f128:=func245.trans (xbr some (by kernel_rfl))
 f129:=func246.trans (xbr some (by kernel_rfl))
 t3:=underlying3
 a3:=Tryz.isAgg3
 z3:=sizeOf3
 v3:=Tryz.zeroValue3
 t4:=underlying4
 a4:=Tryz.isAgg4
 z4:=sizeOf4
 v4:=Tryz.zeroValue4
 t5:=underlying5
 a5:=Tryz.isAgg5
 z5:=sizeOf5
 v5:=Tryz.zeroValue5
 t9:=underlying9
 a9:=Tryz.isAgg9
 z9:=sizeOf9
 v9:=Tryz.zeroValue9
 t46:=underlying190
 a46:=Tryz.isAgg190
 z46:=sizeOf190
 v46:=Tryz.zeroValue190
 t51:=underlying169
 a51:=Tryz.isAgg169
 z51:=sizeOf169
 v51:=Tryz.zeroValue169
 t53:=underlying204
 a53:=Tryz.isAgg204
 z53:=sizeOf204
 v53:=Tryz.zeroValue204}
end Go.Proofs
