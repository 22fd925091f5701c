/- Part 1 of what stands below the statement. -/
import Derived.Shelf.SortM.Plain
import Derived.Shelf.SortM.SortNone
import Derived.Shelf.SlGeneric
import Derived.Shelf.Small.Bits
import Derived.Shelf.SlicesE.Clone
import Derived.Ground.SlgmProg
import Derived.Ground.SlgnProg
import Derived.Ground.NamesProg
import Derived.Test.YtmipjomnjkmdbaaGreatProg
namespace Go.Proofs
open Go.Shelf
def Tryz.sortA_ren:Go.Shelf.Ren:=⟨fun | 5=>174 | 8=>208 | 7=>207 | 19=>200 | 20=>227 | 10=>218 | 11=>219 | 12=>220 | 13=>221 | 14=>222 | 15=>223 | 16=>224 | 17=>225 | 18=>226 | 30=>236 | 31=>237 | 32=>238 | 33=>239 | 34=>240 | 35=>215 | 40=>244 | n=>n,fun | 23=>26 | 25=>3 | 3=>3 | 32=>124 | 22=>26 | 0=>0 | 44=>146 | 46=>120 | 4=>4 | 36=>218 | 35=>217 | 41=>88 | 5=>5 | 9=>9 | 53=>229 | 57=>233 | 63=>237 | 64=>238 | n=>n,fun | n=>n⟩
theorem Tryz.sortA:Go.Proofs.SlLaysM.n5 Tryz.prog Tryz.sortA_ren:={
  mixed:=by kernel_rfl
  f5:=⟨Tryz.f174.name,by decide,Tryz.func174.trans (congrArg some (by kernel_rfl))⟩
  f7:=⟨Tryz.f207.name,by decide,Tryz.func207.trans (congrArg some (by kernel_rfl))⟩
  f8:=Tryz.func208.trans (congrArg some (by kernel_rfl))
  f10:=⟨Tryz.f218.name,by decide,Tryz.func218.trans (congrArg some (by kernel_rfl))⟩
  f11:=⟨Tryz.f219.name,by decide,Tryz.func219.trans (congrArg some (by kernel_rfl))⟩
  f12:=⟨Tryz.f220.name,by decide,Tryz.func220.trans (congrArg some (by kernel_rfl))⟩
  f13:=⟨Tryz.f221.name,by decide,Tryz.func221.trans (congrArg some (by kernel_rfl))⟩
  f14:=⟨Tryz.f222.name,by decide,Tryz.func222.trans (congrArg some (by kernel_rfl))⟩
  f15:=⟨Tryz.f223.name,by decide,Tryz.func223.trans (congrArg some (by kernel_rfl))⟩
  f16:=⟨Tryz.f224.name,by decide,Tryz.func224.trans (congrArg some (by kernel_rfl))⟩
  f17:=⟨Tryz.f225.name,by decide,Tryz.func225.trans (congrArg some (by kernel_rfl))⟩
  f18:=⟨Tryz.f226.name,by decide,Tryz.func226.trans (congrArg some (by kernel_rfl))⟩
  f19:=Tryz.func200.trans (congrArg some (by kernel_rfl))
  f20:=Tryz.func227.trans (congrArg some (by kernel_rfl))
  f30:=⟨Tryz.f236.name,by decide,Tryz.func236.trans (congrArg some (by kernel_rfl))⟩
  f31:=Tryz.func237.trans (congrArg some (by kernel_rfl))
  f32:=Tryz.func238.trans (congrArg some (by kernel_rfl))
  f33:=⟨Tryz.f239.name,by decide,Tryz.func239.trans (congrArg some (by kernel_rfl))⟩
  f34:=⟨Tryz.f240.name,by decide,Tryz.func240.trans (congrArg some (by kernel_rfl))⟩
  f35:=⟨Tryz.f215.name,by decide,Tryz.func215.trans (congrArg some (by kernel_rfl))⟩
  f40:=⟨Tryz.f244.name,by decide,Tryz.func244.trans (congrArg some (by kernel_rfl))⟩
  t0:=Tryz.underlying0
  a0:=Tryz.isAgg0
  z0:=Tryz.sizeOf0
  v0:=Tryz.zeroValue0
  t3:=Tryz.underlying3
  a3:=Tryz.isAgg3
  z3:=Tryz.sizeOf3
  v3:=Tryz.zeroValue3
  t4:=Tryz.underlying4
  a4:=Tryz.isAgg4
  z4:=Tryz.sizeOf4
  v4:=Tryz.zeroValue4
  t5:=Tryz.underlying5
  a5:=Tryz.isAgg5
  z5:=Tryz.sizeOf5
  v5:=Tryz.zeroValue5
  t9:=Tryz.underlying9
  a9:=Tryz.isAgg9
  z9:=Tryz.sizeOf9
  v9:=Tryz.zeroValue9
  t22:=Tryz.underlying26
  a22:=Tryz.isAgg26
  z22:=Tryz.sizeOf26
  v22:=Tryz.zeroValue26
  t23:=Tryz.underlying26
  a23:=Tryz.isAgg26
  z23:=Tryz.sizeOf26
  v23:=Tryz.zeroValue26
  t25:=Tryz.underlying3
  a25:=Tryz.isAgg3
  z25:=Tryz.sizeOf3
  v25:=Tryz.zeroValue3
  t32:=Tryz.underlying124
  a32:=Tryz.isAgg124
  z32:=Tryz.sizeOf124
  v32:=Tryz.zeroValue124
  t35:=Tryz.underlying217
  a35:=Tryz.isAgg217
  z35:=Tryz.sizeOf217
  v35:=Tryz.zeroValue217
  t36:=Tryz.underlying218
  a36:=Tryz.isAgg218
  z36:=Tryz.sizeOf218
  v36:=Tryz.zeroValue218
  t41:=Tryz.underlying88
  a41:=Tryz.isAgg88
  z41:=Tryz.sizeOf88
  v41:=Tryz.zeroValue88
  t44:=Tryz.underlying146
  a44:=Tryz.isAgg146
  z44:=Tryz.sizeOf146
  v44:=Tryz.zeroValue146
  t46:=Tryz.underlying120
  a46:=Tryz.isAgg120
  z46:=Tryz.sizeOf120
  v46:=Tryz.zeroValue120
  t53:=Tryz.underlying229
  a53:=Tryz.isAgg229
  z53:=Tryz.sizeOf229
  v53:=Tryz.zeroValue229
  t57:=Tryz.underlying233
  a57:=Tryz.isAgg233
  z57:=Tryz.sizeOf233
  v57:=Tryz.zeroValue233
  t63:=Tryz.underlying237
  a63:=Tryz.isAgg237
  z63:=Tryz.sizeOf237
  v63:=Tryz.zeroValue237
  t64:=Tryz.underlying238
  a64:=Tryz.isAgg238
  z64:=Tryz.sizeOf238
  v64:=Tryz.zeroValue238 }
def Tryz.cloneN_ren:Go.Shelf.Ren:=⟨fun | 41=>173 | n=>n,fun | 22=>55 | 23=>146 | 4=>4 | n=>n,fun | n=>n⟩
theorem Tryz.cloneN:Go.Proofs.SlLaysE0.n41 Tryz.prog Tryz.cloneN_ren:={
  mixed:=by kernel_rfl
  f41:=⟨Tryz.f173.name,by decide,Tryz.func173.trans (congrArg some (by kernel_rfl))⟩
  t4:=Tryz.underlying4
  a4:=Tryz.isAgg4
  z4:=Tryz.sizeOf4
  v4:=Tryz.zeroValue4
  t22:=Tryz.underlying55
  a22:=Tryz.isAgg55
  z22:=Tryz.sizeOf55
  v22:=Tryz.zeroValue55 }
def Tryz.cloneI_ren:Go.Shelf.Ren:=⟨fun | 41=>186 | n=>n,fun | 22=>26 | 23=>3 | 4=>4 | n=>n,fun | n=>n⟩
theorem Tryz.cloneI:Go.Proofs.SlLaysE0.n41 Tryz.prog Tryz.cloneI_ren:={
  mixed:=by kernel_rfl
  f41:=⟨Tryz.f186.name,by decide,Tryz.func186.trans (congrArg some (by kernel_rfl))⟩
  t4:=Tryz.underlying4
  a4:=Tryz.isAgg4
  z4:=Tryz.sizeOf4
  v4:=Tryz.zeroValue4
  t22:=Tryz.underlying26
  a22:=Tryz.isAgg26
  z22:=Tryz.sizeOf26
  v22:=Tryz.zeroValue26 }
def Tryz.len32_ren:Go.Shelf.Ren:=⟨fun | 128=>200 | n=>n,fun | 51=>146 | 3=>3 | 4=>4 | 46=>124 | 5=>5 | 9=>9 | n=>n,fun | n=>n⟩
theorem Tryz.len32:Go.Proofs.Lays.n128 Tryz.prog Tryz.len32_ren:={
  mixed:=by kernel_rfl
  f128:=Tryz.func200.trans (congrArg some (by kernel_rfl))
  t3:=Tryz.underlying3
  a3:=Tryz.isAgg3
  z3:=Tryz.sizeOf3
  v3:=Tryz.zeroValue3
  t4:=Tryz.underlying4
  a4:=Tryz.isAgg4
  z4:=Tryz.sizeOf4
  v4:=Tryz.zeroValue4
  t5:=Tryz.underlying5
  a5:=Tryz.isAgg5
  z5:=Tryz.sizeOf5
  v5:=Tryz.zeroValue5
  t9:=Tryz.underlying9
  a9:=Tryz.isAgg9
  z9:=Tryz.sizeOf9
  v9:=Tryz.zeroValue9
  t46:=Tryz.underlying124
  a46:=Tryz.isAgg124
  z46:=Tryz.sizeOf124
  v46:=Tryz.zeroValue124
  t51:=Tryz.underlying146
  a51:=Tryz.isAgg146
  z51:=Tryz.sizeOf146
  v51:=Tryz.zeroValue146 }
end Go.Proofs
