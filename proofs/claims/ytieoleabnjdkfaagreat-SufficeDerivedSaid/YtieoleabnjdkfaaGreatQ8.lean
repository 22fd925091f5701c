/- Part 8 of what stands below the statement. -/
import Derived.Shelf.SortM.Plain
import Derived.Shelf.SortM.SortNone
import Derived.Shelf.SlGeneric
import Derived.Shelf.Small.Bits
import Derived.Shelf.SlicesE.Clone
import Derived.Ground.SlgmProg
import Derived.Ground.SlgnProg
import Derived.Ground.NamesProg
import Derived.Test.YtieoleabnjdkfaaGreatQ7
namespace Go.Proofs
open Go.Shelf
def Tryz.sortA_ren:Go.Shelf.Ren:=⟨fun | 5=>120 | 8=>68 | 7=>139 | 19=>101 | 20=>102 | 10=>143 | 11=>144 | 12=>145 | 13=>146 | 14=>147 | 15=>148 | 16=>149 | 17=>150 | 18=>151 | 30=>152 | 31=>123 | 32=>124 | 33=>153 | 34=>154 | 35=>103 | 40=>155 | n=>n,fun | 23=>26 | 25=>3 | 3=>3 | 32=>80 | 22=>26 | 0=>0 | 44=>135 | 46=>137 | 4=>4 | 36=>129 | 35=>128 | 41=>107 | 5=>5 | 9=>9 | 53=>146 | 57=>150 | 63=>159 | 64=>84 | n=>n,fun | n=>n⟩
theorem Tryz.sortA:Go.Proofs.SlLaysM.n5 Tryz.prog Tryz.sortA_ren:={
  mixed:=by kernel_rfl
  f5:=⟨Tryz.f120.name,by decide,Tryz.func120.trans (congrArg some (by kernel_rfl))⟩
  f7:=⟨Tryz.f139.name,by decide,Tryz.func139.trans (congrArg some (by kernel_rfl))⟩
  f8:=Tryz.func68.trans (congrArg some (by kernel_rfl))
  f10:=⟨Tryz.f143.name,by decide,Tryz.func143.trans (congrArg some (by kernel_rfl))⟩
  f11:=⟨Tryz.f144.name,by decide,Tryz.func144.trans (congrArg some (by kernel_rfl))⟩
  f12:=⟨Tryz.f145.name,by decide,Tryz.func145.trans (congrArg some (by kernel_rfl))⟩
  f13:=⟨Tryz.f146.name,by decide,Tryz.func146.trans (congrArg some (by kernel_rfl))⟩
  f14:=⟨Tryz.f147.name,by decide,Tryz.func147.trans (congrArg some (by kernel_rfl))⟩
  f15:=⟨Tryz.f148.name,by decide,Tryz.func148.trans (congrArg some (by kernel_rfl))⟩
  f16:=⟨Tryz.f149.name,by decide,Tryz.func149.trans (congrArg some (by kernel_rfl))⟩
  f17:=⟨Tryz.f150.name,by decide,Tryz.func150.trans (congrArg some (by kernel_rfl))⟩
  f18:=⟨Tryz.f151.name,by decide,Tryz.func151.trans (congrArg some (by kernel_rfl))⟩
  f19:=Tryz.func101.trans (congrArg some (by kernel_rfl))
  f20:=Tryz.func102.trans (congrArg some (by kernel_rfl))
  f30:=⟨Tryz.f152.name,by decide,Tryz.func152.trans (congrArg some (by kernel_rfl))⟩
  f31:=Tryz.func123.trans (congrArg some (by kernel_rfl))
  f32:=Tryz.func124.trans (congrArg some (by kernel_rfl))
  f33:=⟨Tryz.f153.name,by decide,Tryz.func153.trans (congrArg some (by kernel_rfl))⟩
  f34:=⟨Tryz.f154.name,by decide,Tryz.func154.trans (congrArg some (by kernel_rfl))⟩
  f35:=⟨Tryz.f103.name,by decide,Tryz.func103.trans (congrArg some (by kernel_rfl))⟩
  f40:=⟨Tryz.f155.name,by decide,Tryz.func155.trans (congrArg some (by kernel_rfl))⟩
  t0:=Tryz.underlying0
  a0:=Tryz.isAgg0
  z0:=Tryz.sizeOf0
  v0:=Tryz.zeroValue0
  t3:=Tryz.underlying3
  a3:=Tryz.isAgg3
  z3:=Tryz.sizeOf3
  v3:=Tryz.zeroValue3
  t4:=Tryz.underlying4
  a4:=Tryz.isAgg4
  z4:=Tryz.sizeOf4
  v4:=Tryz.zeroValue4
  t5:=Tryz.underlying5
  a5:=Tryz.isAgg5
  z5:=Tryz.sizeOf5
  v5:=Tryz.zeroValue5
  t9:=Tryz.underlying9
  a9:=Tryz.isAgg9
  z9:=Tryz.sizeOf9
  v9:=Tryz.zeroValue9
  t22:=Tryz.underlying26
  a22:=Tryz.isAgg26
  z22:=Tryz.sizeOf26
  v22:=Tryz.zeroValue26
  t23:=Tryz.underlying26
  a23:=Tryz.isAgg26
  z23:=Tryz.sizeOf26
  v23:=Tryz.zeroValue26
  t25:=Tryz.underlying3
  a25:=Tryz.isAgg3
  z25:=Tryz.sizeOf3
  v25:=Tryz.zeroValue3
  t32:=Tryz.underlying80
  a32:=Tryz.isAgg80
  z32:=Tryz.sizeOf80
  v32:=Tryz.zeroValue80
  t35:=Tryz.underlying128
  a35:=Tryz.isAgg128
  z35:=Tryz.sizeOf128
  v35:=Tryz.zeroValue128
  t36:=Tryz.underlying129
  a36:=Tryz.isAgg129
  z36:=Tryz.sizeOf129
  v36:=Tryz.zeroValue129
  t41:=Tryz.underlying107
  a41:=Tryz.isAgg107
  z41:=Tryz.sizeOf107
  v41:=Tryz.zeroValue107
  t44:=Tryz.underlying135
  a44:=Tryz.isAgg135
  z44:=Tryz.sizeOf135
  v44:=Tryz.zeroValue135
  t46:=Tryz.underlying137
  a46:=Tryz.isAgg137
  z46:=Tryz.sizeOf137
  v46:=Tryz.zeroValue137
  t53:=Tryz.underlying146
  a53:=Tryz.isAgg146
  z53:=Tryz.sizeOf146
  v53:=Tryz.zeroValue146
  t57:=Tryz.underlying150
  a57:=Tryz.isAgg150
  z57:=Tryz.sizeOf150
  v57:=Tryz.zeroValue150
  t63:=Tryz.underlying159
  a63:=Tryz.isAgg159
  z63:=Tryz.sizeOf159
  v63:=Tryz.zeroValue159
  t64:=Tryz.underlying84
  a64:=Tryz.isAgg84
  z64:=Tryz.sizeOf84
  v64:=Tryz.zeroValue84 }
end Go.Proofs
