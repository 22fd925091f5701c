/- Part 10 of what stands below the statement. -/
import Derived.Shelf.SortM.Plain
import Derived.Shelf.SortM.SortNone
import Derived.Shelf.SlGeneric
import Derived.Shelf.Small.Bits
import Derived.Shelf.SlicesE.Clone
import Derived.Ground.SlgmProg
import Derived.Ground.SlgnProg
import Derived.Ground.NamesProg
import Derived.Test.YtieoleabnjdkfaaR9
namespace Go.Proofs
open Go.Shelf
def Try.sortA_ren:Go.Shelf.Ren:=⟨fun | 5=>83 | 8=>48 | 7=>94 | 19=>74 | 20=>75 | 10=>96 | 11=>97 | 12=>98 | 13=>99 | 14=>100 | 15=>101 | 16=>102 | 17=>103 | 18=>104 | 30=>105 | 31=>86 | 32=>87 | 33=>106 | 34=>107 | 35=>76 | 40=>108 | n=>n,fun | 23=>27 | 25=>3 | 3=>3 | 32=>89 | 22=>27 | 0=>0 | 44=>113 | 46=>115 | 4=>4 | 36=>107 | 35=>106 | 41=>81 | 5=>5 | 9=>9 | 53=>123 | 57=>127 | 63=>133 | 64=>96 | n=>n,fun | n=>n⟩
theorem Try.sortA:Go.Proofs.SlLaysM.n5 Try.prog Try.sortA_ren:={
  mixed:=by kernel_rfl
  f5:=⟨Try.f83.name,by decide,Try.func83.trans (congrArg some (by kernel_rfl))⟩
  f7:=⟨Try.f94.name,by decide,Try.func94.trans (congrArg some (by kernel_rfl))⟩
  f8:=Try.func48.trans (congrArg some (by kernel_rfl))
  f10:=⟨Try.f96.name,by decide,Try.func96.trans (congrArg some (by kernel_rfl))⟩
  f11:=⟨Try.f97.name,by decide,Try.func97.trans (congrArg some (by kernel_rfl))⟩
  f12:=⟨Try.f98.name,by decide,Try.func98.trans (congrArg some (by kernel_rfl))⟩
  f13:=⟨Try.f99.name,by decide,Try.func99.trans (congrArg some (by kernel_rfl))⟩
  f14:=⟨Try.f100.name,by decide,Try.func100.trans (congrArg some (by kernel_rfl))⟩
  f15:=⟨Try.f101.name,by decide,Try.func101.trans (congrArg some (by kernel_rfl))⟩
  f16:=⟨Try.f102.name,by decide,Try.func102.trans (congrArg some (by kernel_rfl))⟩
  f17:=⟨Try.f103.name,by decide,Try.func103.trans (congrArg some (by kernel_rfl))⟩
  f18:=⟨Try.f104.name,by decide,Try.func104.trans (congrArg some (by kernel_rfl))⟩
  f19:=Try.func74.trans (congrArg some (by kernel_rfl))
  f20:=Try.func75.trans (congrArg some (by kernel_rfl))
  f30:=⟨Try.f105.name,by decide,Try.func105.trans (congrArg some (by kernel_rfl))⟩
  f31:=Try.func86.trans (congrArg some (by kernel_rfl))
  f32:=Try.func87.trans (congrArg some (by kernel_rfl))
  f33:=⟨Try.f106.name,by decide,Try.func106.trans (congrArg some (by kernel_rfl))⟩
  f34:=⟨Try.f107.name,by decide,Try.func107.trans (congrArg some (by kernel_rfl))⟩
  f35:=⟨Try.f76.name,by decide,Try.func76.trans (congrArg some (by kernel_rfl))⟩
  f40:=⟨Try.f108.name,by decide,Try.func108.trans (congrArg some (by kernel_rfl))⟩
  t0:=Try.underlying0
  a0:=Try.isAgg0
  z0:=Try.sizeOf0
  v0:=Try.zeroValue0
  t3:=Try.underlying3
  a3:=Try.isAgg3
  z3:=Try.sizeOf3
  v3:=Try.zeroValue3
  t4:=Try.underlying4
  a4:=Try.isAgg4
  z4:=Try.sizeOf4
  v4:=Try.zeroValue4
  t5:=Try.underlying5
  a5:=Try.isAgg5
  z5:=Try.sizeOf5
  v5:=Try.zeroValue5
  t9:=Try.underlying9
  a9:=Try.isAgg9
  z9:=Try.sizeOf9
  v9:=Try.zeroValue9
  t22:=Try.underlying27
  a22:=Try.isAgg27
  z22:=Try.sizeOf27
  v22:=Try.zeroValue27
  t23:=Try.underlying27
  a23:=Try.isAgg27
  z23:=Try.sizeOf27
  v23:=Try.zeroValue27
  t25:=Try.underlying3
  a25:=Try.isAgg3
  z25:=Try.sizeOf3
  v25:=Try.zeroValue3
  t32:=Try.underlying89
  a32:=Try.isAgg89
  z32:=Try.sizeOf89
  v32:=Try.zeroValue89
  t35:=Try.underlying106
  a35:=Try.isAgg106
  z35:=Try.sizeOf106
  v35:=Try.zeroValue106
  t36:=Try.underlying107
  a36:=Try.isAgg107
  z36:=Try.sizeOf107
  v36:=Try.zeroValue107
  t41:=Try.underlying81
  a41:=Try.isAgg81
  z41:=Try.sizeOf81
  v41:=Try.zeroValue81
  t44:=Try.underlying113
  a44:=Try.isAgg113
  z44:=Try.sizeOf113
  v44:=Try.zeroValue113
  t46:=Try.underlying115
  a46:=Try.isAgg115
  z46:=Try.sizeOf115
  v46:=Try.zeroValue115
  t53:=Try.underlying123
  a53:=Try.isAgg123
  z53:=Try.sizeOf123
  v53:=Try.zeroValue123
  t57:=Try.underlying127
  a57:=Try.isAgg127
  z57:=Try.sizeOf127
  v57:=Try.zeroValue127
  t63:=Try.underlying133
  a63:=Try.isAgg133
  z63:=Try.sizeOf133
  v63:=Try.zeroValue133
  t64:=Try.underlying96
  a64:=Try.isAgg96
  z64:=Try.sizeOf96
  v64:=Try.zeroValue96 }
end Go.Proofs
