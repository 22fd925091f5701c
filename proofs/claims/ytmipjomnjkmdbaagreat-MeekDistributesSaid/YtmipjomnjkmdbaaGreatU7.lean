/- Part 7 of what stands below the statement. -/
import Derived.Shelf.SortM.Plain
import Derived.Shelf.SortM.SortNone
import Derived.Shelf.SlGeneric
import Derived.Shelf.Small.Bits
import Derived.Shelf.SlicesE.Clone
import Derived.Ground.SlgmProg
import Derived.Ground.SlgnProg
import Derived.Ground.NamesProg
import Derived.Test.YtmipjomnjkmdbaaGreatProg
import Derived.Test.YtmipjomnjkmdbaaGreatU6
namespace Go.Proofs
open Go.Shelf
def Tryz.sortA_ren:Go.Shelf.Ren:=⟨fun | 5=>174 | 8=>208 | 7=>207 | 19=>200 | 20=>227 | 10=>218 | 11=>219 | 12=>220 | 13=>221 | 14=>222 | 15=>223 | 16=>224 | 17=>225 | 18=>226 | 30=>236 | 31=>237 | 32=>238 | 33=>239 | 34=>240 | 35=>215 | 40=>244 | n=>n,fun | 23=>26 | 25=>3 | 3=>3 | 32=>124 | 22=>26 | 0=>0 | 44=>146 | 46=>120 | 4=>4 | 36=>218 | 35=>217 | 41=>88 | 5=>5 | 9=>9 | 53=>229 | 57=>233 | 63=>237 | 64=>238 | n=>n,fun | n=>n⟩
theorem Tryz.sortA:Go.Proofs.SlLaysM.n5 Tryz.prog Tryz.sortA_ren:={
 mixed:=by kernel_rfl
 f5:=⟨Tryz.f174.name,by decide,Tryz.func174.trans (xbe some (by kernel_rfl))⟩
 f7:=⟨Tryz.f207.name,by decide,Tryz.func207.trans (xbe some (by kernel_rfl))⟩
 f8:=Tryz.func208.trans (xbe some (by kernel_rfl))
 f10:=⟨Tryz.f218.name,by decide,Tryz.func218.trans (xbe some (by kernel_rfl))⟩
 f11:=⟨Tryz.f219.name,by decide,Tryz.func219.trans (xbe some (by kernel_rfl))⟩
 f12:=⟨Tryz.f220.name,by decide,Tryz.func220.trans (xbe some (by kernel_rfl))⟩
 f13:=⟨Tryz.f221.name,by decide,Tryz.func221.trans (xbe some (by kernel_rfl))⟩
 f14:=⟨Tryz.f222.name,by decide,Tryz.func222.trans (xbe some (by kernel_rfl))⟩
 f15:=⟨Tryz.f223.name,by decide,Tryz.func223.trans (xbe some (by kernel_rfl))⟩
 f16:=⟨Tryz.f224.name,by decide,Tryz.func224.trans (xbe some (by kernel_rfl))⟩
 f17:=⟨Tryz.f225.name,by decide,Tryz.func225.trans (xbe some (by kernel_rfl))⟩
 f18:=⟨Tryz.f226.name,by decide,Tryz.func226.trans (xbe some (by kernel_rfl))⟩
 f19:=Tryz.func200.trans (xbe some (by kernel_rfl))
 f20:=Tryz.func227.trans (xbe some (by kernel_rfl))
 f30:=⟨Tryz.f236.name,by decide,Tryz.func236.trans (xbe some (by kernel_rfl))⟩
 f31:=Tryz.func237.trans (xbe some (by kernel_rfl))
 f32:=Tryz.func238.trans (xbe some (by kernel_rfl))
 f33:=⟨Tryz.f239.name,by decide,Tryz.func239.trans (xbe some (by kernel_rfl))⟩
 f34:=⟨Tryz.f240.name,by decide,Tryz.func240.trans (xbe some (by kernel_rfl))⟩
 f35:=⟨Tryz.f215.name,by decide,Tryz.func215.trans (xbe some (by kernel_rfl))⟩
 f40:=⟨Tryz.f244.name,by decide,Tryz.func244.trans (xbe some (by kernel_rfl))⟩
 t0:=Tryz.underlying0
 a0:=Tryz.isAgg0
 z0:=Tryz.sizeOf0
 v0:=Tryz.zeroValue0
 t3:=Tryz.underlying3
 a3:=Tryz.isAgg3
 z3:=Tryz.sizeOf3
 v3:=Tryz.zeroValue3
 t4:=Tryz.underlying4
 a4:=Tryz.isAgg4
 z4:=Tryz.sizeOf4
 v4:=Tryz.zeroValue4
 t5:=Tryz.underlying5
 a5:=Tryz.isAgg5
 z5:=Tryz.sizeOf5
 v5:=Tryz.zeroValue5
 t9:=Tryz.underlying9
 a9:=Tryz.isAgg9
 z9:=Tryz.sizeOf9
 v9:=Tryz.zeroValue9
 t22:=Tryz.underlying26
 a22:=Tryz.isAgg26
 z22:=Tryz.sizeOf26
 v22:=Tryz.zeroValue26
 t23:=Tryz.underlying26
 a23:=Tryz.isAgg26
 z23:=Tryz.sizeOf26
 v23:=Tryz.zeroValue26
 t25:=Tryz.underlying3
 a25:=Tryz.isAgg3
 z25:=Tryz.sizeOf3
 v25:=Tryz.zeroValue3
 t32:=Tryz.underlying124
 a32:=Tryz.isAgg124
 z32:=Tryz.sizeOf124
 v32:=Tryz.zeroValue124
 t35:=Tryz.underlying217
 a35:=Tryz.isAgg217
 z35:=Tryz.sizeOf217
 v35:=Tryz.zeroValue217
 t36:=Tryz.underlying218
 a36:=Tryz.isAgg218
 z36:=Tryz.sizeOf218
 v36:=Tryz.zeroValue218
 t41:=Tryz.underlying88
 a41:=Tryz.isAgg88
 z41:=Tryz.sizeOf88
 v41:=Tryz.zeroValue88
 t44:=Tryz.underlying146
 a44:=Tryz.isAgg146
 z44:=Tryz.sizeOf146
 v44:=Tryz.zeroValue146
 t46:=Tryz.underlying120
 a46:=Tryz.isAgg120
 z46:=Tryz.sizeOf120
 v46:=Tryz.zeroValue120
 t53:=Tryz.underlying229
 a53:=Tryz.isAgg229
 z53:=Tryz.sizeOf229
 v53:=Tryz.zeroValue229
 t57:=Tryz.underlying233
 a57:=Tryz.isAgg233
 z57:=Tryz.sizeOf233
 v57:=Tryz.zeroValue233
 t63:=Tryz.underlying237
 a63:=Tryz.isAgg237
 z63:=Tryz.sizeOf237
 v63:=Tryz.zeroValue237
 t64:=Tryz.underlying238
 a64:=Tryz.isAgg238
 z64:=Tryz.sizeOf238
 v64:=Tryz.zeroValue238}
def Tryz.cloneN_ren:Go.Shelf.Ren:=⟨fun | 41=>173 | n=>n,fun | 22=>55 | 23=>146 | 4=>4 | n=>n,fun | n=>n⟩
theorem Tryz.cloneN:Go.Proofs.SlLaysE0.n41 Tryz.prog Tryz.cloneN_ren:={
 mixed:=by kernel_rfl
 f41:=⟨Tryz.f173.name,by decide,Tryz.func173.trans (xbe some (by kernel_rfl))⟩
 t4:=Tryz.underlying4
 a4:=Tryz.isAgg4
 z4:=Tryz.sizeOf4
 v4:=Tryz.zeroValue4
 t22:=Tryz.underlying55
 a22:=Tryz.isAgg55
 z22:=Tryz.sizeOf55
 v22:=Tryz.zeroValue55}
def Tryz.cloneI_ren:Go.Shelf.Ren:=⟨fun | 41=>186 | n=>n,fun | 22=>26 | 23=>3 | 4=>4 | n=>n,fun | n=>n⟩
theorem Tryz.cloneI:Go.Proofs.SlLaysE0.n41 Tryz.prog Tryz.cloneI_ren:={
 mixed:=by kernel_rfl
 f41:=⟨Tryz.f186.name,by decide,Tryz.func186.trans (xbe some (by kernel_rfl))⟩
 t4:=Tryz.underlying4
 a4:=Tryz.isAgg4
 z4:=Tryz.sizeOf4
 v4:=Tryz.zeroValue4
 t22:=Tryz.underlying26
 a22:=Tryz.isAgg26
 z22:=Tryz.sizeOf26
 v22:=Tryz.zeroValue26}
def Tryz.len32_ren:Go.Shelf.Ren:=⟨fun | 128=>200 | n=>n,fun | 51=>146 | 3=>3 | 4=>4 | 46=>124 | 5=>5 | 9=>9 | n=>n,fun | n=>n⟩
theorem Tryz.len32:Go.Proofs.Lays.n128 Tryz.prog Tryz.len32_ren:={
 mixed:=by kernel_rfl
 f128:=Tryz.func200.trans (xbe some (by kernel_rfl))
 t3:=Tryz.underlying3
 a3:=Tryz.isAgg3
 z3:=Tryz.sizeOf3
 v3:=Tryz.zeroValue3
 t4:=Tryz.underlying4
 a4:=Tryz.isAgg4
 z4:=Tryz.sizeOf4
 v4:=Tryz.zeroValue4
 t5:=Tryz.underlying5
 a5:=Tryz.isAgg5
 z5:=Tryz.sizeOf5
 v5:=Tryz.zeroValue5
 t9:=Tryz.underlying9
 a9:=Tryz.isAgg9
 z9:=Tryz.sizeOf9
 v9:=Tryz.zeroValue9
 t46:=Tryz.underlying124
 a46:=Tryz.isAgg124
 z46:=Tryz.sizeOf124
 v46:=Tryz.zeroValue124
 t51:=Tryz.underlying146
 a51:=Tryz.isAgg146
 z51:=Tryz.sizeOf146
 v51:=Tryz.zeroValue146}
def Tryz.len_ren:Go.Shelf.Ren:=⟨fun | 125=>208 | 128=>200 | 129=>227 | n=>n,fun | 46=>124 | 3=>3 | 51=>146 | 53=>120 | 4=>4 | 5=>5 | 9=>9 | n=>n,fun | n=>n⟩
theorem Tryz.len:Go.Proofs.Lays.n125 Tryz.prog Tryz.len_ren:={
 mixed:=by kernel_rfl
 f125:=Tryz.func208.trans (xbe some (by kernel_rfl))
 f128:=Tryz.func200.trans (xbe some (by kernel_rfl))
 f129:=Tryz.func227.trans (xbe some (by kernel_rfl))
 t3:=Tryz.underlying3
 a3:=Tryz.isAgg3
 z3:=Tryz.sizeOf3
 v3:=Tryz.zeroValue3
 t4:=Tryz.underlying4
 a4:=Tryz.isAgg4
 z4:=Tryz.sizeOf4
 v4:=Tryz.zeroValue4
 t5:=Tryz.underlying5
 a5:=Tryz.isAgg5
 z5:=Tryz.sizeOf5
 v5:=Tryz.zeroValue5
 t9:=Tryz.underlying9
 a9:=Tryz.isAgg9
 z9:=Tryz.sizeOf9
 v9:=Tryz.zeroValue9
 t46:=Tryz.underlying124
 a46:=Tryz.isAgg124
 z46:=Tryz.sizeOf124
 v46:=Tryz.zeroValue124
 t51:=Tryz.underlying146
 a51:=Tryz.isAgg146
 z51:=Tryz.sizeOf146
 v51:=Tryz.zeroValue146
 t53:=Tryz.underlying120
 a53:=Tryz.isAgg120
 z53:=Tryz.sizeOf120
 v53:=Tryz.zeroValue120}
end Go.Proofs
open Go Go.Proofs Go.X
namespace Go.Proofs.YtmipjomnjkmdbaaGreat
abbrev y2:Ty:=.int .i64
abbrev y3:Ty:=.int .i64
abbrev y4:Ty:=.bool
abbrev y5:Ty:=.int .u8
abbrev y6:Ty:=.int .u8
abbrev y7:Ty:=.pair y2 (.pair y3 (.pair y4 y6))
abbrev y8:Ty:=.pair y2 (.pair y3 (.pair y4 y6))
abbrev y9:Ty:=.str
abbrev y10:Ty:=.str
abbrev y11:Ty:=.str
abbrev y12:Ty:=.int .u64
abbrev y13:Ty:=.pair y9 y12
abbrev y14:Ty:=.pair y9 y12
abbrev y21:Ty:=.int .i32
abbrev y22:Ty:=.slice y9
abbrev y23:Ty:=.pair y9 (.pair y22 (.pair y3 (.pair y3 (.pair y3 (.pair y3 (.pair y3 (.pair y3 y3)))))))
abbrev y24:Ty:=.pair y9 (.pair y22 (.pair y3 (.pair y3 (.pair y3 (.pair y3 (.pair y3 (.pair y3 y3)))))))
abbrev y26:Ty:=.slice y3
abbrev y92:Ty:=.pair y26 y3
abbrev y25:Ty:=.slice y92
abbrev y27:Ty:=.slice y26
abbrev y146:Ty:=.int .u32
abbrev y55:Ty:=.slice y146
abbrev y57:Ty:=.pair y4 (.pair y55 y55)
abbrev y53:Ty:=.slice y57
abbrev y59:Ty:=.pair y53 (.pair y53 (.pair y57 (.pair y57 (.pair y57 (.pair y26 (.pair y26 y26))))))
abbrev y31:Ty:=.slice y59
abbrev y32:Ty:=.pair y3 (.pair y3 (.pair y3 (.pair y3 (.pair y31 y26))))
abbrev y33:Ty:=.pair y3 (.pair y3 (.pair y3 (.pair y3 (.pair y31 y26))))
abbrev y34:Ty:=.int .i64
abbrev y38:Ty:=.fn2 y3 y3 y3
abbrev y48:Ty:=.slice y4
abbrev y49:Ty:=.slice y4
abbrev y50:Ty:=.pair y4 (.pair y49 y49)
abbrev y51:Ty:=.pair y4 (.pair y49 y49)
abbrev y54:Ty:=.slice y146
abbrev y56:Ty:=.pair y4 (.pair y55 y55)
abbrev y58:Ty:=.pair y53 (.pair y53 (.pair y57 (.pair y57 (.pair y57 (.pair y26 (.pair y26 y26))))))
abbrev y91:Ty:=.pair y26 y3
abbrev y100:Ty:=.pair y26 (.pair y3 (.pair y3 y57))
abbrev y95:Ty:=.slice y100
abbrev y96:Ty:=.slice y53
abbrev y98:Ty:=.pair y24 (.pair y26 (.pair y3 (.pair y3 (.pair y95 (.pair y26 (.pair y53 (.pair y3 (.pair y96 y33))))))))
abbrev y94:Ty:=.ptr y98
abbrev y97:Ty:=.pair y24 (.pair y26 (.pair y3 (.pair y3 (.pair y95 (.pair y26 (.pair y53 (.pair y3 (.pair y96 y33))))))))
abbrev y99:Ty:=.pair y26 (.pair y3 (.pair y3 y57))
abbrev y104:Ty:=.slice y49
abbrev y105:Ty:=.pair y104 (.pair y49 y26)
abbrev y106:Ty:=.pair y104 (.pair y49 y26)
abbrev y120:Ty:=.int .u64
abbrev y124:Ty:=.int .u64
abbrev y128:Ty:=.fn1 y3 y4
abbrev y134:Ty:=.pair y24 (.pair y25 (.pair y26 (.pair y48 y96)))
abbrev y131:Ty:=.ptr y134
abbrev y133:Ty:=.pair y24 (.pair y25 (.pair y26 (.pair y48 y96)))
abbrev y142:Ty:=.pair y24 (.pair y25 (.pair y26 (.pair y3 (.pair y26 (.pair y26 (.pair y3 (.pair y96 (.pair y3 (.pair y3 y33)))))))))
abbrev y140:Ty:=.ptr y142
abbrev y141:Ty:=.pair y24 (.pair y25 (.pair y26 (.pair y3 (.pair y26 (.pair y26 (.pair y3 (.pair y96 (.pair y3 (.pair y3 y33)))))))))
abbrev y154:Ty:=.ptr y59
abbrev y159:Ty:=.slice y5
abbrev y200:Ty:=.arr 7 y4
abbrev y210:Ty:=.ptr y100
abbrev y217:Ty:=.int .i64
abbrev y229:Ty:=.int .u64
abbrev y233:Ty:=.ptr y3
abbrev y237:Ty:=.ptr y229
def i2:TyI:={k:=Go.X.TyK.int Go.IntKind.i64,size:=1,bytes:=8,zero:=Go.Value.int Go.IntKind.i64 (0),fa:=[],eqs:=false}
def i3:TyI:={k:=Go.X.TyK.int Go.IntKind.i64,size:=1,bytes:=8,zero:=Go.Value.int Go.IntKind.i64 (0),fa:=[],eqs:=false}
def i4:TyI:={k:=Go.X.TyK.bool,size:=1,bytes:=1,zero:=Go.Value.bool false,fa:=[],eqs:=false}
def i5:TyI:={k:=Go.X.TyK.int Go.IntKind.u8,size:=1,bytes:=1,zero:=Go.Value.int Go.IntKind.u8 (0),fa:=[],eqs:=false}
def i6:TyI:={k:=Go.X.TyK.int Go.IntKind.u8,size:=1,bytes:=1,zero:=Go.Value.int Go.IntKind.u8 (0),fa:=[],eqs:=false}
def i7:TyI:={k:=Go.X.TyK.struct [(0,1),(1,1),(2,1),(3,1)],size:=4,bytes:=24,zero:=Go.Value.agg {toList:=[Go.Value.int Go.IntKind.i64 (0),Go.Value.int Go.IntKind.i64 (0),Go.Value.bool false,Go.Value.int Go.IntKind.u8 (0)]},fa:=[some false,some false,some false,some false],eqs:=false}
def i8:TyI:={k:=Go.X.TyK.struct [(0,1),(1,1),(2,1),(3,1)],size:=4,bytes:=24,zero:=Go.Value.agg {toList:=[Go.Value.int Go.IntKind.i64 (0),Go.Value.int Go.IntKind.i64 (0),Go.Value.bool false,Go.Value.int Go.IntKind.u8 (0)]},fa:=[some false,some false,some false,some false],eqs:=false}
def i9:TyI:={k:=Go.X.TyK.string,size:=1,bytes:=16,zero:=Go.Value.string ⟨#[]⟩,fa:=[],eqs:=false}
def i10:TyI:={k:=Go.X.TyK.string,size:=1,bytes:=16,zero:=Go.Value.string ⟨#[]⟩,fa:=[],eqs:=false}
def i11:TyI:={k:=Go.X.TyK.string,size:=1,bytes:=16,zero:=Go.Value.string ⟨#[]⟩,fa:=[],eqs:=false}
def i12:TyI:={k:=Go.X.TyK.int Go.IntKind.u64,size:=1,bytes:=8,zero:=Go.Value.int Go.IntKind.u64 (0),fa:=[],eqs:=false}
def i13:TyI:={k:=Go.X.TyK.struct [(0,1),(1,1)],size:=2,bytes:=24,zero:=Go.Value.agg {toList:=[Go.Value.string ⟨#[]⟩,Go.Value.int Go.IntKind.u64 (0)]},fa:=[some false,some false],eqs:=false}
def i14:TyI:={k:=Go.X.TyK.struct [(0,1),(1,1)],size:=2,bytes:=24,zero:=Go.Value.agg {toList:=[Go.Value.string ⟨#[]⟩,Go.Value.int Go.IntKind.u64 (0)]},fa:=[some false,some false],eqs:=false}
def i21:TyI:={k:=Go.X.TyK.int Go.IntKind.i32,size:=1,bytes:=4,zero:=Go.Value.int Go.IntKind.i32 (0),fa:=[],eqs:=false}
def i22:TyI:={k:=Go.X.TyK.slice 9,size:=1,bytes:=24,zero:=Go.Value.slice none 0 0,fa:=[],eqs:=false}
def i23:TyI:={k:=Go.X.TyK.struct [(0,1),(1,1),(2,1),(3,1),(4,1),(5,1),(6,1),(7,1),(8,1)],size:=9,bytes:=96,zero:=Go.Value.agg {toList:=[Go.Value.string ⟨#[]⟩,Go.Value.slice none 0 0,Go.Value.int Go.IntKind.i64 (0),Go.Value.int Go.IntKind.i64 (0),Go.Value.int Go.IntKind.i64 (0),Go.Value.int Go.IntKind.i64 (0),Go.Value.int Go.IntKind.i64 (0),Go.Value.int Go.IntKind.i64 (0),Go.Value.int Go.IntKind.i64 (0)]},fa:=[some false,some false,some false,some false,some false,some false,some false,some false,some false],eqs:=false}
def i24:TyI:={k:=Go.X.TyK.struct [(0,1),(1,1),(2,1),(3,1),(4,1),(5,1),(6,1),(7,1),(8,1)],size:=9,bytes:=96,zero:=Go.Value.agg {toList:=[Go.Value.string ⟨#[]⟩,Go.Value.slice none 0 0,Go.Value.int Go.IntKind.i64 (0),Go.Value.int Go.IntKind.i64 (0),Go.Value.int Go.IntKind.i64 (0),Go.Value.int Go.IntKind.i64 (0),Go.Value.int Go.IntKind.i64 (0),Go.Value.int Go.IntKind.i64 (0),Go.Value.int Go.IntKind.i64 (0)]},fa:=[some false,some false,some false,some false,some false,some false,some false,some false,some false],eqs:=false}
def i25:TyI:={k:=Go.X.TyK.slice 92,size:=1,bytes:=24,zero:=Go.Value.slice none 0 0,fa:=[],eqs:=false}
def i26:TyI:={k:=Go.X.TyK.slice 3,size:=1,bytes:=24,zero:=Go.Value.slice none 0 0,fa:=[],eqs:=false}
def i27:TyI:={k:=Go.X.TyK.slice 26,size:=1,bytes:=24,zero:=Go.Value.slice none 0 0,fa:=[],eqs:=false}
def i31:TyI:={k:=Go.X.TyK.slice 59,size:=1,bytes:=24,zero:=Go.Value.slice none 0 0,fa:=[],eqs:=false}
def i32:TyI:={k:=Go.X.TyK.struct [(0,1),(1,1),(2,1),(3,1),(4,1),(5,1)],size:=6,bytes:=80,zero:=Go.Value.agg {toList:=[Go.Value.int Go.IntKind.i64 (0),Go.Value.int Go.IntKind.i64 (0),Go.Value.int Go.IntKind.i64 (0),Go.Value.int Go.IntKind.i64 (0),Go.Value.slice none 0 0,Go.Value.slice none 0 0]},fa:=[some false,some false,some false,some false,some false,some false],eqs:=false}
def i33:TyI:={k:=Go.X.TyK.struct [(0,1),(1,1),(2,1),(3,1),(4,1),(5,1)],size:=6,bytes:=80,zero:=Go.Value.agg {toList:=[Go.Value.int Go.IntKind.i64 (0),Go.Value.int Go.IntKind.i64 (0),Go.Value.int Go.IntKind.i64 (0),Go.Value.int Go.IntKind.i64 (0),Go.Value.slice none 0 0,Go.Value.slice none 0 0]},fa:=[some false,some false,some false,some false,some false,some false],eqs:=false}
def i34:TyI:={k:=Go.X.TyK.int Go.IntKind.i64,size:=1,bytes:=8,zero:=Go.Value.int Go.IntKind.i64 (0),fa:=[],eqs:=false}
def i48:TyI:={k:=Go.X.TyK.slice 4,size:=1,bytes:=24,zero:=Go.Value.slice none 0 0,fa:=[],eqs:=false}
def i49:TyI:={k:=Go.X.TyK.slice 4,size:=1,bytes:=24,zero:=Go.Value.slice none 0 0,fa:=[],eqs:=false}
def i50:TyI:={k:=Go.X.TyK.struct [(0,1),(1,1),(2,1)],size:=3,bytes:=56,zero:=Go.Value.agg {toList:=[Go.Value.bool false,Go.Value.slice none 0 0,Go.Value.slice none 0 0]},fa:=[some false,some false,some false],eqs:=false}
def i51:TyI:={k:=Go.X.TyK.struct [(0,1),(1,1),(2,1)],size:=3,bytes:=56,zero:=Go.Value.agg {toList:=[Go.Value.bool false,Go.Value.slice none 0 0,Go.Value.slice none 0 0]},fa:=[some false,some false,some false],eqs:=false}
def i53:TyI:={k:=Go.X.TyK.slice 57,size:=1,bytes:=24,zero:=Go.Value.slice none 0 0,fa:=[],eqs:=false}
def i54:TyI:={k:=Go.X.TyK.slice 146,size:=1,bytes:=24,zero:=Go.Value.slice none 0 0,fa:=[],eqs:=false}
def i55:TyI:={k:=Go.X.TyK.slice 146,size:=1,bytes:=24,zero:=Go.Value.slice none 0 0,fa:=[],eqs:=false}
def i56:TyI:={k:=Go.X.TyK.struct [(0,1),(1,1),(2,1)],size:=3,bytes:=56,zero:=Go.Value.agg {toList:=[Go.Value.bool false,Go.Value.slice none 0 0,Go.Value.slice none 0 0]},fa:=[some false,some false,some false],eqs:=false}
def i57:TyI:={k:=Go.X.TyK.struct [(0,1),(1,1),(2,1)],size:=3,bytes:=56,zero:=Go.Value.agg {toList:=[Go.Value.bool false,Go.Value.slice none 0 0,Go.Value.slice none 0 0]},fa:=[some false,some false,some false],eqs:=false}
def i58:TyI:={k:=Go.X.TyK.struct [(0,1),(1,1),(2,3),(5,3),(8,3),(11,1),(12,1),(13,1)],size:=14,bytes:=288,zero:=Go.Value.agg {toList:=[Go.Value.slice none 0 0,Go.Value.slice none 0 0,Go.Value.bool false,Go.Value.slice none 0 0,Go.Value.slice none 0 0,Go.Value.bool false,Go.Value.slice none 0 0,Go.Value.slice none 0 0,Go.Value.bool false,Go.Value.slice none 0 0,Go.Value.slice none 0 0,Go.Value.slice none 0 0,Go.Value.slice none 0 0,Go.Value.slice none 0 0]},fa:=[some false,some false,some true,some true,some true,some false,some false,some false],eqs:=false}
def i59:TyI:={k:=Go.X.TyK.struct [(0,1),(1,1),(2,3),(5,3),(8,3),(11,1),(12,1),(13,1)],size:=14,bytes:=288,zero:=Go.Value.agg {toList:=[Go.Value.slice none 0 0,Go.Value.slice none 0 0,Go.Value.bool false,Go.Value.slice none 0 0,Go.Value.slice none 0 0,Go.Value.bool false,Go.Value.slice none 0 0,Go.Value.slice none 0 0,Go.Value.bool false,Go.Value.slice none 0 0,Go.Value.slice none 0 0,Go.Value.slice none 0 0,Go.Value.slice none 0 0,Go.Value.slice none 0 0]},fa:=[some false,some false,some true,some true,some true,some false,some false,some false],eqs:=false}
def i91:TyI:={k:=Go.X.TyK.struct [(0,1),(1,1)],size:=2,bytes:=32,zero:=Go.Value.agg {toList:=[Go.Value.slice none 0 0,Go.Value.int Go.IntKind.i64 (0)]},fa:=[some false,some false],eqs:=false}
def i92:TyI:={k:=Go.X.TyK.struct [(0,1),(1,1)],size:=2,bytes:=32,zero:=Go.Value.agg {toList:=[Go.Value.slice none 0 0,Go.Value.int Go.IntKind.i64 (0)]},fa:=[some false,some false],eqs:=false}
def i94:TyI:={k:=Go.X.TyK.other,size:=1,bytes:=8,zero:=Go.Value.pointer none,fa:=[],eqs:=false}
def i95:TyI:={k:=Go.X.TyK.slice 100,size:=1,bytes:=24,zero:=Go.Value.slice none 0 0,fa:=[],eqs:=false}
def i96:TyI:={k:=Go.X.TyK.slice 53,size:=1,bytes:=24,zero:=Go.Value.slice none 0 0,fa:=[],eqs:=false}
def i97:TyI:={k:=Go.X.TyK.struct [(0,9),(9,1),(10,1),(11,1),(12,1),(13,1),(14,1),(15,1),(16,1),(17,6)],size:=23,bytes:=320,zero:=Go.Value.agg {toList:=[Go.Value.string ⟨#[]⟩,Go.Value.slice none 0 0,Go.Value.int Go.IntKind.i64 (0),Go.Value.int Go.IntKind.i64 (0),Go.Value.int Go.IntKind.i64 (0),Go.Value.int Go.IntKind.i64 (0),Go.Value.int Go.IntKind.i64 (0),Go.Value.int Go.IntKind.i64 (0),Go.Value.int Go.IntKind.i64 (0),Go.Value.slice none 0 0,Go.Value.int Go.IntKind.i64 (0),Go.Value.int Go.IntKind.i64 (0),Go.Value.slice none 0 0,Go.Value.slice none 0 0,Go.Value.slice none 0 0,Go.Value.int Go.IntKind.i64 (0),Go.Value.slice none 0 0,Go.Value.int Go.IntKind.i64 (0),Go.Value.int Go.IntKind.i64 (0),Go.Value.int Go.IntKind.i64 (0),Go.Value.int Go.IntKind.i64 (0),Go.Value.slice none 0 0,Go.Value.slice none 0 0]},fa:=[some true,some false,some false,some false,some false,some false,some false,some false,some false,some true],eqs:=false}
def i98:TyI:={k:=Go.X.TyK.struct [(0,9),(9,1),(10,1),(11,1),(12,1),(13,1),(14,1),(15,1),(16,1),(17,6)],size:=23,bytes:=320,zero:=Go.Value.agg {toList:=[Go.Value.string ⟨#[]⟩,Go.Value.slice none 0 0,Go.Value.int Go.IntKind.i64 (0),Go.Value.int Go.IntKind.i64 (0),Go.Value.int Go.IntKind.i64 (0),Go.Value.int Go.IntKind.i64 (0),Go.Value.int Go.IntKind.i64 (0),Go.Value.int Go.IntKind.i64 (0),Go.Value.int Go.IntKind.i64 (0),Go.Value.slice none 0 0,Go.Value.int Go.IntKind.i64 (0),Go.Value.int Go.IntKind.i64 (0),Go.Value.slice none 0 0,Go.Value.slice none 0 0,Go.Value.slice none 0 0,Go.Value.int Go.IntKind.i64 (0),Go.Value.slice none 0 0,Go.Value.int Go.IntKind.i64 (0),Go.Value.int Go.IntKind.i64 (0),Go.Value.int Go.IntKind.i64 (0),Go.Value.int Go.IntKind.i64 (0),Go.Value.slice none 0 0,Go.Value.slice none 0 0]},fa:=[some true,some false,some false,some false,some false,some false,some false,some false,some false,some true],eqs:=false}
def i99:TyI:={k:=Go.X.TyK.struct [(0,1),(1,1),(2,1),(3,3)],size:=6,bytes:=96,zero:=Go.Value.agg {toList:=[Go.Value.slice none 0 0,Go.Value.int Go.IntKind.i64 (0),Go.Value.int Go.IntKind.i64 (0),Go.Value.bool false,Go.Value.slice none 0 0,Go.Value.slice none 0 0]},fa:=[some false,some false,some false,some true],eqs:=false}
def i100:TyI:={k:=Go.X.TyK.struct [(0,1),(1,1),(2,1),(3,3)],size:=6,bytes:=96,zero:=Go.Value.agg {toList:=[Go.Value.slice none 0 0,Go.Value.int Go.IntKind.i64 (0),Go.Value.int Go.IntKind.i64 (0),Go.Value.bool false,Go.Value.slice none 0 0,Go.Value.slice none 0 0]},fa:=[some false,some false,some false,some true],eqs:=false}
def i104:TyI:={k:=Go.X.TyK.slice 49,size:=1,bytes:=24,zero:=Go.Value.slice none 0 0,fa:=[],eqs:=false}
def i105:TyI:={k:=Go.X.TyK.struct [(0,1),(1,1),(2,1)],size:=3,bytes:=72,zero:=Go.Value.agg {toList:=[Go.Value.slice none 0 0,Go.Value.slice none 0 0,Go.Value.slice none 0 0]},fa:=[some false,some false,some false],eqs:=false}
def i106:TyI:={k:=Go.X.TyK.struct [(0,1),(1,1),(2,1)],size:=3,bytes:=72,zero:=Go.Value.agg {toList:=[Go.Value.slice none 0 0,Go.Value.slice none 0 0,Go.Value.slice none 0 0]},fa:=[some false,some false,some false],eqs:=false}
def i120:TyI:={k:=Go.X.TyK.int Go.IntKind.u64,size:=1,bytes:=8,zero:=Go.Value.int Go.IntKind.u64 (0),fa:=[],eqs:=false}
def i124:TyI:={k:=Go.X.TyK.int Go.IntKind.u64,size:=1,bytes:=8,zero:=Go.Value.int Go.IntKind.u64 (0),fa:=[],eqs:=false}
def i131:TyI:={k:=Go.X.TyK.other,size:=1,bytes:=8,zero:=Go.Value.pointer none,fa:=[],eqs:=false}
def i133:TyI:={k:=Go.X.TyK.struct [(0,9),(9,1),(10,1),(11,1),(12,1)],size:=13,bytes:=192,zero:=Go.Value.agg {toList:=[Go.Value.string ⟨#[]⟩,Go.Value.slice none 0 0,Go.Value.int Go.IntKind.i64 (0),Go.Value.int Go.IntKind.i64 (0),Go.Value.int Go.IntKind.i64 (0),Go.Value.int Go.IntKind.i64 (0),Go.Value.int Go.IntKind.i64 (0),Go.Value.int Go.IntKind.i64 (0),Go.Value.int Go.IntKind.i64 (0),Go.Value.slice none 0 0,Go.Value.slice none 0 0,Go.Value.slice none 0 0,Go.Value.slice none 0 0]},fa:=[some true,some false,some false,some false,some false],eqs:=false}
def i134:TyI:={k:=Go.X.TyK.struct [(0,9),(9,1),(10,1),(11,1),(12,1)],size:=13,bytes:=192,zero:=Go.Value.agg {toList:=[Go.Value.string ⟨#[]⟩,Go.Value.slice none 0 0,Go.Value.int Go.IntKind.i64 (0),Go.Value.int Go.IntKind.i64 (0),Go.Value.int Go.IntKind.i64 (0),Go.Value.int Go.IntKind.i64 (0),Go.Value.int Go.IntKind.i64 (0),Go.Value.int Go.IntKind.i64 (0),Go.Value.int Go.IntKind.i64 (0),Go.Value.slice none 0 0,Go.Value.slice none 0 0,Go.Value.slice none 0 0,Go.Value.slice none 0 0]},fa:=[some true,some false,some false,some false,some false],eqs:=false}
def i140:TyI:={k:=Go.X.TyK.other,size:=1,bytes:=8,zero:=Go.Value.pointer none,fa:=[],eqs:=false}
def i141:TyI:={k:=Go.X.TyK.struct [(0,9),(9,1),(10,1),(11,1),(12,1),(13,1),(14,1),(15,1),(16,1),(17,1),(18,6)],size:=24,bytes:=328,zero:=Go.Value.agg {toList:=[Go.Value.string ⟨#[]⟩,Go.Value.slice none 0 0,Go.Value.int Go.IntKind.i64 (0),Go.Value.int Go.IntKind.i64 (0),Go.Value.int Go.IntKind.i64 (0),Go.Value.int Go.IntKind.i64 (0),Go.Value.int Go.IntKind.i64 (0),Go.Value.int Go.IntKind.i64 (0),Go.Value.int Go.IntKind.i64 (0),Go.Value.slice none 0 0,Go.Value.slice none 0 0,Go.Value.int Go.IntKind.i64 (0),Go.Value.slice none 0 0,Go.Value.slice none 0 0,Go.Value.int Go.IntKind.i64 (0),Go.Value.slice none 0 0,Go.Value.int Go.IntKind.i64 (0),Go.Value.int Go.IntKind.i64 (0),Go.Value.int Go.IntKind.i64 (0),Go.Value.int Go.IntKind.i64 (0),Go.Value.int Go.IntKind.i64 (0),Go.Value.int Go.IntKind.i64 (0),Go.Value.slice none 0 0,Go.Value.slice none 0 0]},fa:=[some true,some false,some false,some false,some false,some false,some false,some false,some false,some false,some true],eqs:=false}
def i142:TyI:={k:=Go.X.TyK.struct [(0,9),(9,1),(10,1),(11,1),(12,1),(13,1),(14,1),(15,1),(16,1),(17,1),(18,6)],size:=24,bytes:=328,zero:=Go.Value.agg {toList:=[Go.Value.string ⟨#[]⟩,Go.Value.slice none 0 0,Go.Value.int Go.IntKind.i64 (0),Go.Value.int Go.IntKind.i64 (0),Go.Value.int Go.IntKind.i64 (0),Go.Value.int Go.IntKind.i64 (0),Go.Value.int Go.IntKind.i64 (0),Go.Value.int Go.IntKind.i64 (0),Go.Value.int Go.IntKind.i64 (0),Go.Value.slice none 0 0,Go.Value.slice none 0 0,Go.Value.int Go.IntKind.i64 (0),Go.Value.slice none 0 0,Go.Value.slice none 0 0,Go.Value.int Go.IntKind.i64 (0),Go.Value.slice none 0 0,Go.Value.int Go.IntKind.i64 (0),Go.Value.int Go.IntKind.i64 (0),Go.Value.int Go.IntKind.i64 (0),Go.Value.int Go.IntKind.i64 (0),Go.Value.int Go.IntKind.i64 (0),Go.Value.int Go.IntKind.i64 (0),Go.Value.slice none 0 0,Go.Value.slice none 0 0]},fa:=[some true,some false,some false,some false,some false,some false,some false,some false,some false,some false,some true],eqs:=false}
def i146:TyI:={k:=Go.X.TyK.int Go.IntKind.u32,size:=1,bytes:=4,zero:=Go.Value.int Go.IntKind.u32 (0),fa:=[],eqs:=false}
def i154:TyI:={k:=Go.X.TyK.other,size:=1,bytes:=8,zero:=Go.Value.pointer none,fa:=[],eqs:=false}
def i159:TyI:={k:=Go.X.TyK.slice 5,size:=1,bytes:=24,zero:=Go.Value.slice none 0 0,fa:=[],eqs:=false}
def i200:TyI:={k:=Go.X.TyK.array 7 4,size:=7,bytes:=7,zero:=Go.Value.agg {toList:=[Go.Value.bool false,Go.Value.bool false,Go.Value.bool false,Go.Value.bool false,Go.Value.bool false,Go.Value.bool false,Go.Value.bool false]},fa:=[],eqs:=false}
def i210:TyI:={k:=Go.X.TyK.other,size:=1,bytes:=8,zero:=Go.Value.pointer none,fa:=[],eqs:=false}
def i217:TyI:={k:=Go.X.TyK.int Go.IntKind.i64,size:=1,bytes:=8,zero:=Go.Value.int Go.IntKind.i64 (0),fa:=[],eqs:=false}
def i229:TyI:={k:=Go.X.TyK.int Go.IntKind.u64,size:=1,bytes:=8,zero:=Go.Value.int Go.IntKind.u64 (0),fa:=[],eqs:=false}
def i233:TyI:={k:=Go.X.TyK.other,size:=1,bytes:=8,zero:=Go.Value.pointer none,fa:=[],eqs:=false}
def i237:TyI:={k:=Go.X.TyK.other,size:=1,bytes:=8,zero:=Go.Value.pointer none,fa:=[],eqs:=false}
def tab:Tab:=[(2,i2,y2),(3,i3,y3),(4,i4,y4),(5,i5,y5),(6,i6,y6),(7,i7,y7),(8,i8,y8),(9,i9,y9),(10,i10,y10),(11,i11,y11),(12,i12,y12),(13,i13,y13),(14,i14,y14),(21,i21,y21),(22,i22,y22),(23,i23,y23),(24,i24,y24),(25,i25,y25),(26,i26,y26),(27,i27,y27),(31,i31,y31),(32,i32,y32),(33,i33,y33),(34,i34,y34),(48,i48,y48),(49,i49,y49),(50,i50,y50),(51,i51,y51),(53,i53,y53),(54,i54,y54),(55,i55,y55),(56,i56,y56),(57,i57,y57),(58,i58,y58),(59,i59,y59),(91,i91,y91),(92,i92,y92),(94,i94,y94),(95,i95,y95),(96,i96,y96),(97,i97,y97),(98,i98,y98),(99,i99,y99),(100,i100,y100),(104,i104,y104),(105,i105,y105),(106,i106,y106),(120,i120,y120),(124,i124,y124),(131,i131,y131),(133,i133,y133),(134,i134,y134),(140,i140,y140),(141,i141,y141),(142,i142,y142),(146,i146,y146),(154,i154,y154),(159,i159,y159),(200,i200,y200),(210,i210,y210),(217,i217,y217),(229,i229,y229),(233,i233,y233),(237,i237,y237)]
theorem ty2:Go.X.ty Tryz.prog 2=some i2:=by kernel_rfl
theorem ty3:Go.X.ty Tryz.prog 3=some i3:=by kernel_rfl
theorem ty4:Go.X.ty Tryz.prog 4=some i4:=by kernel_rfl
theorem ty5:Go.X.ty Tryz.prog 5=some i5:=by kernel_rfl
theorem ty6:Go.X.ty Tryz.prog 6=some i6:=by kernel_rfl
theorem ty7:Go.X.ty Tryz.prog 7=some i7:=by kernel_rfl
theorem ty8:Go.X.ty Tryz.prog 8=some i8:=by kernel_rfl
theorem ty9:Go.X.ty Tryz.prog 9=some i9:=by kernel_rfl
theorem ty10:Go.X.ty Tryz.prog 10=some i10:=by kernel_rfl
theorem ty11:Go.X.ty Tryz.prog 11=some i11:=by kernel_rfl
theorem ty12:Go.X.ty Tryz.prog 12=some i12:=by kernel_rfl
theorem ty13:Go.X.ty Tryz.prog 13=some i13:=by kernel_rfl
theorem ty14:Go.X.ty Tryz.prog 14=some i14:=by kernel_rfl
theorem ty21:Go.X.ty Tryz.prog 21=some i21:=by kernel_rfl
theorem ty22:Go.X.ty Tryz.prog 22=some i22:=by kernel_rfl
theorem ty23:Go.X.ty Tryz.prog 23=some i23:=by kernel_rfl
theorem ty24:Go.X.ty Tryz.prog 24=some i24:=by kernel_rfl
theorem ty25:Go.X.ty Tryz.prog 25=some i25:=by kernel_rfl
theorem ty26:Go.X.ty Tryz.prog 26=some i26:=by kernel_rfl
theorem ty27:Go.X.ty Tryz.prog 27=some i27:=by kernel_rfl
theorem ty31:Go.X.ty Tryz.prog 31=some i31:=by kernel_rfl
theorem ty32:Go.X.ty Tryz.prog 32=some i32:=by kernel_rfl
theorem ty33:Go.X.ty Tryz.prog 33=some i33:=by kernel_rfl
theorem ty34:Go.X.ty Tryz.prog 34=some i34:=by kernel_rfl
theorem ty48:Go.X.ty Tryz.prog 48=some i48:=by kernel_rfl
theorem ty49:Go.X.ty Tryz.prog 49=some i49:=by kernel_rfl
theorem ty50:Go.X.ty Tryz.prog 50=some i50:=by kernel_rfl
theorem ty51:Go.X.ty Tryz.prog 51=some i51:=by kernel_rfl
theorem ty53:Go.X.ty Tryz.prog 53=some i53:=by kernel_rfl
theorem ty54:Go.X.ty Tryz.prog 54=some i54:=by kernel_rfl
theorem ty55:Go.X.ty Tryz.prog 55=some i55:=by kernel_rfl
theorem ty56:Go.X.ty Tryz.prog 56=some i56:=by kernel_rfl
theorem ty57:Go.X.ty Tryz.prog 57=some i57:=by kernel_rfl
theorem ty58:Go.X.ty Tryz.prog 58=some i58:=by kernel_rfl
theorem ty59:Go.X.ty Tryz.prog 59=some i59:=by kernel_rfl
theorem ty91:Go.X.ty Tryz.prog 91=some i91:=by kernel_rfl
theorem ty92:Go.X.ty Tryz.prog 92=some i92:=by kernel_rfl
theorem ty94:Go.X.ty Tryz.prog 94=some i94:=by kernel_rfl
theorem ty95:Go.X.ty Tryz.prog 95=some i95:=by kernel_rfl
theorem ty96:Go.X.ty Tryz.prog 96=some i96:=by kernel_rfl
theorem ty97:Go.X.ty Tryz.prog 97=some i97:=by kernel_rfl
theorem ty98:Go.X.ty Tryz.prog 98=some i98:=by kernel_rfl
theorem ty99:Go.X.ty Tryz.prog 99=some i99:=by kernel_rfl
theorem ty100:Go.X.ty Tryz.prog 100=some i100:=by kernel_rfl
theorem ty104:Go.X.ty Tryz.prog 104=some i104:=by kernel_rfl
theorem ty105:Go.X.ty Tryz.prog 105=some i105:=by kernel_rfl
theorem ty106:Go.X.ty Tryz.prog 106=some i106:=by kernel_rfl
theorem ty120:Go.X.ty Tryz.prog 120=some i120:=by kernel_rfl
theorem ty124:Go.X.ty Tryz.prog 124=some i124:=by kernel_rfl
theorem ty131:Go.X.ty Tryz.prog 131=some i131:=by kernel_rfl
theorem ty133:Go.X.ty Tryz.prog 133=some i133:=by kernel_rfl
theorem ty134:Go.X.ty Tryz.prog 134=some i134:=by kernel_rfl
theorem ty140:Go.X.ty Tryz.prog 140=some i140:=by kernel_rfl
theorem ty141:Go.X.ty Tryz.prog 141=some i141:=by kernel_rfl
theorem ty142:Go.X.ty Tryz.prog 142=some i142:=by kernel_rfl
theorem ty146:Go.X.ty Tryz.prog 146=some i146:=by kernel_rfl
theorem ty154:Go.X.ty Tryz.prog 154=some i154:=by kernel_rfl
theorem ty159:Go.X.ty Tryz.prog 159=some i159:=by kernel_rfl
theorem ty200:Go.X.ty Tryz.prog 200=some i200:=by kernel_rfl
theorem ty210:Go.X.ty Tryz.prog 210=some i210:=by kernel_rfl
theorem ty217:Go.X.ty Tryz.prog 217=some i217:=by kernel_rfl
theorem ty229:Go.X.ty Tryz.prog 229=some i229:=by kernel_rfl
theorem ty233:Go.X.ty Tryz.prog 233=some i233:=by kernel_rfl
theorem ty237:Go.X.ty Tryz.prog 237=some i237:=by kernel_rfl
theorem tab_nil:∀id i t,tl [] id=some (i,t)→Go.X.ty Tryz.prog id=some i∧agree tab i t=true:=fun _ _ _ h=>by cases h
theorem zad{L:Tab}{x:TypeId}{j:TyI}{u:Ty}(h1:Go.X.ty Tryz.prog x=some j)(h2:agree tab j u=true)(h:∀id i t,tl L id=some (i,t)→Go.X.ty Tryz.prog id=some i∧agree tab i t=true):∀id i t,tl ((x,j,u)::L) id=some (i,t)→Go.X.ty Tryz.prog id=some i∧agree tab i t=true:=fun id i t hl=>by
 unfold tl at hl
 split at hl
 ·rename_i he
  subst he
  cases hl
  exact⟨h1,h2⟩
 ·exact h id i t hl
theorem tabOK:TabOK Tryz.prog tab:=
 zad ty2 (by kernel_rfl) (
 zad ty3 (by kernel_rfl) (
 zad ty4 (by kernel_rfl) (
 zad ty5 (by kernel_rfl) (
 zad ty6 (by kernel_rfl) (
 zad ty7 (by kernel_rfl) (
 zad ty8 (by kernel_rfl) (
 zad ty9 (by kernel_rfl) (
 zad ty10 (by kernel_rfl) (
 zad ty11 (by kernel_rfl) (
 zad ty12 (by kernel_rfl) (
 zad ty13 (by kernel_rfl) (
 zad ty14 (by kernel_rfl) (
 zad ty21 (by kernel_rfl) (
 zad ty22 (by kernel_rfl) (
 zad ty23 (by kernel_rfl) (
 zad ty24 (by kernel_rfl) (
 zad ty25 (by kernel_rfl) (
 zad ty26 (by kernel_rfl) (
 zad ty27 (by kernel_rfl) (
 zad ty31 (by kernel_rfl) (
 zad ty32 (by kernel_rfl) (
 zad ty33 (by kernel_rfl) (
 zad ty34 (by kernel_rfl) (
 zad ty48 (by kernel_rfl) (
 zad ty49 (by kernel_rfl) (
 zad ty50 (by kernel_rfl) (
 zad ty51 (by kernel_rfl) (
 zad ty53 (by kernel_rfl) (
 zad ty54 (by kernel_rfl) (
 zad ty55 (by kernel_rfl) (
 zad ty56 (by kernel_rfl) (
 zad ty57 (by kernel_rfl) (
 zad ty58 (by kernel_rfl) (
 zad ty59 (by kernel_rfl) (
 zad ty91 (by kernel_rfl) (
 zad ty92 (by kernel_rfl) (
 zad ty94 (by kernel_rfl) (
 zad ty95 (by kernel_rfl) (
 zad ty96 (by kernel_rfl) (
 zad ty97 (by kernel_rfl) (
 zad ty98 (by kernel_rfl) (
 zad ty99 (by kernel_rfl) (
 zad ty100 (by kernel_rfl) (
 zad ty104 (by kernel_rfl) (
 zad ty105 (by kernel_rfl) (
 zad ty106 (by kernel_rfl) (
 zad ty120 (by kernel_rfl) (
 zad ty124 (by kernel_rfl) (
 zad ty131 (by kernel_rfl) (
 zad ty133 (by kernel_rfl) (
 zad ty134 (by kernel_rfl) (
 zad ty140 (by kernel_rfl) (
 zad ty141 (by kernel_rfl) (
 zad ty142 (by kernel_rfl) (
 zad ty146 (by kernel_rfl) (
 zad ty154 (by kernel_rfl) (
 zad ty159 (by kernel_rfl) (
 zad ty200 (by kernel_rfl) (
 zad ty210 (by kernel_rfl) (
 zad ty217 (by kernel_rfl) (
 zad ty229 (by kernel_rfl) (
 zad ty233 (by kernel_rfl) (
 zad ty237 (by kernel_rfl) (
 tab_nil))))))))))))))))))))))))))))))))))))))))))))))))))))))))))))))))
theorem mixd:Tryz.prog.follows .mixedOrders=true:=by kernel_rfl
abbrev w(n:Int):Int:=IntKind.wrap .i64 n
abbrev wu8(n:Int):Int:=IntKind.wrap .u8 n
abbrev wu64(n:Int):Int:=IntKind.wrap .u64 n
abbrev wu32(n:Int):Int:=IntKind.wrap .u32 n
noncomputable def code (f:Func):Code:=match f.body with
 |some c=>c
 |none=>.skip
theorem zac{f:Func}(h:f.body.isSome=true):f.body=some (code f):=by
 unfold code
 cases hb:f.body with
 |none=>rw[hb]at h;cases h
 |some c=>rfl
end Go.Proofs.YtmipjomnjkmdbaaGreat
