/- Part 7 of what stands below the statement. -/
import Derived.Test.YtamgmpngdmnadaaGreatProg
import Derived.Test.YtamgmpngdmnadaaGreatE6
open Go Go.Proofs Go.X
namespace Go.Proofs.YtamgmpngdmnadaaGreat
abbrev y2:Ty:=.int .i64
abbrev y3:Ty:=.int .i64
abbrev y4:Ty:=.bool
abbrev y5:Ty:=.int .u8
abbrev y6:Ty:=.int .u8
abbrev y7:Ty:=.pair y2 (.pair y3 (.pair y4 y6))
abbrev y8:Ty:=.pair y2 (.pair y3 (.pair y4 y6))
abbrev y9:Ty:=.str
abbrev y10:Ty:=.str
abbrev y11:Ty:=.str
abbrev y12:Ty:=.int .u64
abbrev y13:Ty:=.pair y9 y12
abbrev y14:Ty:=.pair y9 y12
abbrev y169:Ty:=.int .u32
abbrev y311:Ty:=.int .u8
abbrev y312:Ty:=.int .u8
abbrev y21:Ty:=.int .i32
abbrev y22:Ty:=.slice y9
abbrev y23:Ty:=.pair y9 (.pair y22 (.pair y3 (.pair y3 (.pair y3 (.pair y3 (.pair y3 (.pair y3 y3)))))))
abbrev y24:Ty:=.pair y9 (.pair y22 (.pair y3 (.pair y3 (.pair y3 (.pair y3 (.pair y3 (.pair y3 y3)))))))
abbrev y26:Ty:=.slice y3
abbrev y33:Ty:=.pair y4 y26
abbrev y25:Ty:=.slice y33
abbrev y29:Ty:=.fn2 y3 y3 y3
abbrev y32:Ty:=.pair y4 y26
abbrev y99:Ty:=.slice y169
abbrev y101:Ty:=.pair y4 (.pair y99 y99)
abbrev y97:Ty:=.slice y101
abbrev y103:Ty:=.pair y97 (.pair y97 (.pair y101 (.pair y101 (.pair y101 (.pair y26 (.pair y26 y26))))))
abbrev y35:Ty:=.slice y103
abbrev y36:Ty:=.pair y3 (.pair y3 (.pair y3 (.pair y3 (.pair y35 y26))))
abbrev y37:Ty:=.pair y3 (.pair y3 (.pair y3 (.pair y3 (.pair y35 y26))))
abbrev y38:Ty:=.int .i64
abbrev y48:Ty:=.slice y26
abbrev y49:Ty:=.slice y4
abbrev y55:Ty:=.pair y3 (.pair y3 y3)
abbrev y57:Ty:=.pair y55 (.pair y4 y26)
abbrev y51:Ty:=.slice y57
abbrev y54:Ty:=.pair y3 (.pair y3 y3)
abbrev y56:Ty:=.pair y55 (.pair y4 y26)
abbrev y62:Ty:=.pair y3 (.pair y3 (.pair y3 (.pair y3 (.pair y3 (.pair y3 (.pair y48 (.pair y3 (.pair y3 (.pair y3 y3)))))))))
abbrev y63:Ty:=.pair y3 (.pair y3 (.pair y3 (.pair y3 (.pair y3 (.pair y3 (.pair y48 (.pair y3 (.pair y3 (.pair y3 y3)))))))))
abbrev y77:Ty:=.pair y26 y3
abbrev y64:Ty:=.slice y77
abbrev y76:Ty:=.pair y26 y3
abbrev y98:Ty:=.slice y169
abbrev y100:Ty:=.pair y4 (.pair y99 y99)
abbrev y102:Ty:=.pair y97 (.pair y97 (.pair y101 (.pair y101 (.pair y101 (.pair y26 (.pair y26 y26))))))
abbrev y114:Ty:=.slice y5
abbrev y120:Ty:=.slice y97
abbrev y122:Ty:=.pair y24 (.pair y64 (.pair y26 (.pair y49 y120)))
abbrev y116:Ty:=.ptr y122
abbrev y121:Ty:=.pair y24 (.pair y64 (.pair y26 (.pair y49 y120)))
abbrev y127:Ty:=.fn1 y3 y4
abbrev y133:Ty:=.pair y24 (.pair y64 (.pair y26 (.pair y3 (.pair y26 (.pair y26 (.pair y3 (.pair y120 (.pair y3 (.pair y3 y37)))))))))
abbrev y130:Ty:=.ptr y133
abbrev y132:Ty:=.pair y24 (.pair y64 (.pair y26 (.pair y3 (.pair y26 (.pair y26 (.pair y3 (.pair y120 (.pair y3 (.pair y3 y37)))))))))
abbrev y140:Ty:=.pair y26 (.pair y3 (.pair y3 y101))
abbrev y136:Ty:=.slice y140
abbrev y138:Ty:=.pair y24 (.pair y26 (.pair y3 (.pair y3 (.pair y136 (.pair y26 (.pair y97 (.pair y3 (.pair y120 y37))))))))
abbrev y134:Ty:=.ptr y138
abbrev y137:Ty:=.pair y24 (.pair y26 (.pair y3 (.pair y3 (.pair y136 (.pair y26 (.pair y97 (.pair y3 (.pair y120 y37))))))))
abbrev y139:Ty:=.pair y26 (.pair y3 (.pair y3 y101))
abbrev y153:Ty:=.slice y4
abbrev y155:Ty:=.slice y153
abbrev y156:Ty:=.pair y155 (.pair y153 y26)
abbrev y157:Ty:=.pair y155 (.pair y153 y26)
abbrev y170:Ty:=.arr 7 y4
abbrev y172:Ty:=.pair y24 (.pair y64 (.pair y26 (.pair y49 (.pair y49 (.pair y3 y120)))))
abbrev y173:Ty:=.pair y24 (.pair y64 (.pair y26 (.pair y49 (.pair y49 (.pair y3 y120)))))
abbrev y177:Ty:=.pair y173 .unit
abbrev y175:Ty:=.ptr y177
abbrev y176:Ty:=.pair y173 .unit
abbrev y180:Ty:=.pair y173 (.pair y3 (.pair y26 (.pair y3 (.pair y4 y3))))
abbrev y178:Ty:=.ptr y180
abbrev y179:Ty:=.pair y173 (.pair y3 (.pair y26 (.pair y3 (.pair y4 y3))))
abbrev y183:Ty:=.pair y173 (.pair y3 (.pair y49 (.pair y49 (.pair y97 (.pair y48 y97)))))
abbrev y181:Ty:=.ptr y183
abbrev y182:Ty:=.pair y173 (.pair y3 (.pair y49 (.pair y49 (.pair y97 (.pair y48 y97)))))
abbrev y188:Ty:=.fn2 y77 y77 y3
abbrev y190:Ty:=.int .u64
abbrev y194:Ty:=.ptr y103
abbrev y200:Ty:=.fn1 y77 y3
abbrev y204:Ty:=.int .u64
abbrev y222:Ty:=.pair y4 (.pair y153 y153)
abbrev y221:Ty:=.pair y4 (.pair y153 y153)
abbrev y252:Ty:=.int .i64
abbrev y276:Ty:=.ptr y140
abbrev y277:Ty:=.int .u64
abbrev y281:Ty:=.ptr y3
abbrev y296:Ty:=.ptr y277
abbrev y314:Ty:=.ptr y5
abbrev y315:Ty:=.int .i32
abbrev y316:Ty:=.int .i32
abbrev y323:Ty:=.ptr y173
def i2:TyI:={k:=Go.X.TyK.int Go.IntKind.i64,size:=1,bytes:=8,zero:=Go.Value.int Go.IntKind.i64 (0),fa:=[],eqs:=false}
def i3:TyI:={k:=Go.X.TyK.int Go.IntKind.i64,size:=1,bytes:=8,zero:=Go.Value.int Go.IntKind.i64 (0),fa:=[],eqs:=false}
def i4:TyI:={k:=Go.X.TyK.bool,size:=1,bytes:=1,zero:=Go.Value.bool false,fa:=[],eqs:=false}
def i5:TyI:={k:=Go.X.TyK.int Go.IntKind.u8,size:=1,bytes:=1,zero:=Go.Value.int Go.IntKind.u8 (0),fa:=[],eqs:=false}
def i6:TyI:={k:=Go.X.TyK.int Go.IntKind.u8,size:=1,bytes:=1,zero:=Go.Value.int Go.IntKind.u8 (0),fa:=[],eqs:=false}
def i7:TyI:={k:=Go.X.TyK.struct [(0,1),(1,1),(2,1),(3,1)],size:=4,bytes:=24,zero:=Go.Value.agg {toList:=[Go.Value.int Go.IntKind.i64 (0),Go.Value.int Go.IntKind.i64 (0),Go.Value.bool false,Go.Value.int Go.IntKind.u8 (0)]},fa:=[some false,some false,some false,some false],eqs:=false}
def i8:TyI:={k:=Go.X.TyK.struct [(0,1),(1,1),(2,1),(3,1)],size:=4,bytes:=24,zero:=Go.Value.agg {toList:=[Go.Value.int Go.IntKind.i64 (0),Go.Value.int Go.IntKind.i64 (0),Go.Value.bool false,Go.Value.int Go.IntKind.u8 (0)]},fa:=[some false,some false,some false,some false],eqs:=false}
def i9:TyI:={k:=Go.X.TyK.string,size:=1,bytes:=16,zero:=Go.Value.string ⟨#[]⟩,fa:=[],eqs:=false}
def i10:TyI:={k:=Go.X.TyK.string,size:=1,bytes:=16,zero:=Go.Value.string ⟨#[]⟩,fa:=[],eqs:=false}
def i11:TyI:={k:=Go.X.TyK.string,size:=1,bytes:=16,zero:=Go.Value.string ⟨#[]⟩,fa:=[],eqs:=false}
def i12:TyI:={k:=Go.X.TyK.int Go.IntKind.u64,size:=1,bytes:=8,zero:=Go.Value.int Go.IntKind.u64 (0),fa:=[],eqs:=false}
def i13:TyI:={k:=Go.X.TyK.struct [(0,1),(1,1)],size:=2,bytes:=24,zero:=Go.Value.agg {toList:=[Go.Value.string ⟨#[]⟩,Go.Value.int Go.IntKind.u64 (0)]},fa:=[some false,some false],eqs:=false}
def i14:TyI:={k:=Go.X.TyK.struct [(0,1),(1,1)],size:=2,bytes:=24,zero:=Go.Value.agg {toList:=[Go.Value.string ⟨#[]⟩,Go.Value.int Go.IntKind.u64 (0)]},fa:=[some false,some false],eqs:=false}
def i21:TyI:={k:=Go.X.TyK.int Go.IntKind.i32,size:=1,bytes:=4,zero:=Go.Value.int Go.IntKind.i32 (0),fa:=[],eqs:=false}
def i22:TyI:={k:=Go.X.TyK.slice 9,size:=1,bytes:=24,zero:=Go.Value.slice none 0 0,fa:=[],eqs:=false}
def i23:TyI:={k:=Go.X.TyK.struct [(0,1),(1,1),(2,1),(3,1),(4,1),(5,1),(6,1),(7,1),(8,1)],size:=9,bytes:=96,zero:=Go.Value.agg {toList:=[Go.Value.string ⟨#[]⟩,Go.Value.slice none 0 0,Go.Value.int Go.IntKind.i64 (0),Go.Value.int Go.IntKind.i64 (0),Go.Value.int Go.IntKind.i64 (0),Go.Value.int Go.IntKind.i64 (0),Go.Value.int Go.IntKind.i64 (0),Go.Value.int Go.IntKind.i64 (0),Go.Value.int Go.IntKind.i64 (0)]},fa:=[some false,some false,some false,some false,some false,some false,some false,some false,some false],eqs:=false}
def i24:TyI:={k:=Go.X.TyK.struct [(0,1),(1,1),(2,1),(3,1),(4,1),(5,1),(6,1),(7,1),(8,1)],size:=9,bytes:=96,zero:=Go.Value.agg {toList:=[Go.Value.string ⟨#[]⟩,Go.Value.slice none 0 0,Go.Value.int Go.IntKind.i64 (0),Go.Value.int Go.IntKind.i64 (0),Go.Value.int Go.IntKind.i64 (0),Go.Value.int Go.IntKind.i64 (0),Go.Value.int Go.IntKind.i64 (0),Go.Value.int Go.IntKind.i64 (0),Go.Value.int Go.IntKind.i64 (0)]},fa:=[some false,some false,some false,some false,some false,some false,some false,some false,some false],eqs:=false}
def i25:TyI:={k:=Go.X.TyK.slice 33,size:=1,bytes:=24,zero:=Go.Value.slice none 0 0,fa:=[],eqs:=false}
def i26:TyI:={k:=Go.X.TyK.slice 3,size:=1,bytes:=24,zero:=Go.Value.slice none 0 0,fa:=[],eqs:=false}
def i32:TyI:={k:=Go.X.TyK.struct [(0,1),(1,1)],size:=2,bytes:=32,zero:=Go.Value.agg {toList:=[Go.Value.bool false,Go.Value.slice none 0 0]},fa:=[some false,some false],eqs:=false}
def i33:TyI:={k:=Go.X.TyK.struct [(0,1),(1,1)],size:=2,bytes:=32,zero:=Go.Value.agg {toList:=[Go.Value.bool false,Go.Value.slice none 0 0]},fa:=[some false,some false],eqs:=false}
def i35:TyI:={k:=Go.X.TyK.slice 103,size:=1,bytes:=24,zero:=Go.Value.slice none 0 0,fa:=[],eqs:=false}
def i36:TyI:={k:=Go.X.TyK.struct [(0,1),(1,1),(2,1),(3,1),(4,1),(5,1)],size:=6,bytes:=80,zero:=Go.Value.agg {toList:=[Go.Value.int Go.IntKind.i64 (0),Go.Value.int Go.IntKind.i64 (0),Go.Value.int Go.IntKind.i64 (0),Go.Value.int Go.IntKind.i64 (0),Go.Value.slice none 0 0,Go.Value.slice none 0 0]},fa:=[some false,some false,some false,some false,some false,some false],eqs:=false}
def i37:TyI:={k:=Go.X.TyK.struct [(0,1),(1,1),(2,1),(3,1),(4,1),(5,1)],size:=6,bytes:=80,zero:=Go.Value.agg {toList:=[Go.Value.int Go.IntKind.i64 (0),Go.Value.int Go.IntKind.i64 (0),Go.Value.int Go.IntKind.i64 (0),Go.Value.int Go.IntKind.i64 (0),Go.Value.slice none 0 0,Go.Value.slice none 0 0]},fa:=[some false,some false,some false,some false,some false,some false],eqs:=false}
def i38:TyI:={k:=Go.X.TyK.int Go.IntKind.i64,size:=1,bytes:=8,zero:=Go.Value.int Go.IntKind.i64 (0),fa:=[],eqs:=false}
def i48:TyI:={k:=Go.X.TyK.slice 26,size:=1,bytes:=24,zero:=Go.Value.slice none 0 0,fa:=[],eqs:=false}
def i49:TyI:={k:=Go.X.TyK.slice 4,size:=1,bytes:=24,zero:=Go.Value.slice none 0 0,fa:=[],eqs:=false}
def i51:TyI:={k:=Go.X.TyK.slice 57,size:=1,bytes:=24,zero:=Go.Value.slice none 0 0,fa:=[],eqs:=false}
def i54:TyI:={k:=Go.X.TyK.struct [(0,1),(1,1),(2,1)],size:=3,bytes:=24,zero:=Go.Value.agg {toList:=[Go.Value.int Go.IntKind.i64 (0),Go.Value.int Go.IntKind.i64 (0),Go.Value.int Go.IntKind.i64 (0)]},fa:=[some false,some false,some false],eqs:=true}
def i55:TyI:={k:=Go.X.TyK.struct [(0,1),(1,1),(2,1)],size:=3,bytes:=24,zero:=Go.Value.agg {toList:=[Go.Value.int Go.IntKind.i64 (0),Go.Value.int Go.IntKind.i64 (0),Go.Value.int Go.IntKind.i64 (0)]},fa:=[some false,some false,some false],eqs:=true}
def i56:TyI:={k:=Go.X.TyK.struct [(0,3),(3,1),(4,1)],size:=5,bytes:=56,zero:=Go.Value.agg {toList:=[Go.Value.int Go.IntKind.i64 (0),Go.Value.int Go.IntKind.i64 (0),Go.Value.int Go.IntKind.i64 (0),Go.Value.bool false,Go.Value.slice none 0 0]},fa:=[some true,some false,some false],eqs:=false}
def i57:TyI:={k:=Go.X.TyK.struct [(0,3),(3,1),(4,1)],size:=5,bytes:=56,zero:=Go.Value.agg {toList:=[Go.Value.int Go.IntKind.i64 (0),Go.Value.int Go.IntKind.i64 (0),Go.Value.int Go.IntKind.i64 (0),Go.Value.bool false,Go.Value.slice none 0 0]},fa:=[some true,some false,some false],eqs:=false}
def i62:TyI:={k:=Go.X.TyK.struct [(0,1),(1,1),(2,1),(3,1),(4,1),(5,1),(6,1),(7,1),(8,1),(9,1),(10,1)],size:=11,bytes:=104,zero:=Go.Value.agg {toList:=[Go.Value.int Go.IntKind.i64 (0),Go.Value.int Go.IntKind.i64 (0),Go.Value.int Go.IntKind.i64 (0),Go.Value.int Go.IntKind.i64 (0),Go.Value.int Go.IntKind.i64 (0),Go.Value.int Go.IntKind.i64 (0),Go.Value.slice none 0 0,Go.Value.int Go.IntKind.i64 (0),Go.Value.int Go.IntKind.i64 (0),Go.Value.int Go.IntKind.i64 (0),Go.Value.int Go.IntKind.i64 (0)]},fa:=[some false,some false,some false,some false,some false,some false,some false,some false,some false,some false,some false],eqs:=false}
def i63:TyI:={k:=Go.X.TyK.struct [(0,1),(1,1),(2,1),(3,1),(4,1),(5,1),(6,1),(7,1),(8,1),(9,1),(10,1)],size:=11,bytes:=104,zero:=Go.Value.agg {toList:=[Go.Value.int Go.IntKind.i64 (0),Go.Value.int Go.IntKind.i64 (0),Go.Value.int Go.IntKind.i64 (0),Go.Value.int Go.IntKind.i64 (0),Go.Value.int Go.IntKind.i64 (0),Go.Value.int Go.IntKind.i64 (0),Go.Value.slice none 0 0,Go.Value.int Go.IntKind.i64 (0),Go.Value.int Go.IntKind.i64 (0),Go.Value.int Go.IntKind.i64 (0),Go.Value.int Go.IntKind.i64 (0)]},fa:=[some false,some false,some false,some false,some false,some false,some false,some false,some false,some false,some false],eqs:=false}
def i64:TyI:={k:=Go.X.TyK.slice 77,size:=1,bytes:=24,zero:=Go.Value.slice none 0 0,fa:=[],eqs:=false}
def i76:TyI:={k:=Go.X.TyK.struct [(0,1),(1,1)],size:=2,bytes:=32,zero:=Go.Value.agg {toList:=[Go.Value.slice none 0 0,Go.Value.int Go.IntKind.i64 (0)]},fa:=[some false,some false],eqs:=false}
def i77:TyI:={k:=Go.X.TyK.struct [(0,1),(1,1)],size:=2,bytes:=32,zero:=Go.Value.agg {toList:=[Go.Value.slice none 0 0,Go.Value.int Go.IntKind.i64 (0)]},fa:=[some false,some false],eqs:=false}
def i97:TyI:={k:=Go.X.TyK.slice 101,size:=1,bytes:=24,zero:=Go.Value.slice none 0 0,fa:=[],eqs:=false}
def i98:TyI:={k:=Go.X.TyK.slice 169,size:=1,bytes:=24,zero:=Go.Value.slice none 0 0,fa:=[],eqs:=false}
def i99:TyI:={k:=Go.X.TyK.slice 169,size:=1,bytes:=24,zero:=Go.Value.slice none 0 0,fa:=[],eqs:=false}
def i100:TyI:={k:=Go.X.TyK.struct [(0,1),(1,1),(2,1)],size:=3,bytes:=56,zero:=Go.Value.agg {toList:=[Go.Value.bool false,Go.Value.slice none 0 0,Go.Value.slice none 0 0]},fa:=[some false,some false,some false],eqs:=false}
def i101:TyI:={k:=Go.X.TyK.struct [(0,1),(1,1),(2,1)],size:=3,bytes:=56,zero:=Go.Value.agg {toList:=[Go.Value.bool false,Go.Value.slice none 0 0,Go.Value.slice none 0 0]},fa:=[some false,some false,some false],eqs:=false}
def i102:TyI:={k:=Go.X.TyK.struct [(0,1),(1,1),(2,3),(5,3),(8,3),(11,1),(12,1),(13,1)],size:=14,bytes:=288,zero:=Go.Value.agg {toList:=[Go.Value.slice none 0 0,Go.Value.slice none 0 0,Go.Value.bool false,Go.Value.slice none 0 0,Go.Value.slice none 0 0,Go.Value.bool false,Go.Value.slice none 0 0,Go.Value.slice none 0 0,Go.Value.bool false,Go.Value.slice none 0 0,Go.Value.slice none 0 0,Go.Value.slice none 0 0,Go.Value.slice none 0 0,Go.Value.slice none 0 0]},fa:=[some false,some false,some true,some true,some true,some false,some false,some false],eqs:=false}
def i103:TyI:={k:=Go.X.TyK.struct [(0,1),(1,1),(2,3),(5,3),(8,3),(11,1),(12,1),(13,1)],size:=14,bytes:=288,zero:=Go.Value.agg {toList:=[Go.Value.slice none 0 0,Go.Value.slice none 0 0,Go.Value.bool false,Go.Value.slice none 0 0,Go.Value.slice none 0 0,Go.Value.bool false,Go.Value.slice none 0 0,Go.Value.slice none 0 0,Go.Value.bool false,Go.Value.slice none 0 0,Go.Value.slice none 0 0,Go.Value.slice none 0 0,Go.Value.slice none 0 0,Go.Value.slice none 0 0]},fa:=[some false,some false,some true,some true,some true,some false,some false,some false],eqs:=false}
def i114:TyI:={k:=Go.X.TyK.slice 5,size:=1,bytes:=24,zero:=Go.Value.slice none 0 0,fa:=[],eqs:=false}
def i116:TyI:={k:=Go.X.TyK.other,size:=1,bytes:=8,zero:=Go.Value.pointer none,fa:=[],eqs:=false}
def i120:TyI:={k:=Go.X.TyK.slice 97,size:=1,bytes:=24,zero:=Go.Value.slice none 0 0,fa:=[],eqs:=false}
def i121:TyI:={k:=Go.X.TyK.struct [(0,9),(9,1),(10,1),(11,1),(12,1)],size:=13,bytes:=192,zero:=Go.Value.agg {toList:=[Go.Value.string ⟨#[]⟩,Go.Value.slice none 0 0,Go.Value.int Go.IntKind.i64 (0),Go.Value.int Go.IntKind.i64 (0),Go.Value.int Go.IntKind.i64 (0),Go.Value.int Go.IntKind.i64 (0),Go.Value.int Go.IntKind.i64 (0),Go.Value.int Go.IntKind.i64 (0),Go.Value.int Go.IntKind.i64 (0),Go.Value.slice none 0 0,Go.Value.slice none 0 0,Go.Value.slice none 0 0,Go.Value.slice none 0 0]},fa:=[some true,some false,some false,some false,some false],eqs:=false}
def i122:TyI:={k:=Go.X.TyK.struct [(0,9),(9,1),(10,1),(11,1),(12,1)],size:=13,bytes:=192,zero:=Go.Value.agg {toList:=[Go.Value.string ⟨#[]⟩,Go.Value.slice none 0 0,Go.Value.int Go.IntKind.i64 (0),Go.Value.int Go.IntKind.i64 (0),Go.Value.int Go.IntKind.i64 (0),Go.Value.int Go.IntKind.i64 (0),Go.Value.int Go.IntKind.i64 (0),Go.Value.int Go.IntKind.i64 (0),Go.Value.int Go.IntKind.i64 (0),Go.Value.slice none 0 0,Go.Value.slice none 0 0,Go.Value.slice none 0 0,Go.Value.slice none 0 0]},fa:=[some true,some false,some false,some false,some false],eqs:=false}
def i130:TyI:={k:=Go.X.TyK.other,size:=1,bytes:=8,zero:=Go.Value.pointer none,fa:=[],eqs:=false}
def i132:TyI:={k:=Go.X.TyK.struct [(0,9),(9,1),(10,1),(11,1),(12,1),(13,1),(14,1),(15,1),(16,1),(17,1),(18,6)],size:=24,bytes:=328,zero:=Go.Value.agg {toList:=[Go.Value.string ⟨#[]⟩,Go.Value.slice none 0 0,Go.Value.int Go.IntKind.i64 (0),Go.Value.int Go.IntKind.i64 (0),Go.Value.int Go.IntKind.i64 (0),Go.Value.int Go.IntKind.i64 (0),Go.Value.int Go.IntKind.i64 (0),Go.Value.int Go.IntKind.i64 (0),Go.Value.int Go.IntKind.i64 (0),Go.Value.slice none 0 0,Go.Value.slice none 0 0,Go.Value.int Go.IntKind.i64 (0),Go.Value.slice none 0 0,Go.Value.slice none 0 0,Go.Value.int Go.IntKind.i64 (0),Go.Value.slice none 0 0,Go.Value.int Go.IntKind.i64 (0),Go.Value.int Go.IntKind.i64 (0),Go.Value.int Go.IntKind.i64 (0),Go.Value.int Go.IntKind.i64 (0),Go.Value.int Go.IntKind.i64 (0),Go.Value.int Go.IntKind.i64 (0),Go.Value.slice none 0 0,Go.Value.slice none 0 0]},fa:=[some true,some false,some false,some false,some false,some false,some false,some false,some false,some false,some true],eqs:=false}
def i133:TyI:={k:=Go.X.TyK.struct [(0,9),(9,1),(10,1),(11,1),(12,1),(13,1),(14,1),(15,1),(16,1),(17,1),(18,6)],size:=24,bytes:=328,zero:=Go.Value.agg {toList:=[Go.Value.string ⟨#[]⟩,Go.Value.slice none 0 0,Go.Value.int Go.IntKind.i64 (0),Go.Value.int Go.IntKind.i64 (0),Go.Value.int Go.IntKind.i64 (0),Go.Value.int Go.IntKind.i64 (0),Go.Value.int Go.IntKind.i64 (0),Go.Value.int Go.IntKind.i64 (0),Go.Value.int Go.IntKind.i64 (0),Go.Value.slice none 0 0,Go.Value.slice none 0 0,Go.Value.int Go.IntKind.i64 (0),Go.Value.slice none 0 0,Go.Value.slice none 0 0,Go.Value.int Go.IntKind.i64 (0),Go.Value.slice none 0 0,Go.Value.int Go.IntKind.i64 (0),Go.Value.int Go.IntKind.i64 (0),Go.Value.int Go.IntKind.i64 (0),Go.Value.int Go.IntKind.i64 (0),Go.Value.int Go.IntKind.i64 (0),Go.Value.int Go.IntKind.i64 (0),Go.Value.slice none 0 0,Go.Value.slice none 0 0]},fa:=[some true,some false,some false,some false,some false,some false,some false,some false,some false,some false,some true],eqs:=false}
def i134:TyI:={k:=Go.X.TyK.other,size:=1,bytes:=8,zero:=Go.Value.pointer none,fa:=[],eqs:=false}
def i136:TyI:={k:=Go.X.TyK.slice 140,size:=1,bytes:=24,zero:=Go.Value.slice none 0 0,fa:=[],eqs:=false}
def i137:TyI:={k:=Go.X.TyK.struct [(0,9),(9,1),(10,1),(11,1),(12,1),(13,1),(14,1),(15,1),(16,1),(17,6)],size:=23,bytes:=320,zero:=Go.Value.agg {toList:=[Go.Value.string ⟨#[]⟩,Go.Value.slice none 0 0,Go.Value.int Go.IntKind.i64 (0),Go.Value.int Go.IntKind.i64 (0),Go.Value.int Go.IntKind.i64 (0),Go.Value.int Go.IntKind.i64 (0),Go.Value.int Go.IntKind.i64 (0),Go.Value.int Go.IntKind.i64 (0),Go.Value.int Go.IntKind.i64 (0),Go.Value.slice none 0 0,Go.Value.int Go.IntKind.i64 (0),Go.Value.int Go.IntKind.i64 (0),Go.Value.slice none 0 0,Go.Value.slice none 0 0,Go.Value.slice none 0 0,Go.Value.int Go.IntKind.i64 (0),Go.Value.slice none 0 0,Go.Value.int Go.IntKind.i64 (0),Go.Value.int Go.IntKind.i64 (0),Go.Value.int Go.IntKind.i64 (0),Go.Value.int Go.IntKind.i64 (0),Go.Value.slice none 0 0,Go.Value.slice none 0 0]},fa:=[some true,some false,some false,some false,some false,some false,some false,some false,some false,some true],eqs:=false}
def i138:TyI:={k:=Go.X.TyK.struct [(0,9),(9,1),(10,1),(11,1),(12,1),(13,1),(14,1),(15,1),(16,1),(17,6)],size:=23,bytes:=320,zero:=Go.Value.agg {toList:=[Go.Value.string ⟨#[]⟩,Go.Value.slice none 0 0,Go.Value.int Go.IntKind.i64 (0),Go.Value.int Go.IntKind.i64 (0),Go.Value.int Go.IntKind.i64 (0),Go.Value.int Go.IntKind.i64 (0),Go.Value.int Go.IntKind.i64 (0),Go.Value.int Go.IntKind.i64 (0),Go.Value.int Go.IntKind.i64 (0),Go.Value.slice none 0 0,Go.Value.int Go.IntKind.i64 (0),Go.Value.int Go.IntKind.i64 (0),Go.Value.slice none 0 0,Go.Value.slice none 0 0,Go.Value.slice none 0 0,Go.Value.int Go.IntKind.i64 (0),Go.Value.slice none 0 0,Go.Value.int Go.IntKind.i64 (0),Go.Value.int Go.IntKind.i64 (0),Go.Value.int Go.IntKind.i64 (0),Go.Value.int Go.IntKind.i64 (0),Go.Value.slice none 0 0,Go.Value.slice none 0 0]},fa:=[some true,some false,some false,some false,some false,some false,some false,some false,some false,some true],eqs:=false}
def i139:TyI:={k:=Go.X.TyK.struct [(0,1),(1,1),(2,1),(3,3)],size:=6,bytes:=96,zero:=Go.Value.agg {toList:=[Go.Value.slice none 0 0,Go.Value.int Go.IntKind.i64 (0),Go.Value.int Go.IntKind.i64 (0),Go.Value.bool false,Go.Value.slice none 0 0,Go.Value.slice none 0 0]},fa:=[some false,some false,some false,some true],eqs:=false}
def i140:TyI:={k:=Go.X.TyK.struct [(0,1),(1,1),(2,1),(3,3)],size:=6,bytes:=96,zero:=Go.Value.agg {toList:=[Go.Value.slice none 0 0,Go.Value.int Go.IntKind.i64 (0),Go.Value.int Go.IntKind.i64 (0),Go.Value.bool false,Go.Value.slice none 0 0,Go.Value.slice none 0 0]},fa:=[some false,some false,some false,some true],eqs:=false}
def i153:TyI:={k:=Go.X.TyK.slice 4,size:=1,bytes:=24,zero:=Go.Value.slice none 0 0,fa:=[],eqs:=false}
def i155:TyI:={k:=Go.X.TyK.slice 153,size:=1,bytes:=24,zero:=Go.Value.slice none 0 0,fa:=[],eqs:=false}
def i156:TyI:={k:=Go.X.TyK.struct [(0,1),(1,1),(2,1)],size:=3,bytes:=72,zero:=Go.Value.agg {toList:=[Go.Value.slice none 0 0,Go.Value.slice none 0 0,Go.Value.slice none 0 0]},fa:=[some false,some false,some false],eqs:=false}
def i157:TyI:={k:=Go.X.TyK.struct [(0,1),(1,1),(2,1)],size:=3,bytes:=72,zero:=Go.Value.agg {toList:=[Go.Value.slice none 0 0,Go.Value.slice none 0 0,Go.Value.slice none 0 0]},fa:=[some false,some false,some false],eqs:=false}
def i169:TyI:={k:=Go.X.TyK.int Go.IntKind.u32,size:=1,bytes:=4,zero:=Go.Value.int Go.IntKind.u32 (0),fa:=[],eqs:=false}
def i170:TyI:={k:=Go.X.TyK.array 7 4,size:=7,bytes:=7,zero:=Go.Value.agg {toList:=[Go.Value.bool false,Go.Value.bool false,Go.Value.bool false,Go.Value.bool false,Go.Value.bool false,Go.Value.bool false,Go.Value.bool false]},fa:=[],eqs:=false}
def i172:TyI:={k:=Go.X.TyK.struct [(0,9),(9,1),(10,1),(11,1),(12,1),(13,1),(14,1)],size:=15,bytes:=224,zero:=Go.Value.agg {toList:=[Go.Value.string ⟨#[]⟩,Go.Value.slice none 0 0,Go.Value.int Go.IntKind.i64 (0),Go.Value.int Go.IntKind.i64 (0),Go.Value.int Go.IntKind.i64 (0),Go.Value.int Go.IntKind.i64 (0),Go.Value.int Go.IntKind.i64 (0),Go.Value.int Go.IntKind.i64 (0),Go.Value.int Go.IntKind.i64 (0),Go.Value.slice none 0 0,Go.Value.slice none 0 0,Go.Value.slice none 0 0,Go.Value.slice none 0 0,Go.Value.int Go.IntKind.i64 (0),Go.Value.slice none 0 0]},fa:=[some true,some false,some false,some false,some false,some false,some false],eqs:=false}
def i173:TyI:={k:=Go.X.TyK.struct [(0,9),(9,1),(10,1),(11,1),(12,1),(13,1),(14,1)],size:=15,bytes:=224,zero:=Go.Value.agg {toList:=[Go.Value.string ⟨#[]⟩,Go.Value.slice none 0 0,Go.Value.int Go.IntKind.i64 (0),Go.Value.int Go.IntKind.i64 (0),Go.Value.int Go.IntKind.i64 (0),Go.Value.int Go.IntKind.i64 (0),Go.Value.int Go.IntKind.i64 (0),Go.Value.int Go.IntKind.i64 (0),Go.Value.int Go.IntKind.i64 (0),Go.Value.slice none 0 0,Go.Value.slice none 0 0,Go.Value.slice none 0 0,Go.Value.slice none 0 0,Go.Value.int Go.IntKind.i64 (0),Go.Value.slice none 0 0]},fa:=[some true,some false,some false,some false,some false,some false,some false],eqs:=false}
def i175:TyI:={k:=Go.X.TyK.other,size:=1,bytes:=8,zero:=Go.Value.pointer none,fa:=[],eqs:=false}
def i176:TyI:={k:=Go.X.TyK.struct [(0,15)],size:=15,bytes:=224,zero:=Go.Value.agg {toList:=[Go.Value.string ⟨#[]⟩,Go.Value.slice none 0 0,Go.Value.int Go.IntKind.i64 (0),Go.Value.int Go.IntKind.i64 (0),Go.Value.int Go.IntKind.i64 (0),Go.Value.int Go.IntKind.i64 (0),Go.Value.int Go.IntKind.i64 (0),Go.Value.int Go.IntKind.i64 (0),Go.Value.int Go.IntKind.i64 (0),Go.Value.slice none 0 0,Go.Value.slice none 0 0,Go.Value.slice none 0 0,Go.Value.slice none 0 0,Go.Value.int Go.IntKind.i64 (0),Go.Value.slice none 0 0]},fa:=[some true],eqs:=false}
def i177:TyI:={k:=Go.X.TyK.struct [(0,15)],size:=15,bytes:=224,zero:=Go.Value.agg {toList:=[Go.Value.string ⟨#[]⟩,Go.Value.slice none 0 0,Go.Value.int Go.IntKind.i64 (0),Go.Value.int Go.IntKind.i64 (0),Go.Value.int Go.IntKind.i64 (0),Go.Value.int Go.IntKind.i64 (0),Go.Value.int Go.IntKind.i64 (0),Go.Value.int Go.IntKind.i64 (0),Go.Value.int Go.IntKind.i64 (0),Go.Value.slice none 0 0,Go.Value.slice none 0 0,Go.Value.slice none 0 0,Go.Value.slice none 0 0,Go.Value.int Go.IntKind.i64 (0),Go.Value.slice none 0 0]},fa:=[some true],eqs:=false}
def i178:TyI:={k:=Go.X.TyK.other,size:=1,bytes:=8,zero:=Go.Value.pointer none,fa:=[],eqs:=false}
def i179:TyI:={k:=Go.X.TyK.struct [(0,15),(15,1),(16,1),(17,1),(18,1),(19,1)],size:=20,bytes:=280,zero:=Go.Value.agg {toList:=[Go.Value.string ⟨#[]⟩,Go.Value.slice none 0 0,Go.Value.int Go.IntKind.i64 (0),Go.Value.int Go.IntKind.i64 (0),Go.Value.int Go.IntKind.i64 (0),Go.Value.int Go.IntKind.i64 (0),Go.Value.int Go.IntKind.i64 (0),Go.Value.int Go.IntKind.i64 (0),Go.Value.int Go.IntKind.i64 (0),Go.Value.slice none 0 0,Go.Value.slice none 0 0,Go.Value.slice none 0 0,Go.Value.slice none 0 0,Go.Value.int Go.IntKind.i64 (0),Go.Value.slice none 0 0,Go.Value.int Go.IntKind.i64 (0),Go.Value.slice none 0 0,Go.Value.int Go.IntKind.i64 (0),Go.Value.bool false,Go.Value.int Go.IntKind.i64 (0)]},fa:=[some true,some false,some false,some false,some false,some false],eqs:=false}
def i180:TyI:={k:=Go.X.TyK.struct [(0,15),(15,1),(16,1),(17,1),(18,1),(19,1)],size:=20,bytes:=280,zero:=Go.Value.agg {toList:=[Go.Value.string ⟨#[]⟩,Go.Value.slice none 0 0,Go.Value.int Go.IntKind.i64 (0),Go.Value.int Go.IntKind.i64 (0),Go.Value.int Go.IntKind.i64 (0),Go.Value.int Go.IntKind.i64 (0),Go.Value.int Go.IntKind.i64 (0),Go.Value.int Go.IntKind.i64 (0),Go.Value.int Go.IntKind.i64 (0),Go.Value.slice none 0 0,Go.Value.slice none 0 0,Go.Value.slice none 0 0,Go.Value.slice none 0 0,Go.Value.int Go.IntKind.i64 (0),Go.Value.slice none 0 0,Go.Value.int Go.IntKind.i64 (0),Go.Value.slice none 0 0,Go.Value.int Go.IntKind.i64 (0),Go.Value.bool false,Go.Value.int Go.IntKind.i64 (0)]},fa:=[some true,some false,some false,some false,some false,some false],eqs:=false}
def i181:TyI:={k:=Go.X.TyK.other,size:=1,bytes:=8,zero:=Go.Value.pointer none,fa:=[],eqs:=false}
def i182:TyI:={k:=Go.X.TyK.struct [(0,15),(15,1),(16,1),(17,1),(18,1),(19,1),(20,1)],size:=21,bytes:=352,zero:=Go.Value.agg {toList:=[Go.Value.string ⟨#[]⟩,Go.Value.slice none 0 0,Go.Value.int Go.IntKind.i64 (0),Go.Value.int Go.IntKind.i64 (0),Go.Value.int Go.IntKind.i64 (0),Go.Value.int Go.IntKind.i64 (0),Go.Value.int Go.IntKind.i64 (0),Go.Value.int Go.IntKind.i64 (0),Go.Value.int Go.IntKind.i64 (0),Go.Value.slice none 0 0,Go.Value.slice none 0 0,Go.Value.slice none 0 0,Go.Value.slice none 0 0,Go.Value.int Go.IntKind.i64 (0),Go.Value.slice none 0 0,Go.Value.int Go.IntKind.i64 (0),Go.Value.slice none 0 0,Go.Value.slice none 0 0,Go.Value.slice none 0 0,Go.Value.slice none 0 0,Go.Value.slice none 0 0]},fa:=[some true,some false,some false,some false,some false,some false,some false],eqs:=false}
def i183:TyI:={k:=Go.X.TyK.struct [(0,15),(15,1),(16,1),(17,1),(18,1),(19,1),(20,1)],size:=21,bytes:=352,zero:=Go.Value.agg {toList:=[Go.Value.string ⟨#[]⟩,Go.Value.slice none 0 0,Go.Value.int Go.IntKind.i64 (0),Go.Value.int Go.IntKind.i64 (0),Go.Value.int Go.IntKind.i64 (0),Go.Value.int Go.IntKind.i64 (0),Go.Value.int Go.IntKind.i64 (0),Go.Value.int Go.IntKind.i64 (0),Go.Value.int Go.IntKind.i64 (0),Go.Value.slice none 0 0,Go.Value.slice none 0 0,Go.Value.slice none 0 0,Go.Value.slice none 0 0,Go.Value.int Go.IntKind.i64 (0),Go.Value.slice none 0 0,Go.Value.int Go.IntKind.i64 (0),Go.Value.slice none 0 0,Go.Value.slice none 0 0,Go.Value.slice none 0 0,Go.Value.slice none 0 0,Go.Value.slice none 0 0]},fa:=[some true,some false,some false,some false,some false,some false,some false],eqs:=false}
def i190:TyI:={k:=Go.X.TyK.int Go.IntKind.u64,size:=1,bytes:=8,zero:=Go.Value.int Go.IntKind.u64 (0),fa:=[],eqs:=false}
def i194:TyI:={k:=Go.X.TyK.other,size:=1,bytes:=8,zero:=Go.Value.pointer none,fa:=[],eqs:=false}
def i204:TyI:={k:=Go.X.TyK.int Go.IntKind.u64,size:=1,bytes:=8,zero:=Go.Value.int Go.IntKind.u64 (0),fa:=[],eqs:=false}
def i221:TyI:={k:=Go.X.TyK.struct [(0,1),(1,1),(2,1)],size:=3,bytes:=56,zero:=Go.Value.agg {toList:=[Go.Value.bool false,Go.Value.slice none 0 0,Go.Value.slice none 0 0]},fa:=[some false,some false,some false],eqs:=false}
def i222:TyI:={k:=Go.X.TyK.struct [(0,1),(1,1),(2,1)],size:=3,bytes:=56,zero:=Go.Value.agg {toList:=[Go.Value.bool false,Go.Value.slice none 0 0,Go.Value.slice none 0 0]},fa:=[some false,some false,some false],eqs:=false}
def i252:TyI:={k:=Go.X.TyK.int Go.IntKind.i64,size:=1,bytes:=8,zero:=Go.Value.int Go.IntKind.i64 (0),fa:=[],eqs:=false}
def i276:TyI:={k:=Go.X.TyK.other,size:=1,bytes:=8,zero:=Go.Value.pointer none,fa:=[],eqs:=false}
def i277:TyI:={k:=Go.X.TyK.int Go.IntKind.u64,size:=1,bytes:=8,zero:=Go.Value.int Go.IntKind.u64 (0),fa:=[],eqs:=false}
def i281:TyI:={k:=Go.X.TyK.other,size:=1,bytes:=8,zero:=Go.Value.pointer none,fa:=[],eqs:=false}
def i296:TyI:={k:=Go.X.TyK.other,size:=1,bytes:=8,zero:=Go.Value.pointer none,fa:=[],eqs:=false}
def i311:TyI:={k:=Go.X.TyK.int Go.IntKind.u8,size:=1,bytes:=1,zero:=Go.Value.int Go.IntKind.u8 (0),fa:=[],eqs:=false}
def i312:TyI:={k:=Go.X.TyK.int Go.IntKind.u8,size:=1,bytes:=1,zero:=Go.Value.int Go.IntKind.u8 (0),fa:=[],eqs:=false}
def i314:TyI:={k:=Go.X.TyK.other,size:=1,bytes:=8,zero:=Go.Value.pointer none,fa:=[],eqs:=false}
def i315:TyI:={k:=Go.X.TyK.int Go.IntKind.i32,size:=1,bytes:=4,zero:=Go.Value.int Go.IntKind.i32 (0),fa:=[],eqs:=false}
def i316:TyI:={k:=Go.X.TyK.int Go.IntKind.i32,size:=1,bytes:=4,zero:=Go.Value.int Go.IntKind.i32 (0),fa:=[],eqs:=false}
def i323:TyI:={k:=Go.X.TyK.other,size:=1,bytes:=8,zero:=Go.Value.pointer none,fa:=[],eqs:=false}
def tab:Tab:=[(2,i2,y2),(3,i3,y3),(4,i4,y4),(5,i5,y5),(6,i6,y6),(7,i7,y7),(8,i8,y8),(9,i9,y9),(10,i10,y10),(11,i11,y11),(12,i12,y12),(13,i13,y13),(14,i14,y14),(21,i21,y21),(22,i22,y22),(23,i23,y23),(24,i24,y24),(25,i25,y25),(26,i26,y26),(32,i32,y32),(33,i33,y33),(35,i35,y35),(36,i36,y36),(37,i37,y37),(38,i38,y38),(48,i48,y48),(49,i49,y49),(51,i51,y51),(54,i54,y54),(55,i55,y55),(56,i56,y56),(57,i57,y57),(62,i62,y62),(63,i63,y63),(64,i64,y64),(76,i76,y76),(77,i77,y77),(97,i97,y97),(98,i98,y98),(99,i99,y99),(100,i100,y100),(101,i101,y101),(102,i102,y102),(103,i103,y103),(114,i114,y114),(116,i116,y116),(120,i120,y120),(121,i121,y121),(122,i122,y122),(130,i130,y130),(132,i132,y132),(133,i133,y133),(134,i134,y134),(136,i136,y136),(137,i137,y137),(138,i138,y138),(139,i139,y139),(140,i140,y140),(153,i153,y153),(155,i155,y155),(156,i156,y156),(157,i157,y157),(169,i169,y169),(170,i170,y170),(172,i172,y172),(173,i173,y173),(175,i175,y175),(176,i176,y176),(177,i177,y177),(178,i178,y178),(179,i179,y179),(180,i180,y180),(181,i181,y181),(182,i182,y182),(183,i183,y183),(190,i190,y190),(194,i194,y194),(204,i204,y204),(221,i221,y221),(222,i222,y222),(252,i252,y252),(276,i276,y276),(277,i277,y277),(281,i281,y281),(296,i296,y296),(311,i311,y311),(312,i312,y312),(314,i314,y314),(315,i315,y315),(316,i316,y316),(323,i323,y323)]
theorem ty2:Go.X.ty Tryz.prog 2=some i2:=by kernel_rfl
theorem ty3:Go.X.ty Tryz.prog 3=some i3:=by kernel_rfl
theorem ty4:Go.X.ty Tryz.prog 4=some i4:=by kernel_rfl
theorem ty5:Go.X.ty Tryz.prog 5=some i5:=by kernel_rfl
theorem ty6:Go.X.ty Tryz.prog 6=some i6:=by kernel_rfl
theorem ty7:Go.X.ty Tryz.prog 7=some i7:=by kernel_rfl
theorem ty8:Go.X.ty Tryz.prog 8=some i8:=by kernel_rfl
theorem ty9:Go.X.ty Tryz.prog 9=some i9:=by kernel_rfl
theorem ty10:Go.X.ty Tryz.prog 10=some i10:=by kernel_rfl
theorem ty11:Go.X.ty Tryz.prog 11=some i11:=by kernel_rfl
theorem ty12:Go.X.ty Tryz.prog 12=some i12:=by kernel_rfl
theorem ty13:Go.X.ty Tryz.prog 13=some i13:=by kernel_rfl
theorem ty14:Go.X.ty Tryz.prog 14=some i14:=by kernel_rfl
theorem ty21:Go.X.ty Tryz.prog 21=some i21:=by kernel_rfl
theorem ty22:Go.X.ty Tryz.prog 22=some i22:=by kernel_rfl
theorem ty23:Go.X.ty Tryz.prog 23=some i23:=by kernel_rfl
theorem ty24:Go.X.ty Tryz.prog 24=some i24:=by kernel_rfl
theorem ty25:Go.X.ty Tryz.prog 25=some i25:=by kernel_rfl
theorem ty26:Go.X.ty Tryz.prog 26=some i26:=by kernel_rfl
theorem ty32:Go.X.ty Tryz.prog 32=some i32:=by kernel_rfl
theorem ty33:Go.X.ty Tryz.prog 33=some i33:=by kernel_rfl
theorem ty35:Go.X.ty Tryz.prog 35=some i35:=by kernel_rfl
theorem ty36:Go.X.ty Tryz.prog 36=some i36:=by kernel_rfl
theorem ty37:Go.X.ty Tryz.prog 37=some i37:=by kernel_rfl
theorem ty38:Go.X.ty Tryz.prog 38=some i38:=by kernel_rfl
theorem ty48:Go.X.ty Tryz.prog 48=some i48:=by kernel_rfl
theorem ty49:Go.X.ty Tryz.prog 49=some i49:=by kernel_rfl
theorem ty51:Go.X.ty Tryz.prog 51=some i51:=by kernel_rfl
theorem ty54:Go.X.ty Tryz.prog 54=some i54:=by kernel_rfl
theorem ty55:Go.X.ty Tryz.prog 55=some i55:=by kernel_rfl
theorem ty56:Go.X.ty Tryz.prog 56=some i56:=by kernel_rfl
theorem ty57:Go.X.ty Tryz.prog 57=some i57:=by kernel_rfl
theorem ty62:Go.X.ty Tryz.prog 62=some i62:=by kernel_rfl
theorem ty63:Go.X.ty Tryz.prog 63=some i63:=by kernel_rfl
theorem ty64:Go.X.ty Tryz.prog 64=some i64:=by kernel_rfl
theorem ty76:Go.X.ty Tryz.prog 76=some i76:=by kernel_rfl
theorem ty77:Go.X.ty Tryz.prog 77=some i77:=by kernel_rfl
theorem ty97:Go.X.ty Tryz.prog 97=some i97:=by kernel_rfl
theorem ty98:Go.X.ty Tryz.prog 98=some i98:=by kernel_rfl
theorem ty99:Go.X.ty Tryz.prog 99=some i99:=by kernel_rfl
theorem ty100:Go.X.ty Tryz.prog 100=some i100:=by kernel_rfl
theorem ty101:Go.X.ty Tryz.prog 101=some i101:=by kernel_rfl
theorem ty102:Go.X.ty Tryz.prog 102=some i102:=by kernel_rfl
theorem ty103:Go.X.ty Tryz.prog 103=some i103:=by kernel_rfl
theorem ty114:Go.X.ty Tryz.prog 114=some i114:=by kernel_rfl
theorem ty116:Go.X.ty Tryz.prog 116=some i116:=by kernel_rfl
theorem ty120:Go.X.ty Tryz.prog 120=some i120:=by kernel_rfl
theorem ty121:Go.X.ty Tryz.prog 121=some i121:=by kernel_rfl
theorem ty122:Go.X.ty Tryz.prog 122=some i122:=by kernel_rfl
theorem ty130:Go.X.ty Tryz.prog 130=some i130:=by kernel_rfl
theorem ty132:Go.X.ty Tryz.prog 132=some i132:=by kernel_rfl
theorem ty133:Go.X.ty Tryz.prog 133=some i133:=by kernel_rfl
theorem ty134:Go.X.ty Tryz.prog 134=some i134:=by kernel_rfl
theorem ty136:Go.X.ty Tryz.prog 136=some i136:=by kernel_rfl
theorem ty137:Go.X.ty Tryz.prog 137=some i137:=by kernel_rfl
theorem ty138:Go.X.ty Tryz.prog 138=some i138:=by kernel_rfl
theorem ty139:Go.X.ty Tryz.prog 139=some i139:=by kernel_rfl
theorem ty140:Go.X.ty Tryz.prog 140=some i140:=by kernel_rfl
theorem ty153:Go.X.ty Tryz.prog 153=some i153:=by kernel_rfl
theorem ty155:Go.X.ty Tryz.prog 155=some i155:=by kernel_rfl
theorem ty156:Go.X.ty Tryz.prog 156=some i156:=by kernel_rfl
theorem ty157:Go.X.ty Tryz.prog 157=some i157:=by kernel_rfl
theorem ty169:Go.X.ty Tryz.prog 169=some i169:=by kernel_rfl
theorem ty170:Go.X.ty Tryz.prog 170=some i170:=by kernel_rfl
theorem ty172:Go.X.ty Tryz.prog 172=some i172:=by kernel_rfl
theorem ty173:Go.X.ty Tryz.prog 173=some i173:=by kernel_rfl
theorem ty175:Go.X.ty Tryz.prog 175=some i175:=by kernel_rfl
theorem ty176:Go.X.ty Tryz.prog 176=some i176:=by kernel_rfl
theorem ty177:Go.X.ty Tryz.prog 177=some i177:=by kernel_rfl
theorem ty178:Go.X.ty Tryz.prog 178=some i178:=by kernel_rfl
theorem ty179:Go.X.ty Tryz.prog 179=some i179:=by kernel_rfl
theorem ty180:Go.X.ty Tryz.prog 180=some i180:=by kernel_rfl
theorem ty181:Go.X.ty Tryz.prog 181=some i181:=by kernel_rfl
theorem ty182:Go.X.ty Tryz.prog 182=some i182:=by kernel_rfl
theorem ty183:Go.X.ty Tryz.prog 183=some i183:=by kernel_rfl
theorem ty190:Go.X.ty Tryz.prog 190=some i190:=by kernel_rfl
theorem ty194:Go.X.ty Tryz.prog 194=some i194:=by kernel_rfl
theorem ty204:Go.X.ty Tryz.prog 204=some i204:=by kernel_rfl
theorem ty221:Go.X.ty Tryz.prog 221=some i221:=by kernel_rfl
theorem ty222:Go.X.ty Tryz.prog 222=some i222:=by kernel_rfl
theorem ty252:Go.X.ty Tryz.prog 252=some i252:=by kernel_rfl
theorem ty276:Go.X.ty Tryz.prog 276=some i276:=by kernel_rfl
theorem ty277:Go.X.ty Tryz.prog 277=some i277:=by kernel_rfl
theorem ty281:Go.X.ty Tryz.prog 281=some i281:=by kernel_rfl
theorem ty296:Go.X.ty Tryz.prog 296=some i296:=by kernel_rfl
theorem ty311:Go.X.ty Tryz.prog 311=some i311:=by kernel_rfl
theorem ty312:Go.X.ty Tryz.prog 312=some i312:=by kernel_rfl
theorem ty314:Go.X.ty Tryz.prog 314=some i314:=by kernel_rfl
theorem ty315:Go.X.ty Tryz.prog 315=some i315:=by kernel_rfl
theorem ty316:Go.X.ty Tryz.prog 316=some i316:=by kernel_rfl
theorem ty323:Go.X.ty Tryz.prog 323=some i323:=by kernel_rfl
theorem tab_nil:∀id i t,tl [] id=some (i,t)→Go.X.ty Tryz.prog id=some i∧zte tab i t=true:=fun _ _ _ h=>by cases h
theorem zad{L:Tab}{x:TypeId}{j:TyI}{u:Ty}(h1:Go.X.ty Tryz.prog x=some j)(h2:zte tab j u=true)(h:∀id i t,tl L id=some (i,t)→Go.X.ty Tryz.prog id=some i∧zte tab i t=true):∀id i t,tl ((x,j,u)::L) id=some (i,t)→Go.X.ty Tryz.prog id=some i∧zte tab i t=true:=fun id i t hl=>by
 unfold tl at hl
 split at hl
 ·rename_i he
  subst he
  cases hl
  exact⟨h1,h2⟩
 ·exact h id i t hl
theorem tabOK:TabOK Tryz.prog tab:=
 zad ty2 (by kernel_rfl) (
 zad ty3 (by kernel_rfl) (
 zad ty4 (by kernel_rfl) (
 zad ty5 (by kernel_rfl) (
 zad ty6 (by kernel_rfl) (
 zad ty7 (by kernel_rfl) (
 zad ty8 (by kernel_rfl) (
 zad ty9 (by kernel_rfl) (
 zad ty10 (by kernel_rfl) (
 zad ty11 (by kernel_rfl) (
 zad ty12 (by kernel_rfl) (
 zad ty13 (by kernel_rfl) (
 zad ty14 (by kernel_rfl) (
 zad ty21 (by kernel_rfl) (
 zad ty22 (by kernel_rfl) (
 zad ty23 (by kernel_rfl) (
 zad ty24 (by kernel_rfl) (
 zad ty25 (by kernel_rfl) (
 zad ty26 (by kernel_rfl) (
 zad ty32 (by kernel_rfl) (
 zad ty33 (by kernel_rfl) (
 zad ty35 (by kernel_rfl) (
 zad ty36 (by kernel_rfl) (
 zad ty37 (by kernel_rfl) (
 zad ty38 (by kernel_rfl) (
 zad ty48 (by kernel_rfl) (
 zad ty49 (by kernel_rfl) (
 zad ty51 (by kernel_rfl) (
 zad ty54 (by kernel_rfl) (
 zad ty55 (by kernel_rfl) (
 zad ty56 (by kernel_rfl) (
 zad ty57 (by kernel_rfl) (
 zad ty62 (by kernel_rfl) (
 zad ty63 (by kernel_rfl) (
 zad ty64 (by kernel_rfl) (
 zad ty76 (by kernel_rfl) (
 zad ty77 (by kernel_rfl) (
 zad ty97 (by kernel_rfl) (
 zad ty98 (by kernel_rfl) (
 zad ty99 (by kernel_rfl) (
 zad ty100 (by kernel_rfl) (
 zad ty101 (by kernel_rfl) (
 zad ty102 (by kernel_rfl) (
 zad ty103 (by kernel_rfl) (
 zad ty114 (by kernel_rfl) (
 zad ty116 (by kernel_rfl) (
 zad ty120 (by kernel_rfl) (
 zad ty121 (by kernel_rfl) (
 zad ty122 (by kernel_rfl) (
 zad ty130 (by kernel_rfl) (
 zad ty132 (by kernel_rfl) (
 zad ty133 (by kernel_rfl) (
 zad ty134 (by kernel_rfl) (
 zad ty136 (by kernel_rfl) (
 zad ty137 (by kernel_rfl) (
 zad ty138 (by kernel_rfl) (
 zad ty139 (by kernel_rfl) (
 zad ty140 (by kernel_rfl) (
 zad ty153 (by kernel_rfl) (
 zad ty155 (by kernel_rfl) (
 zad ty156 (by kernel_rfl) (
 zad ty157 (by kernel_rfl) (
 zad ty169 (by kernel_rfl) (
 zad ty170 (by kernel_rfl) (
 zad ty172 (by kernel_rfl) (
 zad ty173 (by kernel_rfl) (
 zad ty175 (by kernel_rfl) (
 zad ty176 (by kernel_rfl) (
 zad ty177 (by kernel_rfl) (
 zad ty178 (by kernel_rfl) (
 zad ty179 (by kernel_rfl) (
 zad ty180 (by kernel_rfl) (
 zad ty181 (by kernel_rfl) (
 zad ty182 (by kernel_rfl) (
 zad ty183 (by kernel_rfl) (
 zad ty190 (by kernel_rfl) (
 zad ty194 (by kernel_rfl) (
 zad ty204 (by kernel_rfl) (
 zad ty221 (by kernel_rfl) (
 zad ty222 (by kernel_rfl) (
 zad ty252 (by kernel_rfl) (
 zad ty276 (by kernel_rfl) (
 zad ty277 (by kernel_rfl) (
 zad ty281 (by kernel_rfl) (
 zad ty296 (by kernel_rfl) (
 zad ty311 (by kernel_rfl) (
 zad ty312 (by kernel_rfl) (
 zad ty314 (by kernel_rfl) (
 zad ty315 (by kernel_rfl) (
 zad ty316 (by kernel_rfl) (
 zad ty323 (by kernel_rfl) (
 tab_nil)))))))))))))))))))))))))))))))))))))))))))))))))))))))))))))))))))))))))))))))))))))))))))
theorem mixd:Tryz.prog.follows .mixedOrders=true:=by kernel_rfl
abbrev w(n:Int):Int:=IntKind.wrap .i64 n
abbrev wu8(n:Int):Int:=IntKind.wrap .u8 n
abbrev wu64(n:Int):Int:=IntKind.wrap .u64 n
abbrev wu32(n:Int):Int:=IntKind.wrap .u32 n
noncomputable def code (f:Func):Code:=match f.body with
 |some c=>c
 |none=>.skip
theorem zaa{f:Func}(h:f.body.isSome=true):f.body=some (code f):=by
 unfold code
 cases hb:f.body with
 |none=>rw[hb]at h;cases h
 |some c=>rfl
end Go.Proofs.YtamgmpngdmnadaaGreat
