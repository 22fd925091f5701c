/- Part 7 of what stands below the statement. -/
import Derived.Test.YtieoleabnjdkfaaGreatProg
import Derived.Test.YtieoleabnjdkfaaGreatQ6
open Go Go.Proofs Go.X
namespace Go.Proofs.YtieoleabnjdkfaaGreat
abbrev y2:Ty:=.int .i64
abbrev y3:Ty:=.int .i64
abbrev y4:Ty:=.bool
abbrev y5:Ty:=.int .u8
abbrev y6:Ty:=.int .u8
abbrev y7:Ty:=.pair y2 (.pair y3 (.pair y4 y6))
abbrev y8:Ty:=.pair y2 (.pair y3 (.pair y4 y6))
abbrev y9:Ty:=.str
abbrev y10:Ty:=.str
abbrev y11:Ty:=.str
abbrev y12:Ty:=.int .u64
abbrev y13:Ty:=.pair y9 y12
abbrev y14:Ty:=.pair y9 y12
abbrev y21:Ty:=.int .i32
abbrev y22:Ty:=.slice y9
abbrev y23:Ty:=.pair y9 (.pair y22 (.pair y3 (.pair y3 (.pair y3 (.pair y3 (.pair y3 (.pair y3 y3)))))))
abbrev y24:Ty:=.pair y9 (.pair y22 (.pair y3 (.pair y3 (.pair y3 (.pair y3 (.pair y3 (.pair y3 y3)))))))
abbrev y26:Ty:=.slice y3
abbrev y57:Ty:=.pair y26 y3
abbrev y25:Ty:=.slice y57
abbrev y27:Ty:=.slice y26
abbrev y49:Ty:=.pair y3 (.pair y3 (.pair y3 (.pair y26 y3)))
abbrev y36:Ty:=.slice y49
abbrev y48:Ty:=.pair y3 (.pair y3 (.pair y3 (.pair y26 y3)))
abbrev y56:Ty:=.pair y26 y3
abbrev y58:Ty:=.int .i64
abbrev y80:Ty:=.int .u64
abbrev y81:Ty:=.slice y4
abbrev y83:Ty:=.arr 4 y3
abbrev y89:Ty:=.fn1 y49 y4
abbrev y90:Ty:=.arr 5 y3
abbrev y93:Ty:=.slice y5
abbrev y128:Ty:=.int .i64
abbrev y135:Ty:=.int .u32
abbrev y137:Ty:=.int .u64
abbrev y138:Ty:=.fn1 y3 y4
abbrev y146:Ty:=.int .u64
abbrev y152:Ty:=.arr 7 y4
abbrev y154:Ty:=.fn1 y57 y3
abbrev y177:Ty:=.int .u8
abbrev y178:Ty:=.int .u8
abbrev y181:Ty:=.int .i32
abbrev y182:Ty:=.int .i32
def i2:TyI:={ k:=Go.X.TyK.int Go.IntKind.i64,size:=1,bytes:=8,zero:=Go.Value.int Go.IntKind.i64 (0),fa:=[],eqs:=false }
def i3:TyI:={ k:=Go.X.TyK.int Go.IntKind.i64,size:=1,bytes:=8,zero:=Go.Value.int Go.IntKind.i64 (0),fa:=[],eqs:=false }
def i4:TyI:={ k:=Go.X.TyK.bool,size:=1,bytes:=1,zero:=Go.Value.bool false,fa:=[],eqs:=false }
def i5:TyI:={ k:=Go.X.TyK.int Go.IntKind.u8,size:=1,bytes:=1,zero:=Go.Value.int Go.IntKind.u8 (0),fa:=[],eqs:=false }
def i6:TyI:={ k:=Go.X.TyK.int Go.IntKind.u8,size:=1,bytes:=1,zero:=Go.Value.int Go.IntKind.u8 (0),fa:=[],eqs:=false }
def i7:TyI:={ k:=Go.X.TyK.struct [(0,1),(1,1),(2,1),(3,1)],size:=4,bytes:=24,zero:=Go.Value.agg { toList:=[Go.Value.int Go.IntKind.i64 (0),Go.Value.int Go.IntKind.i64 (0),Go.Value.bool false,Go.Value.int Go.IntKind.u8 (0)] },fa:=[some false,some false,some false,some false],eqs:=false }
def i8:TyI:={ k:=Go.X.TyK.struct [(0,1),(1,1),(2,1),(3,1)],size:=4,bytes:=24,zero:=Go.Value.agg { toList:=[Go.Value.int Go.IntKind.i64 (0),Go.Value.int Go.IntKind.i64 (0),Go.Value.bool false,Go.Value.int Go.IntKind.u8 (0)] },fa:=[some false,some false,some false,some false],eqs:=false }
def i9:TyI:={ k:=Go.X.TyK.string,size:=1,bytes:=16,zero:=Go.Value.string ⟨#[]⟩,fa:=[],eqs:=false }
def i10:TyI:={ k:=Go.X.TyK.string,size:=1,bytes:=16,zero:=Go.Value.string ⟨#[]⟩,fa:=[],eqs:=false }
def i11:TyI:={ k:=Go.X.TyK.string,size:=1,bytes:=16,zero:=Go.Value.string ⟨#[]⟩,fa:=[],eqs:=false }
def i12:TyI:={ k:=Go.X.TyK.int Go.IntKind.u64,size:=1,bytes:=8,zero:=Go.Value.int Go.IntKind.u64 (0),fa:=[],eqs:=false }
def i13:TyI:={ k:=Go.X.TyK.struct [(0,1),(1,1)],size:=2,bytes:=24,zero:=Go.Value.agg { toList:=[Go.Value.string ⟨#[]⟩,Go.Value.int Go.IntKind.u64 (0)] },fa:=[some false,some false],eqs:=false }
def i14:TyI:={ k:=Go.X.TyK.struct [(0,1),(1,1)],size:=2,bytes:=24,zero:=Go.Value.agg { toList:=[Go.Value.string ⟨#[]⟩,Go.Value.int Go.IntKind.u64 (0)] },fa:=[some false,some false],eqs:=false }
def i21:TyI:={ k:=Go.X.TyK.int Go.IntKind.i32,size:=1,bytes:=4,zero:=Go.Value.int Go.IntKind.i32 (0),fa:=[],eqs:=false }
def i22:TyI:={ k:=Go.X.TyK.slice 9,size:=1,bytes:=24,zero:=Go.Value.slice none 0 0,fa:=[],eqs:=false }
def i23:TyI:={ k:=Go.X.TyK.struct [(0,1),(1,1),(2,1),(3,1),(4,1),(5,1),(6,1),(7,1),(8,1)],size:=9,bytes:=96,zero:=Go.Value.agg { toList:=[Go.Value.string ⟨#[]⟩,Go.Value.slice none 0 0,Go.Value.int Go.IntKind.i64 (0),Go.Value.int Go.IntKind.i64 (0),Go.Value.int Go.IntKind.i64 (0),Go.Value.int Go.IntKind.i64 (0),Go.Value.int Go.IntKind.i64 (0),Go.Value.int Go.IntKind.i64 (0),Go.Value.int Go.IntKind.i64 (0)] },fa:=[some false,some false,some false,some false,some false,some false,some false,some false,some false],eqs:=false }
def i24:TyI:={ k:=Go.X.TyK.struct [(0,1),(1,1),(2,1),(3,1),(4,1),(5,1),(6,1),(7,1),(8,1)],size:=9,bytes:=96,zero:=Go.Value.agg { toList:=[Go.Value.string ⟨#[]⟩,Go.Value.slice none 0 0,Go.Value.int Go.IntKind.i64 (0),Go.Value.int Go.IntKind.i64 (0),Go.Value.int Go.IntKind.i64 (0),Go.Value.int Go.IntKind.i64 (0),Go.Value.int Go.IntKind.i64 (0),Go.Value.int Go.IntKind.i64 (0),Go.Value.int Go.IntKind.i64 (0)] },fa:=[some false,some false,some false,some false,some false,some false,some false,some false,some false],eqs:=false }
def i25:TyI:={ k:=Go.X.TyK.slice 57,size:=1,bytes:=24,zero:=Go.Value.slice none 0 0,fa:=[],eqs:=false }
def i26:TyI:={ k:=Go.X.TyK.slice 3,size:=1,bytes:=24,zero:=Go.Value.slice none 0 0,fa:=[],eqs:=false }
def i27:TyI:={ k:=Go.X.TyK.slice 26,size:=1,bytes:=24,zero:=Go.Value.slice none 0 0,fa:=[],eqs:=false }
def i36:TyI:={ k:=Go.X.TyK.slice 49,size:=1,bytes:=24,zero:=Go.Value.slice none 0 0,fa:=[],eqs:=false }
def i48:TyI:={ k:=Go.X.TyK.struct [(0,1),(1,1),(2,1),(3,1),(4,1)],size:=5,bytes:=56,zero:=Go.Value.agg { toList:=[Go.Value.int Go.IntKind.i64 (0),Go.Value.int Go.IntKind.i64 (0),Go.Value.int Go.IntKind.i64 (0),Go.Value.slice none 0 0,Go.Value.int Go.IntKind.i64 (0)] },fa:=[some false,some false,some false,some false,some false],eqs:=false }
def i49:TyI:={ k:=Go.X.TyK.struct [(0,1),(1,1),(2,1),(3,1),(4,1)],size:=5,bytes:=56,zero:=Go.Value.agg { toList:=[Go.Value.int Go.IntKind.i64 (0),Go.Value.int Go.IntKind.i64 (0),Go.Value.int Go.IntKind.i64 (0),Go.Value.slice none 0 0,Go.Value.int Go.IntKind.i64 (0)] },fa:=[some false,some false,some false,some false,some false],eqs:=false }
def i56:TyI:={ k:=Go.X.TyK.struct [(0,1),(1,1)],size:=2,bytes:=32,zero:=Go.Value.agg { toList:=[Go.Value.slice none 0 0,Go.Value.int Go.IntKind.i64 (0)] },fa:=[some false,some false],eqs:=false }
def i57:TyI:={ k:=Go.X.TyK.struct [(0,1),(1,1)],size:=2,bytes:=32,zero:=Go.Value.agg { toList:=[Go.Value.slice none 0 0,Go.Value.int Go.IntKind.i64 (0)] },fa:=[some false,some false],eqs:=false }
def i58:TyI:={ k:=Go.X.TyK.int Go.IntKind.i64,size:=1,bytes:=8,zero:=Go.Value.int Go.IntKind.i64 (0),fa:=[],eqs:=false }
def i80:TyI:={ k:=Go.X.TyK.int Go.IntKind.u64,size:=1,bytes:=8,zero:=Go.Value.int Go.IntKind.u64 (0),fa:=[],eqs:=false }
def i81:TyI:={ k:=Go.X.TyK.slice 4,size:=1,bytes:=24,zero:=Go.Value.slice none 0 0,fa:=[],eqs:=false }
def i83:TyI:={ k:=Go.X.TyK.array 4 3,size:=4,bytes:=32,zero:=Go.Value.agg { toList:=[Go.Value.int Go.IntKind.i64 (0),Go.Value.int Go.IntKind.i64 (0),Go.Value.int Go.IntKind.i64 (0),Go.Value.int Go.IntKind.i64 (0)] },fa:=[],eqs:=false }
def i90:TyI:={ k:=Go.X.TyK.array 5 3,size:=5,bytes:=40,zero:=Go.Value.agg { toList:=[Go.Value.int Go.IntKind.i64 (0),Go.Value.int Go.IntKind.i64 (0),Go.Value.int Go.IntKind.i64 (0),Go.Value.int Go.IntKind.i64 (0),Go.Value.int Go.IntKind.i64 (0)] },fa:=[],eqs:=false }
def i93:TyI:={ k:=Go.X.TyK.slice 5,size:=1,bytes:=24,zero:=Go.Value.slice none 0 0,fa:=[],eqs:=false }
def i128:TyI:={ k:=Go.X.TyK.int Go.IntKind.i64,size:=1,bytes:=8,zero:=Go.Value.int Go.IntKind.i64 (0),fa:=[],eqs:=false }
def i135:TyI:={ k:=Go.X.TyK.int Go.IntKind.u32,size:=1,bytes:=4,zero:=Go.Value.int Go.IntKind.u32 (0),fa:=[],eqs:=false }
def i137:TyI:={ k:=Go.X.TyK.int Go.IntKind.u64,size:=1,bytes:=8,zero:=Go.Value.int Go.IntKind.u64 (0),fa:=[],eqs:=false }
def i146:TyI:={ k:=Go.X.TyK.int Go.IntKind.u64,size:=1,bytes:=8,zero:=Go.Value.int Go.IntKind.u64 (0),fa:=[],eqs:=false }
def i152:TyI:={ k:=Go.X.TyK.array 7 4,size:=7,bytes:=7,zero:=Go.Value.agg { toList:=[Go.Value.bool false,Go.Value.bool false,Go.Value.bool false,Go.Value.bool false,Go.Value.bool false,Go.Value.bool false,Go.Value.bool false] },fa:=[],eqs:=false }
def i177:TyI:={ k:=Go.X.TyK.int Go.IntKind.u8,size:=1,bytes:=1,zero:=Go.Value.int Go.IntKind.u8 (0),fa:=[],eqs:=false }
def i178:TyI:={ k:=Go.X.TyK.int Go.IntKind.u8,size:=1,bytes:=1,zero:=Go.Value.int Go.IntKind.u8 (0),fa:=[],eqs:=false }
def i181:TyI:={ k:=Go.X.TyK.int Go.IntKind.i32,size:=1,bytes:=4,zero:=Go.Value.int Go.IntKind.i32 (0),fa:=[],eqs:=false }
def i182:TyI:={ k:=Go.X.TyK.int Go.IntKind.i32,size:=1,bytes:=4,zero:=Go.Value.int Go.IntKind.i32 (0),fa:=[],eqs:=false }
def tab:Tab:=[(2,i2,y2),(3,i3,y3),(4,i4,y4),(5,i5,y5),(6,i6,y6),(7,i7,y7),(8,i8,y8),(9,i9,y9),(10,i10,y10),(11,i11,y11),(12,i12,y12),(13,i13,y13),(14,i14,y14),(21,i21,y21),(22,i22,y22),(23,i23,y23),(24,i24,y24),(25,i25,y25),(26,i26,y26),(27,i27,y27),(36,i36,y36),(48,i48,y48),(49,i49,y49),(56,i56,y56),(57,i57,y57),(58,i58,y58),(80,i80,y80),(81,i81,y81),(83,i83,y83),(90,i90,y90),(93,i93,y93),(128,i128,y128),(135,i135,y135),(137,i137,y137),(146,i146,y146),(152,i152,y152),(177,i177,y177),(178,i178,y178),(181,i181,y181),(182,i182,y182)]
theorem ty2:Go.X.ty Tryz.prog 2=some i2:=by kernel_rfl
theorem ty3:Go.X.ty Tryz.prog 3=some i3:=by kernel_rfl
theorem ty4:Go.X.ty Tryz.prog 4=some i4:=by kernel_rfl
theorem ty5:Go.X.ty Tryz.prog 5=some i5:=by kernel_rfl
theorem ty6:Go.X.ty Tryz.prog 6=some i6:=by kernel_rfl
theorem ty7:Go.X.ty Tryz.prog 7=some i7:=by kernel_rfl
theorem ty8:Go.X.ty Tryz.prog 8=some i8:=by kernel_rfl
theorem ty9:Go.X.ty Tryz.prog 9=some i9:=by kernel_rfl
theorem ty10:Go.X.ty Tryz.prog 10=some i10:=by kernel_rfl
theorem ty11:Go.X.ty Tryz.prog 11=some i11:=by kernel_rfl
theorem ty12:Go.X.ty Tryz.prog 12=some i12:=by kernel_rfl
theorem ty13:Go.X.ty Tryz.prog 13=some i13:=by kernel_rfl
theorem ty14:Go.X.ty Tryz.prog 14=some i14:=by kernel_rfl
theorem ty21:Go.X.ty Tryz.prog 21=some i21:=by kernel_rfl
theorem ty22:Go.X.ty Tryz.prog 22=some i22:=by kernel_rfl
theorem ty23:Go.X.ty Tryz.prog 23=some i23:=by kernel_rfl
theorem ty24:Go.X.ty Tryz.prog 24=some i24:=by kernel_rfl
theorem ty25:Go.X.ty Tryz.prog 25=some i25:=by kernel_rfl
theorem ty26:Go.X.ty Tryz.prog 26=some i26:=by kernel_rfl
theorem ty27:Go.X.ty Tryz.prog 27=some i27:=by kernel_rfl
theorem ty36:Go.X.ty Tryz.prog 36=some i36:=by kernel_rfl
theorem ty48:Go.X.ty Tryz.prog 48=some i48:=by kernel_rfl
theorem ty49:Go.X.ty Tryz.prog 49=some i49:=by kernel_rfl
theorem ty56:Go.X.ty Tryz.prog 56=some i56:=by kernel_rfl
theorem ty57:Go.X.ty Tryz.prog 57=some i57:=by kernel_rfl
theorem ty58:Go.X.ty Tryz.prog 58=some i58:=by kernel_rfl
theorem ty80:Go.X.ty Tryz.prog 80=some i80:=by kernel_rfl
theorem ty81:Go.X.ty Tryz.prog 81=some i81:=by kernel_rfl
theorem ty83:Go.X.ty Tryz.prog 83=some i83:=by kernel_rfl
theorem ty90:Go.X.ty Tryz.prog 90=some i90:=by kernel_rfl
theorem ty93:Go.X.ty Tryz.prog 93=some i93:=by kernel_rfl
theorem ty128:Go.X.ty Tryz.prog 128=some i128:=by kernel_rfl
theorem ty135:Go.X.ty Tryz.prog 135=some i135:=by kernel_rfl
theorem ty137:Go.X.ty Tryz.prog 137=some i137:=by kernel_rfl
theorem ty146:Go.X.ty Tryz.prog 146=some i146:=by kernel_rfl
theorem ty152:Go.X.ty Tryz.prog 152=some i152:=by kernel_rfl
theorem ty177:Go.X.ty Tryz.prog 177=some i177:=by kernel_rfl
theorem ty178:Go.X.ty Tryz.prog 178=some i178:=by kernel_rfl
theorem ty181:Go.X.ty Tryz.prog 181=some i181:=by kernel_rfl
theorem ty182:Go.X.ty Tryz.prog 182=some i182:=by kernel_rfl
theorem tab_nil:∀ id i t,tl [] id=some (i,t)→Go.X.ty Tryz.prog id=some i∧agree tab i t=true:=fun _ _ _ h=>by cases h
theorem tab_cons {L:Tab} {x:TypeId} {j:TyI} {u:Ty} (h1:Go.X.ty Tryz.prog x=some j) (h2:agree tab j u=true) (h:∀ id i t,tl L id=some (i,t)→Go.X.ty Tryz.prog id=some i∧agree tab i t=true):∀ id i t,tl ((x,j,u)::L) id=some (i,t)→Go.X.ty Tryz.prog id=some i∧agree tab i t=true:=fun id i t hl=>by
  unfold tl at hl
  split at hl
  · rename_i he
    subst he
    cases hl
    exact ⟨h1,h2⟩
  · exact h id i t hl
theorem tabOK:TabOK Tryz.prog tab :=
  tab_cons ty2 (by kernel_rfl) (
  tab_cons ty3 (by kernel_rfl) (
  tab_cons ty4 (by kernel_rfl) (
  tab_cons ty5 (by kernel_rfl) (
  tab_cons ty6 (by kernel_rfl) (
  tab_cons ty7 (by kernel_rfl) (
  tab_cons ty8 (by kernel_rfl) (
  tab_cons ty9 (by kernel_rfl) (
  tab_cons ty10 (by kernel_rfl) (
  tab_cons ty11 (by kernel_rfl) (
  tab_cons ty12 (by kernel_rfl) (
  tab_cons ty13 (by kernel_rfl) (
  tab_cons ty14 (by kernel_rfl) (
  tab_cons ty21 (by kernel_rfl) (
  tab_cons ty22 (by kernel_rfl) (
  tab_cons ty23 (by kernel_rfl) (
  tab_cons ty24 (by kernel_rfl) (
  tab_cons ty25 (by kernel_rfl) (
  tab_cons ty26 (by kernel_rfl) (
  tab_cons ty27 (by kernel_rfl) (
  tab_cons ty36 (by kernel_rfl) (
  tab_cons ty48 (by kernel_rfl) (
  tab_cons ty49 (by kernel_rfl) (
  tab_cons ty56 (by kernel_rfl) (
  tab_cons ty57 (by kernel_rfl) (
  tab_cons ty58 (by kernel_rfl) (
  tab_cons ty80 (by kernel_rfl) (
  tab_cons ty81 (by kernel_rfl) (
  tab_cons ty83 (by kernel_rfl) (
  tab_cons ty90 (by kernel_rfl) (
  tab_cons ty93 (by kernel_rfl) (
  tab_cons ty128 (by kernel_rfl) (
  tab_cons ty135 (by kernel_rfl) (
  tab_cons ty137 (by kernel_rfl) (
  tab_cons ty146 (by kernel_rfl) (
  tab_cons ty152 (by kernel_rfl) (
  tab_cons ty177 (by kernel_rfl) (
  tab_cons ty178 (by kernel_rfl) (
  tab_cons ty181 (by kernel_rfl) (
  tab_cons ty182 (by kernel_rfl) (
  tab_nil))))))))))))))))))))))))))))))))))))))))
theorem mixd:Tryz.prog.follows .mixedOrders=true:=by kernel_rfl
abbrev w (n:Int):Int:=IntKind.wrap .i64 n
abbrev wu8 (n:Int):Int:=IntKind.wrap .u8 n
abbrev wu64 (n:Int):Int:=IntKind.wrap .u64 n
noncomputable def code (f:Func):Code:=match f.body with
  | some c=>c
  | none=>.skip
theorem code_of {f:Func} (h:f.body.isSome=true):f.body=some (code f):=by
  unfold code
  cases hb:f.body with
  | none=>rw [hb] at h; cases h
  | some c=>rfl
end Go.Proofs.YtieoleabnjdkfaaGreat
