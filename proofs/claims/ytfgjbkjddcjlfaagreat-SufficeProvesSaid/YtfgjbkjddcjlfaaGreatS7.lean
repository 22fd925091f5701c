/- Part 7 of what stands below the statement. -/
import Derived.Test.YtfgjbkjddcjlfaaGreatProg
import Derived.Test.YtfgjbkjddcjlfaaGreatS6
set_option linter.defProp false
open Go Go.Proofs Go.X
namespace Go.Proofs.YtfgjbkjddcjlfaaGreat
open Tryz
abbrev y2:Ty:=.int .i64
abbrev y3:Ty:=.int .i64
abbrev y4:Ty:=.bool
abbrev y5:Ty:=.int .u8
abbrev y6:Ty:=.int .u8
abbrev y7:Ty:=.pair y2 (.pair y3 (.pair y4 y6))
abbrev y8:Ty:=.pair y2 (.pair y3 (.pair y4 y6))
abbrev y9:Ty:=.str
abbrev y10:Ty:=.str
abbrev y11:Ty:=.str
abbrev y12:Ty:=.int .u64
abbrev y13:Ty:=.pair y9 y12
abbrev y14:Ty:=.pair y9 y12
abbrev y161:Ty:=.int .u32
abbrev y239:Ty:=.int .u8
abbrev y240:Ty:=.int .u8
abbrev y21:Ty:=.int .i32
abbrev y23:Ty:=.slice y3
abbrev y22:Ty:=.slice y23
abbrev y24:Ty:=.fn2 y3 y3 y3
abbrev y25:Ty:=.slice y9
abbrev y26:Ty:=.pair y9 (.pair y25 (.pair y3 (.pair y3 (.pair y3 (.pair y3 (.pair y3 (.pair y3 y3)))))))
abbrev y27:Ty:=.pair y9 (.pair y25 (.pair y3 (.pair y3 (.pair y3 (.pair y3 (.pair y3 (.pair y3 y3)))))))
abbrev y88:Ty:=.pair y23 y3
abbrev y29:Ty:=.slice y88
abbrev y57:Ty:=.pair y3 (.pair y3 (.pair y3 (.pair y23 y3)))
abbrev y34:Ty:=.slice y57
abbrev y83:Ty:=.slice y161
abbrev y85:Ty:=.pair y4 (.pair y83 y83)
abbrev y79:Ty:=.slice y85
abbrev y99:Ty:=.pair y79 (.pair y79 (.pair y85 (.pair y85 (.pair y85 (.pair y23 (.pair y23 y23))))))
abbrev y40:Ty:=.slice y99
abbrev y41:Ty:=.pair y3 (.pair y3 (.pair y3 (.pair y3 (.pair y40 y23))))
abbrev y42:Ty:=.pair y3 (.pair y3 (.pair y3 (.pair y3 (.pair y40 y23))))
abbrev y43:Ty:=.int .i64
abbrev y56:Ty:=.pair y3 (.pair y3 (.pair y3 (.pair y23 y3)))
abbrev y67:Ty:=.fn1 y57 y4
abbrev y73:Ty:=.slice y79
abbrev y75:Ty:=.pair y27 (.pair y29 (.pair y23 (.pair y3 (.pair y23 (.pair y23 (.pair y3 (.pair y73 (.pair y3 (.pair y3 y42)))))))))
abbrev y71:Ty:=.ptr y75
abbrev y74:Ty:=.pair y27 (.pair y29 (.pair y23 (.pair y3 (.pair y23 (.pair y23 (.pair y3 (.pair y73 (.pair y3 (.pair y3 y42)))))))))
abbrev y90:Ty:=.pair y23 (.pair y3 (.pair y3 y85))
abbrev y78:Ty:=.slice y90
abbrev y81:Ty:=.pair y27 (.pair y23 (.pair y3 (.pair y3 (.pair y78 (.pair y23 (.pair y79 (.pair y3 (.pair y73 y42))))))))
abbrev y76:Ty:=.ptr y81
abbrev y80:Ty:=.pair y27 (.pair y23 (.pair y3 (.pair y3 (.pair y78 (.pair y23 (.pair y79 (.pair y3 (.pair y73 y42))))))))
abbrev y82:Ty:=.slice y161
abbrev y84:Ty:=.pair y4 (.pair y83 y83)
abbrev y87:Ty:=.pair y23 y3
abbrev y89:Ty:=.pair y23 (.pair y3 (.pair y3 y85))
abbrev y95:Ty:=.slice y4
abbrev y97:Ty:=.pair y27 (.pair y29 (.pair y23 (.pair y95 y73)))
abbrev y91:Ty:=.ptr y97
abbrev y96:Ty:=.pair y27 (.pair y29 (.pair y23 (.pair y95 y73)))
abbrev y98:Ty:=.pair y79 (.pair y79 (.pair y85 (.pair y85 (.pair y85 (.pair y23 (.pair y23 y23))))))
abbrev y104:Ty:=.fn1 y3 y4
abbrev y108:Ty:=.slice y5
abbrev y115:Ty:=.arr 5 y3
abbrev y126:Ty:=.arr 4 y3
abbrev y127:Ty:=.int .u64
abbrev y135:Ty:=.ptr y99
abbrev y141:Ty:=.fn1 y88 y3
abbrev y145:Ty:=.int .u64
abbrev y188:Ty:=.arr 7 y4
abbrev y199:Ty:=.ptr y90
abbrev y206:Ty:=.int .i64
abbrev y220:Ty:=.int .u64
abbrev y224:Ty:=.ptr y3
abbrev y229:Ty:=.ptr y220
abbrev y242:Ty:=.ptr y5
abbrev y243:Ty:=.int .i32
abbrev y244:Ty:=.int .i32
abbrev uv0:=Value.int .i64 0
abbrev uvl:=Value.slice none 0 0
abbrev uvs:=Value.string ⟨#[]⟩
abbrev uvb:=Value.bool false
def i2:TyI:=⟨.int .i64,1,8,uv0,[],false⟩
def i3:TyI:=⟨.int .i64,1,8,uv0,[],false⟩
def i4:TyI:=⟨.bool,1,1,uvb,[],false⟩
def i5:TyI:=⟨.int .u8,1,1,.int .u8 (0),[],false⟩
def i6:TyI:=⟨.int .u8,1,1,.int .u8 (0),[],false⟩
def i7:TyI:=⟨.struct [(0,1),(1,1),(2,1),(3,1)],4,24,.agg ⟨[uv0,uv0,uvb,.int .u8 (0)]⟩,(List.replicate 4 (some false)),false⟩
def i8:TyI:=⟨.struct [(0,1),(1,1),(2,1),(3,1)],4,24,.agg ⟨[uv0,uv0,uvb,.int .u8 (0)]⟩,(List.replicate 4 (some false)),false⟩
def i9:TyI:=⟨.string,1,16,uvs,[],false⟩
def i10:TyI:=⟨.string,1,16,uvs,[],false⟩
def i11:TyI:=⟨.string,1,16,uvs,[],false⟩
def i12:TyI:=⟨.int .u64,1,8,.int .u64 (0),[],false⟩
def i13:TyI:=⟨.struct [(0,1),(1,1)],2,24,.agg ⟨[uvs,.int .u64 (0)]⟩,[some false,some false],false⟩
def i14:TyI:=⟨.struct [(0,1),(1,1)],2,24,.agg ⟨[uvs,.int .u64 (0)]⟩,[some false,some false],false⟩
def i21:TyI:=⟨.int .i32,1,4,.int .i32 (0),[],false⟩
def i22:TyI:=⟨.slice 23,1,24,uvl,[],false⟩
def i23:TyI:=⟨.slice 3,1,24,uvl,[],false⟩
def i25:TyI:=⟨.slice 9,1,24,uvl,[],false⟩
def i26:TyI:=⟨.struct [(0,1),(1,1),(2,1),(3,1),(4,1),(5,1),(6,1),(7,1),(8,1)],9,96,.agg ⟨[uvs,uvl,uv0,uv0,uv0,uv0,uv0,uv0,uv0]⟩,(List.replicate 9 (some false)),false⟩
def i27:TyI:=⟨.struct [(0,1),(1,1),(2,1),(3,1),(4,1),(5,1),(6,1),(7,1),(8,1)],9,96,.agg ⟨[uvs,uvl,uv0,uv0,uv0,uv0,uv0,uv0,uv0]⟩,(List.replicate 9 (some false)),false⟩
def i29:TyI:=⟨.slice 88,1,24,uvl,[],false⟩
def i34:TyI:=⟨.slice 57,1,24,uvl,[],false⟩
def i40:TyI:=⟨.slice 99,1,24,uvl,[],false⟩
def i41:TyI:=⟨.struct [(0,1),(1,1),(2,1),(3,1),(4,1),(5,1)],6,80,.agg ⟨[uv0,uv0,uv0,uv0,uvl,uvl]⟩,(List.replicate 6 (some false)),false⟩
def i42:TyI:=⟨.struct [(0,1),(1,1),(2,1),(3,1),(4,1),(5,1)],6,80,.agg ⟨[uv0,uv0,uv0,uv0,uvl,uvl]⟩,(List.replicate 6 (some false)),false⟩
def i43:TyI:=⟨.int .i64,1,8,uv0,[],false⟩
def i56:TyI:=⟨.struct [(0,1),(1,1),(2,1),(3,1),(4,1)],5,56,.agg ⟨[uv0,uv0,uv0,uvl,uv0]⟩,(List.replicate 5 (some false)),false⟩
def i57:TyI:=⟨.struct [(0,1),(1,1),(2,1),(3,1),(4,1)],5,56,.agg ⟨[uv0,uv0,uv0,uvl,uv0]⟩,(List.replicate 5 (some false)),false⟩
def i71:TyI:=⟨.other,1,8,.pointer none,[],false⟩
def i73:TyI:=⟨.slice 79,1,24,uvl,[],false⟩
def i74:TyI:=⟨.struct [(0,9),(9,1),(10,1),(11,1),(12,1),(13,1),(14,1),(15,1),(16,1),(17,1),(18,6)],24,328,.agg ⟨[uvs,uvl,uv0,uv0,uv0,uv0,uv0,uv0,uv0,uvl,uvl,uv0,uvl,uvl,uv0,uvl,uv0,uv0,uv0,uv0,uv0,uv0,uvl,uvl]⟩,[some true,some false,some false,some false,some false,some false,some false,some false,some false,some false,some true],false⟩
def i75:TyI:=⟨.struct [(0,9),(9,1),(10,1),(11,1),(12,1),(13,1),(14,1),(15,1),(16,1),(17,1),(18,6)],24,328,.agg ⟨[uvs,uvl,uv0,uv0,uv0,uv0,uv0,uv0,uv0,uvl,uvl,uv0,uvl,uvl,uv0,uvl,uv0,uv0,uv0,uv0,uv0,uv0,uvl,uvl]⟩,[some true,some false,some false,some false,some false,some false,some false,some false,some false,some false,some true],false⟩
def i76:TyI:=⟨.other,1,8,.pointer none,[],false⟩
def i78:TyI:=⟨.slice 90,1,24,uvl,[],false⟩
def i79:TyI:=⟨.slice 85,1,24,uvl,[],false⟩
def i80:TyI:=⟨.struct [(0,9),(9,1),(10,1),(11,1),(12,1),(13,1),(14,1),(15,1),(16,1),(17,6)],23,320,.agg ⟨[uvs,uvl,uv0,uv0,uv0,uv0,uv0,uv0,uv0,uvl,uv0,uv0,uvl,uvl,uvl,uv0,uvl,uv0,uv0,uv0,uv0,uvl,uvl]⟩,[some true,some false,some false,some false,some false,some false,some false,some false,some false,some true],false⟩
def i81:TyI:=⟨.struct [(0,9),(9,1),(10,1),(11,1),(12,1),(13,1),(14,1),(15,1),(16,1),(17,6)],23,320,.agg ⟨[uvs,uvl,uv0,uv0,uv0,uv0,uv0,uv0,uv0,uvl,uv0,uv0,uvl,uvl,uvl,uv0,uvl,uv0,uv0,uv0,uv0,uvl,uvl]⟩,[some true,some false,some false,some false,some false,some false,some false,some false,some false,some true],false⟩
def i82:TyI:=⟨.slice 161,1,24,uvl,[],false⟩
def i83:TyI:=⟨.slice 161,1,24,uvl,[],false⟩
def i84:TyI:=⟨.struct [(0,1),(1,1),(2,1)],3,56,.agg ⟨[uvb,uvl,uvl]⟩,(List.replicate 3 (some false)),false⟩
def i85:TyI:=⟨.struct [(0,1),(1,1),(2,1)],3,56,.agg ⟨[uvb,uvl,uvl]⟩,(List.replicate 3 (some false)),false⟩
def i87:TyI:=⟨.struct [(0,1),(1,1)],2,32,.agg ⟨[uvl,uv0]⟩,[some false,some false],false⟩
def i88:TyI:=⟨.struct [(0,1),(1,1)],2,32,.agg ⟨[uvl,uv0]⟩,[some false,some false],false⟩
def i89:TyI:=⟨.struct [(0,1),(1,1),(2,1),(3,3)],6,96,.agg ⟨[uvl,uv0,uv0,uvb,uvl,uvl]⟩,[some false,some false,some false,some true],false⟩
def i90:TyI:=⟨.struct [(0,1),(1,1),(2,1),(3,3)],6,96,.agg ⟨[uvl,uv0,uv0,uvb,uvl,uvl]⟩,[some false,some false,some false,some true],false⟩
def i91:TyI:=⟨.other,1,8,.pointer none,[],false⟩
def i95:TyI:=⟨.slice 4,1,24,uvl,[],false⟩
def i96:TyI:=⟨.struct [(0,9),(9,1),(10,1),(11,1),(12,1)],13,192,.agg ⟨[uvs,uvl,uv0,uv0,uv0,uv0,uv0,uv0,uv0,uvl,uvl,uvl,uvl]⟩,[some true,some false,some false,some false,some false],false⟩
def i97:TyI:=⟨.struct [(0,9),(9,1),(10,1),(11,1),(12,1)],13,192,.agg ⟨[uvs,uvl,uv0,uv0,uv0,uv0,uv0,uv0,uv0,uvl,uvl,uvl,uvl]⟩,[some true,some false,some false,some false,some false],false⟩
def i98:TyI:=⟨.struct [(0,1),(1,1),(2,3),(5,3),(8,3),(11,1),(12,1),(13,1)],14,288,.agg ⟨[uvl,uvl,uvb,uvl,uvl,uvb,uvl,uvl,uvb,uvl,uvl,uvl,uvl,uvl]⟩,[some false,some false,some true,some true,some true,some false,some false,some false],false⟩
def i99:TyI:=⟨.struct [(0,1),(1,1),(2,3),(5,3),(8,3),(11,1),(12,1),(13,1)],14,288,.agg ⟨[uvl,uvl,uvb,uvl,uvl,uvb,uvl,uvl,uvb,uvl,uvl,uvl,uvl,uvl]⟩,[some false,some false,some true,some true,some true,some false,some false,some false],false⟩
def i108:TyI:=⟨.slice 5,1,24,uvl,[],false⟩
def i115:TyI:=⟨.array 5 3,5,40,.agg ⟨[uv0,uv0,uv0,uv0,uv0]⟩,[],false⟩
def i126:TyI:=⟨.array 4 3,4,32,.agg ⟨[uv0,uv0,uv0,uv0]⟩,[],false⟩
def i127:TyI:=⟨.int .u64,1,8,.int .u64 (0),[],false⟩
def i135:TyI:=⟨.other,1,8,.pointer none,[],false⟩
def i145:TyI:=⟨.int .u64,1,8,.int .u64 (0),[],false⟩
def i161:TyI:=⟨.int .u32,1,4,.int .u32 (0),[],false⟩
def i188:TyI:=⟨.array 7 4,7,7,.agg ⟨[uvb,uvb,uvb,uvb,uvb,uvb,uvb]⟩,[],false⟩
def i199:TyI:=⟨.other,1,8,.pointer none,[],false⟩
def i206:TyI:=⟨.int .i64,1,8,uv0,[],false⟩
def i220:TyI:=⟨.int .u64,1,8,.int .u64 (0),[],false⟩
def i224:TyI:=⟨.other,1,8,.pointer none,[],false⟩
def i229:TyI:=⟨.other,1,8,.pointer none,[],false⟩
def i239:TyI:=⟨.int .u8,1,1,.int .u8 (0),[],false⟩
def i240:TyI:=⟨.int .u8,1,1,.int .u8 (0),[],false⟩
def i242:TyI:=⟨.other,1,8,.pointer none,[],false⟩
def i243:TyI:=⟨.int .i32,1,4,.int .i32 (0),[],false⟩
def i244:TyI:=⟨.int .i32,1,4,.int .i32 (0),[],false⟩
def tab:Tab:=[(2,i2,y2),(3,i3,y3),(4,i4,y4),(5,i5,y5),(6,i6,y6),(7,i7,y7),(8,i8,y8),(9,i9,y9),(10,i10,y10),(11,i11,y11),(12,i12,y12),(13,i13,y13),(14,i14,y14),(21,i21,y21),(22,i22,y22),(23,i23,y23),(25,i25,y25),(26,i26,y26),(27,i27,y27),(29,i29,y29),(34,i34,y34),(40,i40,y40),(41,i41,y41),(42,i42,y42),(43,i43,y43),(56,i56,y56),(57,i57,y57),(71,i71,y71),(73,i73,y73),(74,i74,y74),(75,i75,y75),(76,i76,y76),(78,i78,y78),(79,i79,y79),(80,i80,y80),(81,i81,y81),(82,i82,y82),(83,i83,y83),(84,i84,y84),(85,i85,y85),(87,i87,y87),(88,i88,y88),(89,i89,y89),(90,i90,y90),(91,i91,y91),(95,i95,y95),(96,i96,y96),(97,i97,y97),(98,i98,y98),(99,i99,y99),(108,i108,y108),(115,i115,y115),(126,i126,y126),(127,i127,y127),(135,i135,y135),(145,i145,y145),(161,i161,y161),(188,i188,y188),(199,i199,y199),(206,i206,y206),(220,i220,y220),(224,i224,y224),(229,i229,y229),(239,i239,y239),(240,i240,y240),(242,i242,y242),(243,i243,y243),(244,i244,y244)]
def tab_nil:∀id i t,tl [] id=some (i,t)→Go.X.ty prog id=some i∧agree tab i t=true:=fun _ _ _ h=>by cases h
def zae{L:Tab}{x:TypeId}{j:TyI}{u:Ty}(h:∀id i t,tl L id=some (i,t)→Go.X.ty prog id=some i∧agree tab i t=true)(h1:Go.X.ty prog x=some j:=by kernel_rfl)(h2:agree tab j u=true:=by kernel_rfl):∀id i t,tl ((x,j,u)::L) id=some (i,t)→Go.X.ty prog id=some i∧agree tab i t=true:=fun id i t hl=>by
 unfold tl at hl
 split at hl
 ·rename_i he
  subst he
  cases hl
  exact⟨h1,h2⟩
 ·exact h id i t hl
def tabOK:TabOK prog tab:=
 zae (zae (zae (zae (zae (zae (zae (zae (zae (zae (zae (zae (zae (zae (zae (zae (zae (zae (zae (zae (zae (zae (zae (zae (zae (zae (zae (zae (zae (zae (zae (zae (zae (zae (zae (zae (zae (zae (zae (zae (zae (zae (zae (zae (zae (zae (zae (zae (zae (zae (zae (zae (zae (zae (zae (zae (zae (zae (zae (zae (zae (zae (zae (zae (zae (zae (zae (zae tab_nil)))))))))))))))))))))))))))))))))))))))))))))))))))))))))))))))))))
def mixd:prog.follows .mixedOrders=true:=by kernel_rfl
abbrev w(n:Int):Int:=IntKind.wrap .i64 n
abbrev wu8(n:Int):Int:=IntKind.wrap .u8 n
abbrev wu64(n:Int):Int:=IntKind.wrap .u64 n
abbrev wu32(n:Int):Int:=IntKind.wrap .u32 n
noncomputable def code (f:Func):Code:=match f.body with
 |some c=>c
 |none=>.skip
def zfw{f:Func}(h:f.body.isSome=true):f.body=some (code f):=by
 unfold code
 cases hb:f.body with
 |none=>rw[hb]at h;cases h
 |some c=>rfl
end Go.Proofs.YtfgjbkjddcjlfaaGreat
