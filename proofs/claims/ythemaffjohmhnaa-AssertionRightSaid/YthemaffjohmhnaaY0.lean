/- The types of the program, as the calculus reads them. -/
import Derived.Test.YthemaffjohmhnaaProg
import Derived.Test.YthemaffjohmhnaaX35
import Derived.KernelRfl
open Go Go.Proofs Go.X
namespace Go.Proofs.Ythemaffjohmhnaa
abbrev y2 : Ty := .int .i64
abbrev y3 : Ty := .int .i64
abbrev y4 : Ty := .bool
abbrev y5 : Ty := .int .u8
abbrev y6 : Ty := .int .u8
abbrev y7 : Ty := .pair y2 (.pair y3 (.pair y4 y6))
abbrev y8 : Ty := .pair y2 (.pair y3 (.pair y4 y6))
abbrev y9 : Ty := .str
abbrev y10 : Ty := .str
abbrev y11 : Ty := .str
abbrev y12 : Ty := .int .u64
abbrev y13 : Ty := .pair y9 y12
abbrev y14 : Ty := .pair y9 y12
abbrev y21 : Ty := .int .i32
abbrev y23 : Ty := .slice y3
abbrev y93 : Ty := .pair y23 y3
abbrev y22 : Ty := .slice y93
abbrev y24 : Ty := .pair y3 (.pair y3 (.pair y3 (.pair y23 y3)))
abbrev y25 : Ty := .pair y3 (.pair y3 (.pair y3 (.pair y23 y3)))
abbrev y26 : Ty := .slice y23
abbrev y27 : Ty := .fn1 y22 y4
abbrev y29 : Ty := .fn2 y3 y3 y3
abbrev y31 : Ty := .fn2 y26 y3 y26
abbrev y36 : Ty := .fn2 y3 y25 y4
abbrev y40 : Ty := .fn2 y3 y23 y23
abbrev y42 : Ty := .fn2 y23 y3 y4
abbrev y44 : Ty := .fn2 y3 y22 y26
abbrev y46 : Ty := .fn2 y25 y25 y3
abbrev y47 : Ty := .fn2 y23 y23 y4
abbrev y49 : Ty := .slice y5
abbrev y50 : Ty := .int .i64
abbrev y53 : Ty := .slice y25
abbrev y54 : Ty := .fn2 y3 y26 y53
abbrev y58 : Ty := .fn2 y53 y53 y4
abbrev y60 : Ty := .fn2 y23 y3 y23
abbrev y61 : Ty := .fn2 y25 y23 y3
abbrev y63 : Ty := .pair y3 (.pair y3 y3)
abbrev y64 : Ty := .pair y3 (.pair y3 y3)
abbrev y65 : Ty := .pair y64 (.pair y4 y23)
abbrev y66 : Ty := .pair y64 (.pair y4 y23)
abbrev y67 : Ty := .pair y4 y23
abbrev y68 : Ty := .pair y4 y23
abbrev y69 : Ty := .fn1 y25 y3
abbrev y70 : Ty := .fn2 y25 y66 y3
abbrev y71 : Ty := .fn2 y25 y68 y3
abbrev y74 : Ty := .slice y66
abbrev y75 : Ty := .slice y4
abbrev y77 : Ty := .pair y3 (.pair y3 y3)
abbrev y78 : Ty := .pair y3 (.pair y3 y3)
abbrev y79 : Ty := .fn2 y25 y74 y78
abbrev y81 : Ty := .slice y68
abbrev y86 : Ty := .fn2 y3 y23 y4
abbrev y88 : Ty := .fn2 y3 y22 y23
abbrev y92 : Ty := .pair y23 y3
abbrev y97 : Ty := .int .u64
abbrev y98 : Ty := .fn2 y3 y22 y4
abbrev y99 : Ty := .fn2 y22 y3 y3
abbrev y102 : Ty := .fn1 y22 y3
abbrev y105 : Ty := .fn1 y3 y75
abbrev y106 : Ty := .fn2 y3 y23 y75
abbrev y107 : Ty := .fn1 y23 y4
abbrev y108 : Ty := .fn2 y23 y3 y3
abbrev y115 : Ty := .fn2 y23 y23 y3
abbrev y116 : Ty := .arr 4 y3
abbrev y118 : Ty := .arr 5 y3
abbrev y140 : Ty := .pair y3 y3
abbrev y142 : Ty := .pair y3 (.pair y3 y23)
abbrev y144 : Ty := .pair y3 y3
abbrev y119 : Ty := .alt 140 y140 (.alt 142 y142 (.alt 144 y144 .nilI))
abbrev y120 : Ty := .alt 140 y140 (.alt 142 y142 (.alt 144 y144 .nilI))
abbrev y121 : Ty := .fn1 y25 y120
abbrev y122 : Ty := .fn1 y23 y3
abbrev y123 : Ty := .fn1 y23 y23
abbrev y125 : Ty := .fn1 y25 y4
abbrev y130 : Ty := .slice y9
abbrev y131 : Ty := .pair y9 (.pair y130 (.pair y3 (.pair y3 (.pair y3 (.pair y3 (.pair y3 (.pair y3 y3)))))))
abbrev y132 : Ty := .pair y9 (.pair y130 (.pair y3 (.pair y3 (.pair y3 (.pair y3 (.pair y3 (.pair y3 y3)))))))
abbrev y135 : Ty := .fn1 y93 y3
abbrev y134 : Ty := .fn2 y22 y135 y3
abbrev y136 : Ty := .fn2 y23 y75 y23
abbrev y138 : Ty := .fn1 y3 y4
abbrev y139 : Ty := .pair y3 y3
abbrev y141 : Ty := .pair y3 (.pair y3 y23)
abbrev y143 : Ty := .pair y3 y3
abbrev y145 : Ty := .arr 7 y4
abbrev y147 : Ty := .fn1 y132 y4
abbrev y148 : Ty := .fn2 y53 y125 y4
abbrev y149 : Ty := .fn1 y3 y130
abbrev y150 : Ty := .fn2 y23 y138 y3
abbrev y151 : Ty := .fn2 y75 y3 y4
abbrev y154 : Ty := .fn1 y97 y3
abbrev y156 : Ty := .fn2 y53 y125 y3
abbrev y158 : Ty := .int .i64
abbrev y162 : Ty := .fn2 y3 y3 y4
abbrev y167 : Ty := .int .u32
abbrev y166 : Ty := .fn1 y167 y3
abbrev y169 : Ty := .int .u64
abbrev y168 : Ty := .fn1 y169 y3
abbrev y170 : Ty := .int .u64
abbrev y171 : Ty := .fn1 y3 y97
abbrev y184 : Ty := .int .u8
abbrev y185 : Ty := .int .u8
abbrev y188 : Ty := .int .i32
abbrev y189 : Ty := .int .i32
def i2 : TyI := { k := Go.X.TyK.int Go.IntKind.i64, size := 1, bytes := 8, zero := Go.Value.int Go.IntKind.i64 (0), fa := [], eqs := false }
def i3 : TyI := { k := Go.X.TyK.int Go.IntKind.i64, size := 1, bytes := 8, zero := Go.Value.int Go.IntKind.i64 (0), fa := [], eqs := false }
def i4 : TyI := { k := Go.X.TyK.bool, size := 1, bytes := 1, zero := Go.Value.bool false, fa := [], eqs := false }
def i5 : TyI := { k := Go.X.TyK.int Go.IntKind.u8, size := 1, bytes := 1, zero := Go.Value.int Go.IntKind.u8 (0), fa := [], eqs := false }
def i6 : TyI := { k := Go.X.TyK.int Go.IntKind.u8, size := 1, bytes := 1, zero := Go.Value.int Go.IntKind.u8 (0), fa := [], eqs := false }
def i7 : TyI := { k := Go.X.TyK.struct [(0, 1), (1, 1), (2, 1), (3, 1)], size := 4, bytes := 24, zero := Go.Value.agg { toList := [Go.Value.int Go.IntKind.i64 (0), Go.Value.int Go.IntKind.i64 (0), Go.Value.bool false, Go.Value.int Go.IntKind.u8 (0)] }, fa := [some false, some false, some false, some false], eqs := false }
def i8 : TyI := { k := Go.X.TyK.struct [(0, 1), (1, 1), (2, 1), (3, 1)], size := 4, bytes := 24, zero := Go.Value.agg { toList := [Go.Value.int Go.IntKind.i64 (0), Go.Value.int Go.IntKind.i64 (0), Go.Value.bool false, Go.Value.int Go.IntKind.u8 (0)] }, fa := [some false, some false, some false, some false], eqs := false }
def i9 : TyI := { k := Go.X.TyK.string, size := 1, bytes := 16, zero := Go.Value.string ⟨#[]⟩, fa := [], eqs := false }
def i10 : TyI := { k := Go.X.TyK.string, size := 1, bytes := 16, zero := Go.Value.string ⟨#[]⟩, fa := [], eqs := false }
def i11 : TyI := { k := Go.X.TyK.string, size := 1, bytes := 16, zero := Go.Value.string ⟨#[]⟩, fa := [], eqs := false }
def i12 : TyI := { k := Go.X.TyK.int Go.IntKind.u64, size := 1, bytes := 8, zero := Go.Value.int Go.IntKind.u64 (0), fa := [], eqs := false }
def i13 : TyI := { k := Go.X.TyK.struct [(0, 1), (1, 1)], size := 2, bytes := 24, zero := Go.Value.agg { toList := [Go.Value.string ⟨#[]⟩, Go.Value.int Go.IntKind.u64 (0)] }, fa := [some false, some false], eqs := false }
def i14 : TyI := { k := Go.X.TyK.struct [(0, 1), (1, 1)], size := 2, bytes := 24, zero := Go.Value.agg { toList := [Go.Value.string ⟨#[]⟩, Go.Value.int Go.IntKind.u64 (0)] }, fa := [some false, some false], eqs := false }
def i21 : TyI := { k := Go.X.TyK.int Go.IntKind.i32, size := 1, bytes := 4, zero := Go.Value.int Go.IntKind.i32 (0), fa := [], eqs := false }
def i22 : TyI := { k := Go.X.TyK.slice 93, size := 1, bytes := 24, zero := Go.Value.slice none 0 0, fa := [], eqs := false }
def i23 : TyI := { k := Go.X.TyK.slice 3, size := 1, bytes := 24, zero := Go.Value.slice none 0 0, fa := [], eqs := false }
def i24 : TyI := { k := Go.X.TyK.struct [(0, 1), (1, 1), (2, 1), (3, 1), (4, 1)], size := 5, bytes := 56, zero := Go.Value.agg { toList := [Go.Value.int Go.IntKind.i64 (0), Go.Value.int Go.IntKind.i64 (0), Go.Value.int Go.IntKind.i64 (0), Go.Value.slice none 0 0, Go.Value.int Go.IntKind.i64 (0)] }, fa := [some false, some false, some false, some false, some false], eqs := false }
def i25 : TyI := { k := Go.X.TyK.struct [(0, 1), (1, 1), (2, 1), (3, 1), (4, 1)], size := 5, bytes := 56, zero := Go.Value.agg { toList := [Go.Value.int Go.IntKind.i64 (0), Go.Value.int Go.IntKind.i64 (0), Go.Value.int Go.IntKind.i64 (0), Go.Value.slice none 0 0, Go.Value.int Go.IntKind.i64 (0)] }, fa := [some false, some false, some false, some false, some false], eqs := false }
def i26 : TyI := { k := Go.X.TyK.slice 23, size := 1, bytes := 24, zero := Go.Value.slice none 0 0, fa := [], eqs := false }
def i49 : TyI := { k := Go.X.TyK.slice 5, size := 1, bytes := 24, zero := Go.Value.slice none 0 0, fa := [], eqs := false }
def i50 : TyI := { k := Go.X.TyK.int Go.IntKind.i64, size := 1, bytes := 8, zero := Go.Value.int Go.IntKind.i64 (0), fa := [], eqs := false }
def i53 : TyI := { k := Go.X.TyK.slice 25, size := 1, bytes := 24, zero := Go.Value.slice none 0 0, fa := [], eqs := false }
def i63 : TyI := { k := Go.X.TyK.struct [(0, 1), (1, 1), (2, 1)], size := 3, bytes := 24, zero := Go.Value.agg { toList := [Go.Value.int Go.IntKind.i64 (0), Go.Value.int Go.IntKind.i64 (0), Go.Value.int Go.IntKind.i64 (0)] }, fa := [some false, some false, some false], eqs := true }
def i64 : TyI := { k := Go.X.TyK.struct [(0, 1), (1, 1), (2, 1)], size := 3, bytes := 24, zero := Go.Value.agg { toList := [Go.Value.int Go.IntKind.i64 (0), Go.Value.int Go.IntKind.i64 (0), Go.Value.int Go.IntKind.i64 (0)] }, fa := [some false, some false, some false], eqs := true }
def i65 : TyI := { k := Go.X.TyK.struct [(0, 3), (3, 1), (4, 1)], size := 5, bytes := 56, zero := Go.Value.agg { toList := [Go.Value.int Go.IntKind.i64 (0), Go.Value.int Go.IntKind.i64 (0), Go.Value.int Go.IntKind.i64 (0), Go.Value.bool false, Go.Value.slice none 0 0] }, fa := [some true, some false, some false], eqs := false }
def i66 : TyI := { k := Go.X.TyK.struct [(0, 3), (3, 1), (4, 1)], size := 5, bytes := 56, zero := Go.Value.agg { toList := [Go.Value.int Go.IntKind.i64 (0), Go.Value.int Go.IntKind.i64 (0), Go.Value.int Go.IntKind.i64 (0), Go.Value.bool false, Go.Value.slice none 0 0] }, fa := [some true, some false, some false], eqs := false }
def i67 : TyI := { k := Go.X.TyK.struct [(0, 1), (1, 1)], size := 2, bytes := 32, zero := Go.Value.agg { toList := [Go.Value.bool false, Go.Value.slice none 0 0] }, fa := [some false, some false], eqs := false }
def i68 : TyI := { k := Go.X.TyK.struct [(0, 1), (1, 1)], size := 2, bytes := 32, zero := Go.Value.agg { toList := [Go.Value.bool false, Go.Value.slice none 0 0] }, fa := [some false, some false], eqs := false }
def i74 : TyI := { k := Go.X.TyK.slice 66, size := 1, bytes := 24, zero := Go.Value.slice none 0 0, fa := [], eqs := false }
def i75 : TyI := { k := Go.X.TyK.slice 4, size := 1, bytes := 24, zero := Go.Value.slice none 0 0, fa := [], eqs := false }
def i77 : TyI := { k := Go.X.TyK.struct [(0, 1), (1, 1), (2, 1)], size := 3, bytes := 24, zero := Go.Value.agg { toList := [Go.Value.int Go.IntKind.i64 (0), Go.Value.int Go.IntKind.i64 (0), Go.Value.int Go.IntKind.i64 (0)] }, fa := [some false, some false, some false], eqs := true }
def i78 : TyI := { k := Go.X.TyK.struct [(0, 1), (1, 1), (2, 1)], size := 3, bytes := 24, zero := Go.Value.agg { toList := [Go.Value.int Go.IntKind.i64 (0), Go.Value.int Go.IntKind.i64 (0), Go.Value.int Go.IntKind.i64 (0)] }, fa := [some false, some false, some false], eqs := true }
def i81 : TyI := { k := Go.X.TyK.slice 68, size := 1, bytes := 24, zero := Go.Value.slice none 0 0, fa := [], eqs := false }
def i92 : TyI := { k := Go.X.TyK.struct [(0, 1), (1, 1)], size := 2, bytes := 32, zero := Go.Value.agg { toList := [Go.Value.slice none 0 0, Go.Value.int Go.IntKind.i64 (0)] }, fa := [some false, some false], eqs := false }
def i93 : TyI := { k := Go.X.TyK.struct [(0, 1), (1, 1)], size := 2, bytes := 32, zero := Go.Value.agg { toList := [Go.Value.slice none 0 0, Go.Value.int Go.IntKind.i64 (0)] }, fa := [some false, some false], eqs := false }
def i97 : TyI := { k := Go.X.TyK.int Go.IntKind.u64, size := 1, bytes := 8, zero := Go.Value.int Go.IntKind.u64 (0), fa := [], eqs := false }
def i116 : TyI := { k := Go.X.TyK.array 4 3, size := 4, bytes := 32, zero := Go.Value.agg { toList := [Go.Value.int Go.IntKind.i64 (0), Go.Value.int Go.IntKind.i64 (0), Go.Value.int Go.IntKind.i64 (0), Go.Value.int Go.IntKind.i64 (0)] }, fa := [], eqs := false }
def i118 : TyI := { k := Go.X.TyK.array 5 3, size := 5, bytes := 40, zero := Go.Value.agg { toList := [Go.Value.int Go.IntKind.i64 (0), Go.Value.int Go.IntKind.i64 (0), Go.Value.int Go.IntKind.i64 (0), Go.Value.int Go.IntKind.i64 (0), Go.Value.int Go.IntKind.i64 (0)] }, fa := [], eqs := false }
def i119 : TyI := { k := Go.X.TyK.iface, size := 1, bytes := 16, zero := Go.Value.nilIface, fa := [], eqs := false }
def i120 : TyI := { k := Go.X.TyK.iface, size := 1, bytes := 16, zero := Go.Value.nilIface, fa := [], eqs := false }
def i130 : TyI := { k := Go.X.TyK.slice 9, size := 1, bytes := 24, zero := Go.Value.slice none 0 0, fa := [], eqs := false }
def i131 : TyI := { k := Go.X.TyK.struct [(0, 1), (1, 1), (2, 1), (3, 1), (4, 1), (5, 1), (6, 1), (7, 1), (8, 1)], size := 9, bytes := 96, zero := Go.Value.agg { toList := [Go.Value.string ⟨#[]⟩, Go.Value.slice none 0 0, Go.Value.int Go.IntKind.i64 (0), Go.Value.int Go.IntKind.i64 (0), Go.Value.int Go.IntKind.i64 (0), Go.Value.int Go.IntKind.i64 (0), Go.Value.int Go.IntKind.i64 (0), Go.Value.int Go.IntKind.i64 (0), Go.Value.int Go.IntKind.i64 (0)] }, fa := [some false, some false, some false, some false, some false, some false, some false, some false, some false], eqs := false }
def i132 : TyI := { k := Go.X.TyK.struct [(0, 1), (1, 1), (2, 1), (3, 1), (4, 1), (5, 1), (6, 1), (7, 1), (8, 1)], size := 9, bytes := 96, zero := Go.Value.agg { toList := [Go.Value.string ⟨#[]⟩, Go.Value.slice none 0 0, Go.Value.int Go.IntKind.i64 (0), Go.Value.int Go.IntKind.i64 (0), Go.Value.int Go.IntKind.i64 (0), Go.Value.int Go.IntKind.i64 (0), Go.Value.int Go.IntKind.i64 (0), Go.Value.int Go.IntKind.i64 (0), Go.Value.int Go.IntKind.i64 (0)] }, fa := [some false, some false, some false, some false, some false, some false, some false, some false, some false], eqs := false }
def i139 : TyI := { k := Go.X.TyK.struct [(0, 1), (1, 1)], size := 2, bytes := 16, zero := Go.Value.agg { toList := [Go.Value.int Go.IntKind.i64 (0), Go.Value.int Go.IntKind.i64 (0)] }, fa := [some false, some false], eqs := true }
def i140 : TyI := { k := Go.X.TyK.struct [(0, 1), (1, 1)], size := 2, bytes := 16, zero := Go.Value.agg { toList := [Go.Value.int Go.IntKind.i64 (0), Go.Value.int Go.IntKind.i64 (0)] }, fa := [some false, some false], eqs := true }
def i141 : TyI := { k := Go.X.TyK.struct [(0, 1), (1, 1), (2, 1)], size := 3, bytes := 40, zero := Go.Value.agg { toList := [Go.Value.int Go.IntKind.i64 (0), Go.Value.int Go.IntKind.i64 (0), Go.Value.slice none 0 0] }, fa := [some false, some false, some false], eqs := false }
def i142 : TyI := { k := Go.X.TyK.struct [(0, 1), (1, 1), (2, 1)], size := 3, bytes := 40, zero := Go.Value.agg { toList := [Go.Value.int Go.IntKind.i64 (0), Go.Value.int Go.IntKind.i64 (0), Go.Value.slice none 0 0] }, fa := [some false, some false, some false], eqs := false }
def i143 : TyI := { k := Go.X.TyK.struct [(0, 1), (1, 1)], size := 2, bytes := 16, zero := Go.Value.agg { toList := [Go.Value.int Go.IntKind.i64 (0), Go.Value.int Go.IntKind.i64 (0)] }, fa := [some false, some false], eqs := true }
def i144 : TyI := { k := Go.X.TyK.struct [(0, 1), (1, 1)], size := 2, bytes := 16, zero := Go.Value.agg { toList := [Go.Value.int Go.IntKind.i64 (0), Go.Value.int Go.IntKind.i64 (0)] }, fa := [some false, some false], eqs := true }
def i145 : TyI := { k := Go.X.TyK.array 7 4, size := 7, bytes := 7, zero := Go.Value.agg { toList := [Go.Value.bool false, Go.Value.bool false, Go.Value.bool false, Go.Value.bool false, Go.Value.bool false, Go.Value.bool false, Go.Value.bool false] }, fa := [], eqs := false }
def i158 : TyI := { k := Go.X.TyK.int Go.IntKind.i64, size := 1, bytes := 8, zero := Go.Value.int Go.IntKind.i64 (0), fa := [], eqs := false }
def i167 : TyI := { k := Go.X.TyK.int Go.IntKind.u32, size := 1, bytes := 4, zero := Go.Value.int Go.IntKind.u32 (0), fa := [], eqs := false }
def i169 : TyI := { k := Go.X.TyK.int Go.IntKind.u64, size := 1, bytes := 8, zero := Go.Value.int Go.IntKind.u64 (0), fa := [], eqs := false }
def i170 : TyI := { k := Go.X.TyK.int Go.IntKind.u64, size := 1, bytes := 8, zero := Go.Value.int Go.IntKind.u64 (0), fa := [], eqs := false }
def i184 : TyI := { k := Go.X.TyK.int Go.IntKind.u8, size := 1, bytes := 1, zero := Go.Value.int Go.IntKind.u8 (0), fa := [], eqs := false }
def i185 : TyI := { k := Go.X.TyK.int Go.IntKind.u8, size := 1, bytes := 1, zero := Go.Value.int Go.IntKind.u8 (0), fa := [], eqs := false }
def i188 : TyI := { k := Go.X.TyK.int Go.IntKind.i32, size := 1, bytes := 4, zero := Go.Value.int Go.IntKind.i32 (0), fa := [], eqs := false }
def i189 : TyI := { k := Go.X.TyK.int Go.IntKind.i32, size := 1, bytes := 4, zero := Go.Value.int Go.IntKind.i32 (0), fa := [], eqs := false }
def tab : Tab := [(2, i2, y2), (3, i3, y3), (4, i4, y4), (5, i5, y5), (6, i6, y6), (7, i7, y7), (8, i8, y8), (9, i9, y9), (10, i10, y10), (11, i11, y11), (12, i12, y12), (13, i13, y13), (14, i14, y14), (21, i21, y21), (22, i22, y22), (23, i23, y23), (24, i24, y24), (25, i25, y25), (26, i26, y26), (49, i49, y49), (50, i50, y50), (53, i53, y53), (63, i63, y63), (64, i64, y64), (65, i65, y65), (66, i66, y66), (67, i67, y67), (68, i68, y68), (74, i74, y74), (75, i75, y75), (77, i77, y77), (78, i78, y78), (81, i81, y81), (92, i92, y92), (93, i93, y93), (97, i97, y97), (116, i116, y116), (118, i118, y118), (119, i119, y119), (120, i120, y120), (130, i130, y130), (131, i131, y131), (132, i132, y132), (139, i139, y139), (140, i140, y140), (141, i141, y141), (142, i142, y142), (143, i143, y143), (144, i144, y144), (145, i145, y145), (158, i158, y158), (167, i167, y167), (169, i169, y169), (170, i170, y170), (184, i184, y184), (185, i185, y185), (188, i188, y188), (189, i189, y189)]
theorem ty2 : Go.X.ty Try.prog 2 = some i2 := by kernel_rfl
theorem ty3 : Go.X.ty Try.prog 3 = some i3 := by kernel_rfl
theorem ty4 : Go.X.ty Try.prog 4 = some i4 := by kernel_rfl
theorem ty5 : Go.X.ty Try.prog 5 = some i5 := by kernel_rfl
theorem ty6 : Go.X.ty Try.prog 6 = some i6 := by kernel_rfl
theorem ty7 : Go.X.ty Try.prog 7 = some i7 := by kernel_rfl
theorem ty8 : Go.X.ty Try.prog 8 = some i8 := by kernel_rfl
theorem ty9 : Go.X.ty Try.prog 9 = some i9 := by kernel_rfl
theorem ty10 : Go.X.ty Try.prog 10 = some i10 := by kernel_rfl
theorem ty11 : Go.X.ty Try.prog 11 = some i11 := by kernel_rfl
theorem ty12 : Go.X.ty Try.prog 12 = some i12 := by kernel_rfl
theorem ty13 : Go.X.ty Try.prog 13 = some i13 := by kernel_rfl
theorem ty14 : Go.X.ty Try.prog 14 = some i14 := by kernel_rfl
theorem ty21 : Go.X.ty Try.prog 21 = some i21 := by kernel_rfl
theorem ty22 : Go.X.ty Try.prog 22 = some i22 := by kernel_rfl
theorem ty23 : Go.X.ty Try.prog 23 = some i23 := by kernel_rfl
theorem ty24 : Go.X.ty Try.prog 24 = some i24 := by kernel_rfl
theorem ty25 : Go.X.ty Try.prog 25 = some i25 := by kernel_rfl
theorem ty26 : Go.X.ty Try.prog 26 = some i26 := by kernel_rfl
theorem ty49 : Go.X.ty Try.prog 49 = some i49 := by kernel_rfl
theorem ty50 : Go.X.ty Try.prog 50 = some i50 := by kernel_rfl
theorem ty53 : Go.X.ty Try.prog 53 = some i53 := by kernel_rfl
theorem ty63 : Go.X.ty Try.prog 63 = some i63 := by kernel_rfl
theorem ty64 : Go.X.ty Try.prog 64 = some i64 := by kernel_rfl
theorem ty65 : Go.X.ty Try.prog 65 = some i65 := by kernel_rfl
theorem ty66 : Go.X.ty Try.prog 66 = some i66 := by kernel_rfl
theorem ty67 : Go.X.ty Try.prog 67 = some i67 := by kernel_rfl
theorem ty68 : Go.X.ty Try.prog 68 = some i68 := by kernel_rfl
theorem ty74 : Go.X.ty Try.prog 74 = some i74 := by kernel_rfl
theorem ty75 : Go.X.ty Try.prog 75 = some i75 := by kernel_rfl
theorem ty77 : Go.X.ty Try.prog 77 = some i77 := by kernel_rfl
theorem ty78 : Go.X.ty Try.prog 78 = some i78 := by kernel_rfl
theorem ty81 : Go.X.ty Try.prog 81 = some i81 := by kernel_rfl
theorem ty92 : Go.X.ty Try.prog 92 = some i92 := by kernel_rfl
theorem ty93 : Go.X.ty Try.prog 93 = some i93 := by kernel_rfl
theorem ty97 : Go.X.ty Try.prog 97 = some i97 := by kernel_rfl
theorem ty116 : Go.X.ty Try.prog 116 = some i116 := by kernel_rfl
theorem ty118 : Go.X.ty Try.prog 118 = some i118 := by kernel_rfl
theorem ty119 : Go.X.ty Try.prog 119 = some i119 := by kernel_rfl
theorem ty120 : Go.X.ty Try.prog 120 = some i120 := by kernel_rfl
theorem ty130 : Go.X.ty Try.prog 130 = some i130 := by kernel_rfl
theorem ty131 : Go.X.ty Try.prog 131 = some i131 := by kernel_rfl
theorem ty132 : Go.X.ty Try.prog 132 = some i132 := by kernel_rfl
theorem ty139 : Go.X.ty Try.prog 139 = some i139 := by kernel_rfl
theorem ty140 : Go.X.ty Try.prog 140 = some i140 := by kernel_rfl
theorem ty141 : Go.X.ty Try.prog 141 = some i141 := by kernel_rfl
theorem ty142 : Go.X.ty Try.prog 142 = some i142 := by kernel_rfl
theorem ty143 : Go.X.ty Try.prog 143 = some i143 := by kernel_rfl
theorem ty144 : Go.X.ty Try.prog 144 = some i144 := by kernel_rfl
theorem ty145 : Go.X.ty Try.prog 145 = some i145 := by kernel_rfl
theorem ty158 : Go.X.ty Try.prog 158 = some i158 := by kernel_rfl
theorem ty167 : Go.X.ty Try.prog 167 = some i167 := by kernel_rfl
theorem ty169 : Go.X.ty Try.prog 169 = some i169 := by kernel_rfl
theorem ty170 : Go.X.ty Try.prog 170 = some i170 := by kernel_rfl
theorem ty184 : Go.X.ty Try.prog 184 = some i184 := by kernel_rfl
theorem ty185 : Go.X.ty Try.prog 185 = some i185 := by kernel_rfl
theorem ty188 : Go.X.ty Try.prog 188 = some i188 := by kernel_rfl
theorem ty189 : Go.X.ty Try.prog 189 = some i189 := by kernel_rfl
theorem tab_nil : ∀ id i t, tl [] id = some (i, t) → Go.X.ty Try.prog id = some i ∧ agree tab i t = true := fun _ _ _ h => by cases h
theorem tab_cons {L : Tab} {x : TypeId} {j : TyI} {u : Ty} (h1 : Go.X.ty Try.prog x = some j) (h2 : agree tab j u = true) (h : ∀ id i t, tl L id = some (i, t) → Go.X.ty Try.prog id = some i ∧ agree tab i t = true) : ∀ id i t, tl ((x, j, u) :: L) id = some (i, t) → Go.X.ty Try.prog id = some i ∧ agree tab i t = true := fun id i t hl => by
  unfold tl at hl
  split at hl
  · rename_i he
    subst he
    cases hl
    exact ⟨h1, h2⟩
  · exact h id i t hl
theorem tabOK : TabOK Try.prog tab :=
  tab_cons ty2 (by kernel_rfl) (
  tab_cons ty3 (by kernel_rfl) (
  tab_cons ty4 (by kernel_rfl) (
  tab_cons ty5 (by kernel_rfl) (
  tab_cons ty6 (by kernel_rfl) (
  tab_cons ty7 (by kernel_rfl) (
  tab_cons ty8 (by kernel_rfl) (
  tab_cons ty9 (by kernel_rfl) (
  tab_cons ty10 (by kernel_rfl) (
  tab_cons ty11 (by kernel_rfl) (
  tab_cons ty12 (by kernel_rfl) (
  tab_cons ty13 (by kernel_rfl) (
  tab_cons ty14 (by kernel_rfl) (
  tab_cons ty21 (by kernel_rfl) (
  tab_cons ty22 (by kernel_rfl) (
  tab_cons ty23 (by kernel_rfl) (
  tab_cons ty24 (by kernel_rfl) (
  tab_cons ty25 (by kernel_rfl) (
  tab_cons ty26 (by kernel_rfl) (
  tab_cons ty49 (by kernel_rfl) (
  tab_cons ty50 (by kernel_rfl) (
  tab_cons ty53 (by kernel_rfl) (
  tab_cons ty63 (by kernel_rfl) (
  tab_cons ty64 (by kernel_rfl) (
  tab_cons ty65 (by kernel_rfl) (
  tab_cons ty66 (by kernel_rfl) (
  tab_cons ty67 (by kernel_rfl) (
  tab_cons ty68 (by kernel_rfl) (
  tab_cons ty74 (by kernel_rfl) (
  tab_cons ty75 (by kernel_rfl) (
  tab_cons ty77 (by kernel_rfl) (
  tab_cons ty78 (by kernel_rfl) (
  tab_cons ty81 (by kernel_rfl) (
  tab_cons ty92 (by kernel_rfl) (
  tab_cons ty93 (by kernel_rfl) (
  tab_cons ty97 (by kernel_rfl) (
  tab_cons ty116 (by kernel_rfl) (
  tab_cons ty118 (by kernel_rfl) (
  tab_cons ty119 (by kernel_rfl) (
  tab_cons ty120 (by kernel_rfl) (
  tab_cons ty130 (by kernel_rfl) (
  tab_cons ty131 (by kernel_rfl) (
  tab_cons ty132 (by kernel_rfl) (
  tab_cons ty139 (by kernel_rfl) (
  tab_cons ty140 (by kernel_rfl) (
  tab_cons ty141 (by kernel_rfl) (
  tab_cons ty142 (by kernel_rfl) (
  tab_cons ty143 (by kernel_rfl) (
  tab_cons ty144 (by kernel_rfl) (
  tab_cons ty145 (by kernel_rfl) (
  tab_cons ty158 (by kernel_rfl) (
  tab_cons ty167 (by kernel_rfl) (
  tab_cons ty169 (by kernel_rfl) (
  tab_cons ty170 (by kernel_rfl) (
  tab_cons ty184 (by kernel_rfl) (
  tab_cons ty185 (by kernel_rfl) (
  tab_cons ty188 (by kernel_rfl) (
  tab_cons ty189 (by kernel_rfl) (
  tab_nil))))))))))))))))))))))))))))))))))))))))))))))))))))))))))
theorem mixd : Try.prog.follows .mixedOrders = true := by kernel_rfl
abbrev w (n : Int) : Int := IntKind.wrap .i64 n
abbrev wi32 (n : Int) : Int := IntKind.wrap .i32 n
abbrev wu8 (n : Int) : Int := IntKind.wrap .u8 n
abbrev wu64 (n : Int) : Int := IntKind.wrap .u64 n
noncomputable def code (f : Func) : Code := match f.body with
  | some c => c
  | none => .skip
theorem code_of {f : Func} (h : f.body.isSome = true) : f.body = some (code f) := by
  unfold code
  cases hb : f.body with
  | none => rw [hb] at h; cases h
  | some c => rfl
end Go.Proofs.Ythemaffjohmhnaa
