/- The types of the program, as the calculus reads them. -/
import Derived.Test.YthlgoakkgmabaaaGreatProg
import Derived.Test.YthlgoakkgmabaaaGreatX35
import Derived.KernelRfl
open Go Go.Proofs Go.X
namespace Go.Proofs.YthlgoakkgmabaaaGreat
abbrev y2 : Ty := .int .i64
abbrev y3 : Ty := .int .i64
abbrev y4 : Ty := .bool
abbrev y5 : Ty := .int .u8
abbrev y6 : Ty := .int .u8
abbrev y7 : Ty := .pair y2 (.pair y3 (.pair y4 y6))
abbrev y8 : Ty := .pair y2 (.pair y3 (.pair y4 y6))
abbrev y9 : Ty := .str
abbrev y10 : Ty := .str
abbrev y11 : Ty := .str
abbrev y12 : Ty := .int .u64
abbrev y13 : Ty := .pair y9 y12
abbrev y14 : Ty := .pair y9 y12
abbrev y21 : Ty := .int .i32
abbrev y22 : Ty := .slice y9
abbrev y23 : Ty := .pair y9 (.pair y22 (.pair y3 (.pair y3 (.pair y3 (.pair y3 (.pair y3 (.pair y3 y3)))))))
abbrev y24 : Ty := .pair y9 (.pair y22 (.pair y3 (.pair y3 (.pair y3 (.pair y3 (.pair y3 (.pair y3 y3)))))))
abbrev y25 : Ty := .slice y3
abbrev y45 : Ty := .pair y3 (.pair y3 (.pair y3 (.pair y25 y3)))
abbrev y26 : Ty := .slice y45
abbrev y27 : Ty := .slice y25
abbrev y28 : Ty := .fn1 y26 y4
abbrev y30 : Ty := .fn2 y3 y3 y3
abbrev y32 : Ty := .fn2 y3 y25 y25
abbrev y89 : Ty := .pair y25 y3
abbrev y34 : Ty := .slice y89
abbrev y36 : Ty := .fn2 y27 y3 y27
abbrev y39 : Ty := .fn2 y25 y25 y4
abbrev y42 : Ty := .fn2 y25 y3 y25
abbrev y44 : Ty := .pair y3 (.pair y3 (.pair y3 (.pair y25 y3)))
abbrev y46 : Ty := .fn1 y3 y22
abbrev y47 : Ty := .fn2 y25 y3 y4
abbrev y50 : Ty := .fn2 y3 y27 y26
abbrev y51 : Ty := .int .i64
abbrev y58 : Ty := .fn2 y25 y25 y3
abbrev y60 : Ty := .fn1 y24 y4
abbrev y61 : Ty := .fn2 y3 y45 y4
abbrev y64 : Ty := .fn1 y45 y4
abbrev y62 : Ty := .fn2 y26 y64 y4
abbrev y63 : Ty := .fn2 y45 y45 y3
abbrev y66 : Ty := .fn1 y3 y25
abbrev y67 : Ty := .fn2 y3 y25 y4
abbrev y68 : Ty := .slice y5
abbrev y71 : Ty := .fn1 y26 y26
abbrev y73 : Ty := .arr 5 y3
abbrev y76 : Ty := .fn1 y25 y4
abbrev y79 : Ty := .fn2 y25 y3 y3
abbrev y80 : Ty := .fn2 y26 y64 y3
abbrev y82 : Ty := .fn2 y3 y34 y4
abbrev y83 : Ty := .arr 4 y3
abbrev y87 : Ty := .int .u64
abbrev y88 : Ty := .pair y25 y3
abbrev y91 : Ty := .fn1 y3 y4
abbrev y96 : Ty := .slice y4
abbrev y97 : Ty := .fn1 y3 y96
abbrev y99 : Ty := .fn2 y3 y25 y96
abbrev y100 : Ty := .fn1 y34 y3
abbrev y105 : Ty := .fn1 y25 y25
abbrev y106 : Ty := .fn1 y34 y4
abbrev y107 : Ty := .fn2 y25 y96 y25
abbrev y109 : Ty := .arr 7 y4
abbrev y110 : Ty := .fn2 y96 y3 y4
abbrev y113 : Ty := .fn1 y87 y3
abbrev y115 : Ty := .int .i64
abbrev y119 : Ty := .fn2 y3 y3 y4
abbrev y124 : Ty := .int .u32
abbrev y123 : Ty := .fn1 y124 y3
abbrev y126 : Ty := .int .u64
abbrev y125 : Ty := .fn1 y126 y3
abbrev y127 : Ty := .int .u64
abbrev y128 : Ty := .fn1 y3 y87
abbrev y142 : Ty := .int .u8
abbrev y143 : Ty := .int .u8
abbrev y146 : Ty := .int .i32
abbrev y147 : Ty := .int .i32
def i2 : TyI := { k := Go.X.TyK.int Go.IntKind.i64, size := 1, bytes := 8, zero := Go.Value.int Go.IntKind.i64 (0), fa := [], eqs := false }
def i3 : TyI := { k := Go.X.TyK.int Go.IntKind.i64, size := 1, bytes := 8, zero := Go.Value.int Go.IntKind.i64 (0), fa := [], eqs := false }
def i4 : TyI := { k := Go.X.TyK.bool, size := 1, bytes := 1, zero := Go.Value.bool false, fa := [], eqs := false }
def i5 : TyI := { k := Go.X.TyK.int Go.IntKind.u8, size := 1, bytes := 1, zero := Go.Value.int Go.IntKind.u8 (0), fa := [], eqs := false }
def i6 : TyI := { k := Go.X.TyK.int Go.IntKind.u8, size := 1, bytes := 1, zero := Go.Value.int Go.IntKind.u8 (0), fa := [], eqs := false }
def i7 : TyI := { k := Go.X.TyK.struct [(0, 1), (1, 1), (2, 1), (3, 1)], size := 4, bytes := 24, zero := Go.Value.agg { toList := [Go.Value.int Go.IntKind.i64 (0), Go.Value.int Go.IntKind.i64 (0), Go.Value.bool false, Go.Value.int Go.IntKind.u8 (0)] }, fa := [some false, some false, some false, some false], eqs := false }
def i8 : TyI := { k := Go.X.TyK.struct [(0, 1), (1, 1), (2, 1), (3, 1)], size := 4, bytes := 24, zero := Go.Value.agg { toList := [Go.Value.int Go.IntKind.i64 (0), Go.Value.int Go.IntKind.i64 (0), Go.Value.bool false, Go.Value.int Go.IntKind.u8 (0)] }, fa := [some false, some false, some false, some false], eqs := false }
def i9 : TyI := { k := Go.X.TyK.string, size := 1, bytes := 16, zero := Go.Value.string ⟨#[]⟩, fa := [], eqs := false }
def i10 : TyI := { k := Go.X.TyK.string, size := 1, bytes := 16, zero := Go.Value.string ⟨#[]⟩, fa := [], eqs := false }
def i11 : TyI := { k := Go.X.TyK.string, size := 1, bytes := 16, zero := Go.Value.string ⟨#[]⟩, fa := [], eqs := false }
def i12 : TyI := { k := Go.X.TyK.int Go.IntKind.u64, size := 1, bytes := 8, zero := Go.Value.int Go.IntKind.u64 (0), fa := [], eqs := false }
def i13 : TyI := { k := Go.X.TyK.struct [(0, 1), (1, 1)], size := 2, bytes := 24, zero := Go.Value.agg { toList := [Go.Value.string ⟨#[]⟩, Go.Value.int Go.IntKind.u64 (0)] }, fa := [some false, some false], eqs := false }
def i14 : TyI := { k := Go.X.TyK.struct [(0, 1), (1, 1)], size := 2, bytes := 24, zero := Go.Value.agg { toList := [Go.Value.string ⟨#[]⟩, Go.Value.int Go.IntKind.u64 (0)] }, fa := [some false, some false], eqs := false }
def i21 : TyI := { k := Go.X.TyK.int Go.IntKind.i32, size := 1, bytes := 4, zero := Go.Value.int Go.IntKind.i32 (0), fa := [], eqs := false }
def i22 : TyI := { k := Go.X.TyK.slice 9, size := 1, bytes := 24, zero := Go.Value.slice none 0 0, fa := [], eqs := false }
def i23 : TyI := { k := Go.X.TyK.struct [(0, 1), (1, 1), (2, 1), (3, 1), (4, 1), (5, 1), (6, 1), (7, 1), (8, 1)], size := 9, bytes := 96, zero := Go.Value.agg { toList := [Go.Value.string ⟨#[]⟩, Go.Value.slice none 0 0, Go.Value.int Go.IntKind.i64 (0), Go.Value.int Go.IntKind.i64 (0), Go.Value.int Go.IntKind.i64 (0), Go.Value.int Go.IntKind.i64 (0), Go.Value.int Go.IntKind.i64 (0), Go.Value.int Go.IntKind.i64 (0), Go.Value.int Go.IntKind.i64 (0)] }, fa := [some false, some false, some false, some false, some false, some false, some false, some false, some false], eqs := false }
def i24 : TyI := { k := Go.X.TyK.struct [(0, 1), (1, 1), (2, 1), (3, 1), (4, 1), (5, 1), (6, 1), (7, 1), (8, 1)], size := 9, bytes := 96, zero := Go.Value.agg { toList := [Go.Value.string ⟨#[]⟩, Go.Value.slice none 0 0, Go.Value.int Go.IntKind.i64 (0), Go.Value.int Go.IntKind.i64 (0), Go.Value.int Go.IntKind.i64 (0), Go.Value.int Go.IntKind.i64 (0), Go.Value.int Go.IntKind.i64 (0), Go.Value.int Go.IntKind.i64 (0), Go.Value.int Go.IntKind.i64 (0)] }, fa := [some false, some false, some false, some false, some false, some false, some false, some false, some false], eqs := false }
def i25 : TyI := { k := Go.X.TyK.slice 3, size := 1, bytes := 24, zero := Go.Value.slice none 0 0, fa := [], eqs := false }
def i26 : TyI := { k := Go.X.TyK.slice 45, size := 1, bytes := 24, zero := Go.Value.slice none 0 0, fa := [], eqs := false }
def i27 : TyI := { k := Go.X.TyK.slice 25, size := 1, bytes := 24, zero := Go.Value.slice none 0 0, fa := [], eqs := false }
def i34 : TyI := { k := Go.X.TyK.slice 89, size := 1, bytes := 24, zero := Go.Value.slice none 0 0, fa := [], eqs := false }
def i44 : TyI := { k := Go.X.TyK.struct [(0, 1), (1, 1), (2, 1), (3, 1), (4, 1)], size := 5, bytes := 56, zero := Go.Value.agg { toList := [Go.Value.int Go.IntKind.i64 (0), Go.Value.int Go.IntKind.i64 (0), Go.Value.int Go.IntKind.i64 (0), Go.Value.slice none 0 0, Go.Value.int Go.IntKind.i64 (0)] }, fa := [some false, some false, some false, some false, some false], eqs := false }
def i45 : TyI := { k := Go.X.TyK.struct [(0, 1), (1, 1), (2, 1), (3, 1), (4, 1)], size := 5, bytes := 56, zero := Go.Value.agg { toList := [Go.Value.int Go.IntKind.i64 (0), Go.Value.int Go.IntKind.i64 (0), Go.Value.int Go.IntKind.i64 (0), Go.Value.slice none 0 0, Go.Value.int Go.IntKind.i64 (0)] }, fa := [some false, some false, some false, some false, some false], eqs := false }
def i51 : TyI := { k := Go.X.TyK.int Go.IntKind.i64, size := 1, bytes := 8, zero := Go.Value.int Go.IntKind.i64 (0), fa := [], eqs := false }
def i68 : TyI := { k := Go.X.TyK.slice 5, size := 1, bytes := 24, zero := Go.Value.slice none 0 0, fa := [], eqs := false }
def i73 : TyI := { k := Go.X.TyK.array 5 3, size := 5, bytes := 40, zero := Go.Value.agg { toList := [Go.Value.int Go.IntKind.i64 (0), Go.Value.int Go.IntKind.i64 (0), Go.Value.int Go.IntKind.i64 (0), Go.Value.int Go.IntKind.i64 (0), Go.Value.int Go.IntKind.i64 (0)] }, fa := [], eqs := false }
def i83 : TyI := { k := Go.X.TyK.array 4 3, size := 4, bytes := 32, zero := Go.Value.agg { toList := [Go.Value.int Go.IntKind.i64 (0), Go.Value.int Go.IntKind.i64 (0), Go.Value.int Go.IntKind.i64 (0), Go.Value.int Go.IntKind.i64 (0)] }, fa := [], eqs := false }
def i87 : TyI := { k := Go.X.TyK.int Go.IntKind.u64, size := 1, bytes := 8, zero := Go.Value.int Go.IntKind.u64 (0), fa := [], eqs := false }
def i88 : TyI := { k := Go.X.TyK.struct [(0, 1), (1, 1)], size := 2, bytes := 32, zero := Go.Value.agg { toList := [Go.Value.slice none 0 0, Go.Value.int Go.IntKind.i64 (0)] }, fa := [some false, some false], eqs := false }
def i89 : TyI := { k := Go.X.TyK.struct [(0, 1), (1, 1)], size := 2, bytes := 32, zero := Go.Value.agg { toList := [Go.Value.slice none 0 0, Go.Value.int Go.IntKind.i64 (0)] }, fa := [some false, some false], eqs := false }
def i96 : TyI := { k := Go.X.TyK.slice 4, size := 1, bytes := 24, zero := Go.Value.slice none 0 0, fa := [], eqs := false }
def i109 : TyI := { k := Go.X.TyK.array 7 4, size := 7, bytes := 7, zero := Go.Value.agg { toList := [Go.Value.bool false, Go.Value.bool false, Go.Value.bool false, Go.Value.bool false, Go.Value.bool false, Go.Value.bool false, Go.Value.bool false] }, fa := [], eqs := false }
def i115 : TyI := { k := Go.X.TyK.int Go.IntKind.i64, size := 1, bytes := 8, zero := Go.Value.int Go.IntKind.i64 (0), fa := [], eqs := false }
def i124 : TyI := { k := Go.X.TyK.int Go.IntKind.u32, size := 1, bytes := 4, zero := Go.Value.int Go.IntKind.u32 (0), fa := [], eqs := false }
def i126 : TyI := { k := Go.X.TyK.int Go.IntKind.u64, size := 1, bytes := 8, zero := Go.Value.int Go.IntKind.u64 (0), fa := [], eqs := false }
def i127 : TyI := { k := Go.X.TyK.int Go.IntKind.u64, size := 1, bytes := 8, zero := Go.Value.int Go.IntKind.u64 (0), fa := [], eqs := false }
def i142 : TyI := { k := Go.X.TyK.int Go.IntKind.u8, size := 1, bytes := 1, zero := Go.Value.int Go.IntKind.u8 (0), fa := [], eqs := false }
def i143 : TyI := { k := Go.X.TyK.int Go.IntKind.u8, size := 1, bytes := 1, zero := Go.Value.int Go.IntKind.u8 (0), fa := [], eqs := false }
def i146 : TyI := { k := Go.X.TyK.int Go.IntKind.i32, size := 1, bytes := 4, zero := Go.Value.int Go.IntKind.i32 (0), fa := [], eqs := false }
def i147 : TyI := { k := Go.X.TyK.int Go.IntKind.i32, size := 1, bytes := 4, zero := Go.Value.int Go.IntKind.i32 (0), fa := [], eqs := false }
def tab : Tab := [(2, i2, y2), (3, i3, y3), (4, i4, y4), (5, i5, y5), (6, i6, y6), (7, i7, y7), (8, i8, y8), (9, i9, y9), (10, i10, y10), (11, i11, y11), (12, i12, y12), (13, i13, y13), (14, i14, y14), (21, i21, y21), (22, i22, y22), (23, i23, y23), (24, i24, y24), (25, i25, y25), (26, i26, y26), (27, i27, y27), (34, i34, y34), (44, i44, y44), (45, i45, y45), (51, i51, y51), (68, i68, y68), (73, i73, y73), (83, i83, y83), (87, i87, y87), (88, i88, y88), (89, i89, y89), (96, i96, y96), (109, i109, y109), (115, i115, y115), (124, i124, y124), (126, i126, y126), (127, i127, y127), (142, i142, y142), (143, i143, y143), (146, i146, y146), (147, i147, y147)]
theorem ty2 : Go.X.ty Tryz.prog 2 = some i2 := by kernel_rfl
theorem ty3 : Go.X.ty Tryz.prog 3 = some i3 := by kernel_rfl
theorem ty4 : Go.X.ty Tryz.prog 4 = some i4 := by kernel_rfl
theorem ty5 : Go.X.ty Tryz.prog 5 = some i5 := by kernel_rfl
theorem ty6 : Go.X.ty Tryz.prog 6 = some i6 := by kernel_rfl
theorem ty7 : Go.X.ty Tryz.prog 7 = some i7 := by kernel_rfl
theorem ty8 : Go.X.ty Tryz.prog 8 = some i8 := by kernel_rfl
theorem ty9 : Go.X.ty Tryz.prog 9 = some i9 := by kernel_rfl
theorem ty10 : Go.X.ty Tryz.prog 10 = some i10 := by kernel_rfl
theorem ty11 : Go.X.ty Tryz.prog 11 = some i11 := by kernel_rfl
theorem ty12 : Go.X.ty Tryz.prog 12 = some i12 := by kernel_rfl
theorem ty13 : Go.X.ty Tryz.prog 13 = some i13 := by kernel_rfl
theorem ty14 : Go.X.ty Tryz.prog 14 = some i14 := by kernel_rfl
theorem ty21 : Go.X.ty Tryz.prog 21 = some i21 := by kernel_rfl
theorem ty22 : Go.X.ty Tryz.prog 22 = some i22 := by kernel_rfl
theorem ty23 : Go.X.ty Tryz.prog 23 = some i23 := by kernel_rfl
theorem ty24 : Go.X.ty Tryz.prog 24 = some i24 := by kernel_rfl
theorem ty25 : Go.X.ty Tryz.prog 25 = some i25 := by kernel_rfl
theorem ty26 : Go.X.ty Tryz.prog 26 = some i26 := by kernel_rfl
theorem ty27 : Go.X.ty Tryz.prog 27 = some i27 := by kernel_rfl
theorem ty34 : Go.X.ty Tryz.prog 34 = some i34 := by kernel_rfl
theorem ty44 : Go.X.ty Tryz.prog 44 = some i44 := by kernel_rfl
theorem ty45 : Go.X.ty Tryz.prog 45 = some i45 := by kernel_rfl
theorem ty51 : Go.X.ty Tryz.prog 51 = some i51 := by kernel_rfl
theorem ty68 : Go.X.ty Tryz.prog 68 = some i68 := by kernel_rfl
theorem ty73 : Go.X.ty Tryz.prog 73 = some i73 := by kernel_rfl
theorem ty83 : Go.X.ty Tryz.prog 83 = some i83 := by kernel_rfl
theorem ty87 : Go.X.ty Tryz.prog 87 = some i87 := by kernel_rfl
theorem ty88 : Go.X.ty Tryz.prog 88 = some i88 := by kernel_rfl
theorem ty89 : Go.X.ty Tryz.prog 89 = some i89 := by kernel_rfl
theorem ty96 : Go.X.ty Tryz.prog 96 = some i96 := by kernel_rfl
theorem ty109 : Go.X.ty Tryz.prog 109 = some i109 := by kernel_rfl
theorem ty115 : Go.X.ty Tryz.prog 115 = some i115 := by kernel_rfl
theorem ty124 : Go.X.ty Tryz.prog 124 = some i124 := by kernel_rfl
theorem ty126 : Go.X.ty Tryz.prog 126 = some i126 := by kernel_rfl
theorem ty127 : Go.X.ty Tryz.prog 127 = some i127 := by kernel_rfl
theorem ty142 : Go.X.ty Tryz.prog 142 = some i142 := by kernel_rfl
theorem ty143 : Go.X.ty Tryz.prog 143 = some i143 := by kernel_rfl
theorem ty146 : Go.X.ty Tryz.prog 146 = some i146 := by kernel_rfl
theorem ty147 : Go.X.ty Tryz.prog 147 = some i147 := by kernel_rfl
theorem tab_nil : ∀ id i t, tl [] id = some (i, t) → Go.X.ty Tryz.prog id = some i ∧ agree tab i t = true := fun _ _ _ h => by cases h
theorem tab_cons {L : Tab} {x : TypeId} {j : TyI} {u : Ty} (h1 : Go.X.ty Tryz.prog x = some j) (h2 : agree tab j u = true) (h : ∀ id i t, tl L id = some (i, t) → Go.X.ty Tryz.prog id = some i ∧ agree tab i t = true) : ∀ id i t, tl ((x, j, u) :: L) id = some (i, t) → Go.X.ty Tryz.prog id = some i ∧ agree tab i t = true := fun id i t hl => by
  unfold tl at hl
  split at hl
  · rename_i he
    subst he
    cases hl
    exact ⟨h1, h2⟩
  · exact h id i t hl
theorem tabOK : TabOK Tryz.prog tab :=
  tab_cons ty2 (by kernel_rfl) (
  tab_cons ty3 (by kernel_rfl) (
  tab_cons ty4 (by kernel_rfl) (
  tab_cons ty5 (by kernel_rfl) (
  tab_cons ty6 (by kernel_rfl) (
  tab_cons ty7 (by kernel_rfl) (
  tab_cons ty8 (by kernel_rfl) (
  tab_cons ty9 (by kernel_rfl) (
  tab_cons ty10 (by kernel_rfl) (
  tab_cons ty11 (by kernel_rfl) (
  tab_cons ty12 (by kernel_rfl) (
  tab_cons ty13 (by kernel_rfl) (
  tab_cons ty14 (by kernel_rfl) (
  tab_cons ty21 (by kernel_rfl) (
  tab_cons ty22 (by kernel_rfl) (
  tab_cons ty23 (by kernel_rfl) (
  tab_cons ty24 (by kernel_rfl) (
  tab_cons ty25 (by kernel_rfl) (
  tab_cons ty26 (by kernel_rfl) (
  tab_cons ty27 (by kernel_rfl) (
  tab_cons ty34 (by kernel_rfl) (
  tab_cons ty44 (by kernel_rfl) (
  tab_cons ty45 (by kernel_rfl) (
  tab_cons ty51 (by kernel_rfl) (
  tab_cons ty68 (by kernel_rfl) (
  tab_cons ty73 (by kernel_rfl) (
  tab_cons ty83 (by kernel_rfl) (
  tab_cons ty87 (by kernel_rfl) (
  tab_cons ty88 (by kernel_rfl) (
  tab_cons ty89 (by kernel_rfl) (
  tab_cons ty96 (by kernel_rfl) (
  tab_cons ty109 (by kernel_rfl) (
  tab_cons ty115 (by kernel_rfl) (
  tab_cons ty124 (by kernel_rfl) (
  tab_cons ty126 (by kernel_rfl) (
  tab_cons ty127 (by kernel_rfl) (
  tab_cons ty142 (by kernel_rfl) (
  tab_cons ty143 (by kernel_rfl) (
  tab_cons ty146 (by kernel_rfl) (
  tab_cons ty147 (by kernel_rfl) (
  tab_nil))))))))))))))))))))))))))))))))))))))))
theorem mixd : Tryz.prog.follows .mixedOrders = true := by kernel_rfl
abbrev w (n : Int) : Int := IntKind.wrap .i64 n
abbrev wi32 (n : Int) : Int := IntKind.wrap .i32 n
abbrev wu8 (n : Int) : Int := IntKind.wrap .u8 n
abbrev wu64 (n : Int) : Int := IntKind.wrap .u64 n
abbrev wu32 (n : Int) : Int := IntKind.wrap .u32 n
abbrev wu16 (n : Int) : Int := IntKind.wrap .u16 n
abbrev wi16 (n : Int) : Int := IntKind.wrap .i16 n
abbrev wi8 (n : Int) : Int := IntKind.wrap .i8 n
noncomputable def code (f : Func) : Code := match f.body with
  | some c => c
  | none => .skip
theorem code_of {f : Func} (h : f.body.isSome = true) : f.body = some (code f) := by
  unfold code
  cases hb : f.body with
  | none => rw [hb] at h; cases h
  | some c => rfl
end Go.Proofs.YthlgoakkgmabaaaGreat
