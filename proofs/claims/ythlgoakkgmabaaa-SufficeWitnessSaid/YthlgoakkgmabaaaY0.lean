/- The types of the program, as the calculus reads them. -/
import Derived.Test.YthlgoakkgmabaaaProg
import Derived.Test.YthlgoakkgmabaaaX35
import Derived.KernelRfl
open Go Go.Proofs Go.X
namespace Go.Proofs.Ythlgoakkgmabaaa
abbrev y2 : Ty := .int .i64
abbrev y3 : Ty := .int .i64
abbrev y4 : Ty := .bool
abbrev y5 : Ty := .int .u8
abbrev y6 : Ty := .int .u8
abbrev y7 : Ty := .pair y2 (.pair y3 (.pair y4 y6))
abbrev y8 : Ty := .pair y2 (.pair y3 (.pair y4 y6))
abbrev y9 : Ty := .str
abbrev y10 : Ty := .str
abbrev y11 : Ty := .str
abbrev y12 : Ty := .int .u64
abbrev y13 : Ty := .pair y9 y12
abbrev y14 : Ty := .pair y9 y12
abbrev y21 : Ty := .int .i32
abbrev y26 : Ty := .slice y3
abbrev y22 : Ty := .slice y26
abbrev y23 : Ty := .fn2 y3 y3 y3
abbrev y37 : Ty := .pair y3 (.pair y3 (.pair y3 (.pair y26 y3)))
abbrev y24 : Ty := .slice y37
abbrev y25 : Ty := .fn2 y3 y22 y24
abbrev y29 : Ty := .fn2 y3 y26 y4
abbrev y79 : Ty := .pair y26 y3
abbrev y32 : Ty := .slice y79
abbrev y34 : Ty := .fn2 y22 y3 y22
abbrev y36 : Ty := .pair y3 (.pair y3 (.pair y3 (.pair y26 y3)))
abbrev y38 : Ty := .fn2 y26 y26 y4
abbrev y39 : Ty := .fn2 y3 y32 y26
abbrev y41 : Ty := .arr 5 y3
abbrev y46 : Ty := .fn2 y26 y26 y3
abbrev y49 : Ty := .slice y9
abbrev y50 : Ty := .pair y9 (.pair y49 (.pair y3 (.pair y3 (.pair y3 (.pair y3 (.pair y3 (.pair y3 y3)))))))
abbrev y51 : Ty := .pair y9 (.pair y49 (.pair y3 (.pair y3 (.pair y3 (.pair y3 (.pair y3 (.pair y3 y3)))))))
abbrev y53 : Ty := .int .i64
abbrev y58 : Ty := .fn2 y3 y32 y4
abbrev y59 : Ty := .slice y4
abbrev y62 : Ty := .int .u64
abbrev y63 : Ty := .fn1 y26 y4
abbrev y65 : Ty := .fn2 y26 y3 y4
abbrev y66 : Ty := .fn2 y3 y37 y4
abbrev y67 : Ty := .fn2 y26 y3 y3
abbrev y68 : Ty := .fn1 y51 y4
abbrev y71 : Ty := .fn1 y37 y4
abbrev y69 : Ty := .fn2 y24 y71 y4
abbrev y70 : Ty := .fn2 y37 y37 y3
abbrev y72 : Ty := .fn1 y3 y49
abbrev y74 : Ty := .fn2 y3 y26 y26
abbrev y77 : Ty := .fn1 y32 y4
abbrev y78 : Ty := .pair y26 y3
abbrev y82 : Ty := .fn1 y3 y4
abbrev y80 : Ty := .fn2 y26 y82 y3
abbrev y81 : Ty := .fn2 y59 y3 y4
abbrev y84 : Ty := .fn2 y24 y71 y3
abbrev y86 : Ty := .slice y5
abbrev y87 : Ty := .fn2 y32 y3 y3
abbrev y90 : Ty := .fn1 y32 y3
abbrev y96 : Ty := .fn1 y79 y3
abbrev y95 : Ty := .fn2 y32 y96 y3
abbrev y97 : Ty := .arr 7 y4
abbrev y101 : Ty := .fn1 y62 y3
abbrev y103 : Ty := .int .i64
abbrev y107 : Ty := .fn2 y3 y3 y4
abbrev y112 : Ty := .int .u32
abbrev y111 : Ty := .fn1 y112 y3
abbrev y114 : Ty := .int .u64
abbrev y113 : Ty := .fn1 y114 y3
abbrev y115 : Ty := .int .u64
abbrev y116 : Ty := .fn1 y3 y62
abbrev y130 : Ty := .int .u8
abbrev y131 : Ty := .int .u8
abbrev y134 : Ty := .int .i32
abbrev y135 : Ty := .int .i32
def i2 : TyI := { k := Go.X.TyK.int Go.IntKind.i64, size := 1, bytes := 8, zero := Go.Value.int Go.IntKind.i64 (0), fa := [], eqs := false }
def i3 : TyI := { k := Go.X.TyK.int Go.IntKind.i64, size := 1, bytes := 8, zero := Go.Value.int Go.IntKind.i64 (0), fa := [], eqs := false }
def i4 : TyI := { k := Go.X.TyK.bool, size := 1, bytes := 1, zero := Go.Value.bool false, fa := [], eqs := false }
def i5 : TyI := { k := Go.X.TyK.int Go.IntKind.u8, size := 1, bytes := 1, zero := Go.Value.int Go.IntKind.u8 (0), fa := [], eqs := false }
def i6 : TyI := { k := Go.X.TyK.int Go.IntKind.u8, size := 1, bytes := 1, zero := Go.Value.int Go.IntKind.u8 (0), fa := [], eqs := false }
def i7 : TyI := { k := Go.X.TyK.struct [(0, 1), (1, 1), (2, 1), (3, 1)], size := 4, bytes := 24, zero := Go.Value.agg { toList := [Go.Value.int Go.IntKind.i64 (0), Go.Value.int Go.IntKind.i64 (0), Go.Value.bool false, Go.Value.int Go.IntKind.u8 (0)] }, fa := [some false, some false, some false, some false], eqs := false }
def i8 : TyI := { k := Go.X.TyK.struct [(0, 1), (1, 1), (2, 1), (3, 1)], size := 4, bytes := 24, zero := Go.Value.agg { toList := [Go.Value.int Go.IntKind.i64 (0), Go.Value.int Go.IntKind.i64 (0), Go.Value.bool false, Go.Value.int Go.IntKind.u8 (0)] }, fa := [some false, some false, some false, some false], eqs := false }
def i9 : TyI := { k := Go.X.TyK.string, size := 1, bytes := 16, zero := Go.Value.string ⟨#[]⟩, fa := [], eqs := false }
def i10 : TyI := { k := Go.X.TyK.string, size := 1, bytes := 16, zero := Go.Value.string ⟨#[]⟩, fa := [], eqs := false }
def i11 : TyI := { k := Go.X.TyK.string, size := 1, bytes := 16, zero := Go.Value.string ⟨#[]⟩, fa := [], eqs := false }
def i12 : TyI := { k := Go.X.TyK.int Go.IntKind.u64, size := 1, bytes := 8, zero := Go.Value.int Go.IntKind.u64 (0), fa := [], eqs := false }
def i13 : TyI := { k := Go.X.TyK.struct [(0, 1), (1, 1)], size := 2, bytes := 24, zero := Go.Value.agg { toList := [Go.Value.string ⟨#[]⟩, Go.Value.int Go.IntKind.u64 (0)] }, fa := [some false, some false], eqs := false }
def i14 : TyI := { k := Go.X.TyK.struct [(0, 1), (1, 1)], size := 2, bytes := 24, zero := Go.Value.agg { toList := [Go.Value.string ⟨#[]⟩, Go.Value.int Go.IntKind.u64 (0)] }, fa := [some false, some false], eqs := false }
def i21 : TyI := { k := Go.X.TyK.int Go.IntKind.i32, size := 1, bytes := 4, zero := Go.Value.int Go.IntKind.i32 (0), fa := [], eqs := false }
def i22 : TyI := { k := Go.X.TyK.slice 26, size := 1, bytes := 24, zero := Go.Value.slice none 0 0, fa := [], eqs := false }
def i24 : TyI := { k := Go.X.TyK.slice 37, size := 1, bytes := 24, zero := Go.Value.slice none 0 0, fa := [], eqs := false }
def i26 : TyI := { k := Go.X.TyK.slice 3, size := 1, bytes := 24, zero := Go.Value.slice none 0 0, fa := [], eqs := false }
def i32 : TyI := { k := Go.X.TyK.slice 79, size := 1, bytes := 24, zero := Go.Value.slice none 0 0, fa := [], eqs := false }
def i36 : TyI := { k := Go.X.TyK.struct [(0, 1), (1, 1), (2, 1), (3, 1), (4, 1)], size := 5, bytes := 56, zero := Go.Value.agg { toList := [Go.Value.int Go.IntKind.i64 (0), Go.Value.int Go.IntKind.i64 (0), Go.Value.int Go.IntKind.i64 (0), Go.Value.slice none 0 0, Go.Value.int Go.IntKind.i64 (0)] }, fa := [some false, some false, some false, some false, some false], eqs := false }
def i37 : TyI := { k := Go.X.TyK.struct [(0, 1), (1, 1), (2, 1), (3, 1), (4, 1)], size := 5, bytes := 56, zero := Go.Value.agg { toList := [Go.Value.int Go.IntKind.i64 (0), Go.Value.int Go.IntKind.i64 (0), Go.Value.int Go.IntKind.i64 (0), Go.Value.slice none 0 0, Go.Value.int Go.IntKind.i64 (0)] }, fa := [some false, some false, some false, some false, some false], eqs := false }
def i41 : TyI := { k := Go.X.TyK.array 5 3, size := 5, bytes := 40, zero := Go.Value.agg { toList := [Go.Value.int Go.IntKind.i64 (0), Go.Value.int Go.IntKind.i64 (0), Go.Value.int Go.IntKind.i64 (0), Go.Value.int Go.IntKind.i64 (0), Go.Value.int Go.IntKind.i64 (0)] }, fa := [], eqs := false }
def i49 : TyI := { k := Go.X.TyK.slice 9, size := 1, bytes := 24, zero := Go.Value.slice none 0 0, fa := [], eqs := false }
def i50 : TyI := { k := Go.X.TyK.struct [(0, 1), (1, 1), (2, 1), (3, 1), (4, 1), (5, 1), (6, 1), (7, 1), (8, 1)], size := 9, bytes := 96, zero := Go.Value.agg { toList := [Go.Value.string ⟨#[]⟩, Go.Value.slice none 0 0, Go.Value.int Go.IntKind.i64 (0), Go.Value.int Go.IntKind.i64 (0), Go.Value.int Go.IntKind.i64 (0), Go.Value.int Go.IntKind.i64 (0), Go.Value.int Go.IntKind.i64 (0), Go.Value.int Go.IntKind.i64 (0), Go.Value.int Go.IntKind.i64 (0)] }, fa := [some false, some false, some false, some false, some false, some false, some false, some false, some false], eqs := false }
def i51 : TyI := { k := Go.X.TyK.struct [(0, 1), (1, 1), (2, 1), (3, 1), (4, 1), (5, 1), (6, 1), (7, 1), (8, 1)], size := 9, bytes := 96, zero := Go.Value.agg { toList := [Go.Value.string ⟨#[]⟩, Go.Value.slice none 0 0, Go.Value.int Go.IntKind.i64 (0), Go.Value.int Go.IntKind.i64 (0), Go.Value.int Go.IntKind.i64 (0), Go.Value.int Go.IntKind.i64 (0), Go.Value.int Go.IntKind.i64 (0), Go.Value.int Go.IntKind.i64 (0), Go.Value.int Go.IntKind.i64 (0)] }, fa := [some false, some false, some false, some false, some false, some false, some false, some false, some false], eqs := false }
def i53 : TyI := { k := Go.X.TyK.int Go.IntKind.i64, size := 1, bytes := 8, zero := Go.Value.int Go.IntKind.i64 (0), fa := [], eqs := false }
def i59 : TyI := { k := Go.X.TyK.slice 4, size := 1, bytes := 24, zero := Go.Value.slice none 0 0, fa := [], eqs := false }
def i62 : TyI := { k := Go.X.TyK.int Go.IntKind.u64, size := 1, bytes := 8, zero := Go.Value.int Go.IntKind.u64 (0), fa := [], eqs := false }
def i78 : TyI := { k := Go.X.TyK.struct [(0, 1), (1, 1)], size := 2, bytes := 32, zero := Go.Value.agg { toList := [Go.Value.slice none 0 0, Go.Value.int Go.IntKind.i64 (0)] }, fa := [some false, some false], eqs := false }
def i79 : TyI := { k := Go.X.TyK.struct [(0, 1), (1, 1)], size := 2, bytes := 32, zero := Go.Value.agg { toList := [Go.Value.slice none 0 0, Go.Value.int Go.IntKind.i64 (0)] }, fa := [some false, some false], eqs := false }
def i86 : TyI := { k := Go.X.TyK.slice 5, size := 1, bytes := 24, zero := Go.Value.slice none 0 0, fa := [], eqs := false }
def i97 : TyI := { k := Go.X.TyK.array 7 4, size := 7, bytes := 7, zero := Go.Value.agg { toList := [Go.Value.bool false, Go.Value.bool false, Go.Value.bool false, Go.Value.bool false, Go.Value.bool false, Go.Value.bool false, Go.Value.bool false] }, fa := [], eqs := false }
def i103 : TyI := { k := Go.X.TyK.int Go.IntKind.i64, size := 1, bytes := 8, zero := Go.Value.int Go.IntKind.i64 (0), fa := [], eqs := false }
def i112 : TyI := { k := Go.X.TyK.int Go.IntKind.u32, size := 1, bytes := 4, zero := Go.Value.int Go.IntKind.u32 (0), fa := [], eqs := false }
def i114 : TyI := { k := Go.X.TyK.int Go.IntKind.u64, size := 1, bytes := 8, zero := Go.Value.int Go.IntKind.u64 (0), fa := [], eqs := false }
def i115 : TyI := { k := Go.X.TyK.int Go.IntKind.u64, size := 1, bytes := 8, zero := Go.Value.int Go.IntKind.u64 (0), fa := [], eqs := false }
def i130 : TyI := { k := Go.X.TyK.int Go.IntKind.u8, size := 1, bytes := 1, zero := Go.Value.int Go.IntKind.u8 (0), fa := [], eqs := false }
def i131 : TyI := { k := Go.X.TyK.int Go.IntKind.u8, size := 1, bytes := 1, zero := Go.Value.int Go.IntKind.u8 (0), fa := [], eqs := false }
def i134 : TyI := { k := Go.X.TyK.int Go.IntKind.i32, size := 1, bytes := 4, zero := Go.Value.int Go.IntKind.i32 (0), fa := [], eqs := false }
def i135 : TyI := { k := Go.X.TyK.int Go.IntKind.i32, size := 1, bytes := 4, zero := Go.Value.int Go.IntKind.i32 (0), fa := [], eqs := false }
def tab : Tab := [(2, i2, y2), (3, i3, y3), (4, i4, y4), (5, i5, y5), (6, i6, y6), (7, i7, y7), (8, i8, y8), (9, i9, y9), (10, i10, y10), (11, i11, y11), (12, i12, y12), (13, i13, y13), (14, i14, y14), (21, i21, y21), (22, i22, y22), (24, i24, y24), (26, i26, y26), (32, i32, y32), (36, i36, y36), (37, i37, y37), (41, i41, y41), (49, i49, y49), (50, i50, y50), (51, i51, y51), (53, i53, y53), (59, i59, y59), (62, i62, y62), (78, i78, y78), (79, i79, y79), (86, i86, y86), (97, i97, y97), (103, i103, y103), (112, i112, y112), (114, i114, y114), (115, i115, y115), (130, i130, y130), (131, i131, y131), (134, i134, y134), (135, i135, y135)]
theorem ty2 : Go.X.ty Try.prog 2 = some i2 := by kernel_rfl
theorem ty3 : Go.X.ty Try.prog 3 = some i3 := by kernel_rfl
theorem ty4 : Go.X.ty Try.prog 4 = some i4 := by kernel_rfl
theorem ty5 : Go.X.ty Try.prog 5 = some i5 := by kernel_rfl
theorem ty6 : Go.X.ty Try.prog 6 = some i6 := by kernel_rfl
theorem ty7 : Go.X.ty Try.prog 7 = some i7 := by kernel_rfl
theorem ty8 : Go.X.ty Try.prog 8 = some i8 := by kernel_rfl
theorem ty9 : Go.X.ty Try.prog 9 = some i9 := by kernel_rfl
theorem ty10 : Go.X.ty Try.prog 10 = some i10 := by kernel_rfl
theorem ty11 : Go.X.ty Try.prog 11 = some i11 := by kernel_rfl
theorem ty12 : Go.X.ty Try.prog 12 = some i12 := by kernel_rfl
theorem ty13 : Go.X.ty Try.prog 13 = some i13 := by kernel_rfl
theorem ty14 : Go.X.ty Try.prog 14 = some i14 := by kernel_rfl
theorem ty21 : Go.X.ty Try.prog 21 = some i21 := by kernel_rfl
theorem ty22 : Go.X.ty Try.prog 22 = some i22 := by kernel_rfl
theorem ty24 : Go.X.ty Try.prog 24 = some i24 := by kernel_rfl
theorem ty26 : Go.X.ty Try.prog 26 = some i26 := by kernel_rfl
theorem ty32 : Go.X.ty Try.prog 32 = some i32 := by kernel_rfl
theorem ty36 : Go.X.ty Try.prog 36 = some i36 := by kernel_rfl
theorem ty37 : Go.X.ty Try.prog 37 = some i37 := by kernel_rfl
theorem ty41 : Go.X.ty Try.prog 41 = some i41 := by kernel_rfl
theorem ty49 : Go.X.ty Try.prog 49 = some i49 := by kernel_rfl
theorem ty50 : Go.X.ty Try.prog 50 = some i50 := by kernel_rfl
theorem ty51 : Go.X.ty Try.prog 51 = some i51 := by kernel_rfl
theorem ty53 : Go.X.ty Try.prog 53 = some i53 := by kernel_rfl
theorem ty59 : Go.X.ty Try.prog 59 = some i59 := by kernel_rfl
theorem ty62 : Go.X.ty Try.prog 62 = some i62 := by kernel_rfl
theorem ty78 : Go.X.ty Try.prog 78 = some i78 := by kernel_rfl
theorem ty79 : Go.X.ty Try.prog 79 = some i79 := by kernel_rfl
theorem ty86 : Go.X.ty Try.prog 86 = some i86 := by kernel_rfl
theorem ty97 : Go.X.ty Try.prog 97 = some i97 := by kernel_rfl
theorem ty103 : Go.X.ty Try.prog 103 = some i103 := by kernel_rfl
theorem ty112 : Go.X.ty Try.prog 112 = some i112 := by kernel_rfl
theorem ty114 : Go.X.ty Try.prog 114 = some i114 := by kernel_rfl
theorem ty115 : Go.X.ty Try.prog 115 = some i115 := by kernel_rfl
theorem ty130 : Go.X.ty Try.prog 130 = some i130 := by kernel_rfl
theorem ty131 : Go.X.ty Try.prog 131 = some i131 := by kernel_rfl
theorem ty134 : Go.X.ty Try.prog 134 = some i134 := by kernel_rfl
theorem ty135 : Go.X.ty Try.prog 135 = some i135 := by kernel_rfl
theorem tab_nil : ∀ id i t, tl [] id = some (i, t) → Go.X.ty Try.prog id = some i ∧ agree tab i t = true := fun _ _ _ h => by cases h
theorem tab_cons {L : Tab} {x : TypeId} {j : TyI} {u : Ty} (h1 : Go.X.ty Try.prog x = some j) (h2 : agree tab j u = true) (h : ∀ id i t, tl L id = some (i, t) → Go.X.ty Try.prog id = some i ∧ agree tab i t = true) : ∀ id i t, tl ((x, j, u) :: L) id = some (i, t) → Go.X.ty Try.prog id = some i ∧ agree tab i t = true := fun id i t hl => by
  unfold tl at hl
  split at hl
  · rename_i he
    subst he
    cases hl
    exact ⟨h1, h2⟩
  · exact h id i t hl
theorem tabOK : TabOK Try.prog tab :=
  tab_cons ty2 (by kernel_rfl) (
  tab_cons ty3 (by kernel_rfl) (
  tab_cons ty4 (by kernel_rfl) (
  tab_cons ty5 (by kernel_rfl) (
  tab_cons ty6 (by kernel_rfl) (
  tab_cons ty7 (by kernel_rfl) (
  tab_cons ty8 (by kernel_rfl) (
  tab_cons ty9 (by kernel_rfl) (
  tab_cons ty10 (by kernel_rfl) (
  tab_cons ty11 (by kernel_rfl) (
  tab_cons ty12 (by kernel_rfl) (
  tab_cons ty13 (by kernel_rfl) (
  tab_cons ty14 (by kernel_rfl) (
  tab_cons ty21 (by kernel_rfl) (
  tab_cons ty22 (by kernel_rfl) (
  tab_cons ty24 (by kernel_rfl) (
  tab_cons ty26 (by kernel_rfl) (
  tab_cons ty32 (by kernel_rfl) (
  tab_cons ty36 (by kernel_rfl) (
  tab_cons ty37 (by kernel_rfl) (
  tab_cons ty41 (by kernel_rfl) (
  tab_cons ty49 (by kernel_rfl) (
  tab_cons ty50 (by kernel_rfl) (
  tab_cons ty51 (by kernel_rfl) (
  tab_cons ty53 (by kernel_rfl) (
  tab_cons ty59 (by kernel_rfl) (
  tab_cons ty62 (by kernel_rfl) (
  tab_cons ty78 (by kernel_rfl) (
  tab_cons ty79 (by kernel_rfl) (
  tab_cons ty86 (by kernel_rfl) (
  tab_cons ty97 (by kernel_rfl) (
  tab_cons ty103 (by kernel_rfl) (
  tab_cons ty112 (by kernel_rfl) (
  tab_cons ty114 (by kernel_rfl) (
  tab_cons ty115 (by kernel_rfl) (
  tab_cons ty130 (by kernel_rfl) (
  tab_cons ty131 (by kernel_rfl) (
  tab_cons ty134 (by kernel_rfl) (
  tab_cons ty135 (by kernel_rfl) (
  tab_nil)))))))))))))))))))))))))))))))))))))))
theorem mixd : Try.prog.follows .mixedOrders = true := by kernel_rfl
abbrev w (n : Int) : Int := IntKind.wrap .i64 n
abbrev wi32 (n : Int) : Int := IntKind.wrap .i32 n
abbrev wu8 (n : Int) : Int := IntKind.wrap .u8 n
abbrev wu64 (n : Int) : Int := IntKind.wrap .u64 n
abbrev wu32 (n : Int) : Int := IntKind.wrap .u32 n
abbrev wu16 (n : Int) : Int := IntKind.wrap .u16 n
abbrev wi16 (n : Int) : Int := IntKind.wrap .i16 n
abbrev wi8 (n : Int) : Int := IntKind.wrap .i8 n
noncomputable def code (f : Func) : Code := match f.body with
  | some c => c
  | none => .skip
theorem code_of {f : Func} (h : f.body.isSome = true) : f.body = some (code f) := by
  unfold code
  cases hb : f.body with
  | none => rw [hb] at h; cases h
  | some c => rfl
end Go.Proofs.Ythlgoakkgmabaaa
