/- Part 14 of what stands below the statement. -/
import Derived.Laws.Rows
import Derived.Test.YtieoleabnjdkfaaGreatQ13
set_option linter.unusedSimpArgs false
set_option linter.unusedVariables false
namespace Go.Proofs.YtieoleabnjdkfaaGreat
open Go Go.Proofs Go.RowKit Go.X
theorem loadVar3 {w:World} {a:Addr} {x:Int} (h:w.cell? a=some (.int .i64 x)):(loadVar 3 a).run Tryz.prog w=.ok (.int .i64 x) w:=by
  simp [loadVar,Sem.run_bind,isAgg,run_underlying Tryz.underlying3,Result.andThen,load,Sem.run,h]
theorem own_res {fn:Func} {p q:Tmp} (h:fn.results=#[.cell p 49,.cell q 3]) (tmps:Array Value) {w:World} {g g':Nat} {vs:List Value} {m:Int} (hp:tmps.getD p undef=.pointer (some ⟨g,0,none⟩)) (hq:tmps.getD q undef=.pointer (some ⟨g',0,none⟩))
    (h1:OwnB w g 49 vs) (hl:vs.length=5) (h2:OwnB w g' 3 [.int .i64 m]):(results fn tmps).run Tryz.prog w=.ok (.tuple #[.agg vs.toArray,.int .i64 m]) w:=by
  obtain ⟨cs,h3,rfl⟩:=h1
  have hi:(Tryz.prog.info? 49).map (·.size)=some cs.size:=by
    obtain ⟨i0,e1,_,e2,_⟩:=info_parts (show (Tryz.prog.info? 49).map (fun i=>(i.zero,i.size,i.bytes))=some (some (.agg #[.int .i64 0,.int .i64 0,.int .i64 0,.slice none 0 0,.int .i64 0]),5,56) by kernel_rfl)
    rw [e1]
    simp at hl
    simp [e2,hl]
  have hr1:=run_loadVar_row (P:=Tryz.prog) w g 49 49 cs (0,0) _ h3 Tryz.underlying49 rfl hi
  have hr2:=loadVar3 (h2.cell (i:=0) (by simp))
  have hp':tmps[p]?.getD undef=.pointer (some ⟨g,0,none⟩):=by simpa using hp
  have hq':tmps[q]?.getD undef=.pointer (some ⟨g',0,none⟩):=by simpa using hq
  simp [results,h,hp',hq',asAddr,hr1,hr2]
end Go.Proofs.YtieoleabnjdkfaaGreat
set_option linter.unusedSimpArgs false
set_option linter.unusedVariables false
set_option linter.unnecessarySimpa false
namespace Go.Proofs.YtieoleabnjdkfaaGreat
open Go Go.Proofs Go.RowKit Go.X
open Go.Maps (Keyed)
attribute [local go_sem] Oper.semAt_some
theorem vals92 (w:World) (A:Option Addr) (len cap:Nat):Calls Tryz.prog 92 #[.slice A len cap] w fun x w'=>∃ Bs,x=.returned (.func (.func 121) #[] #[.pointer (some ⟨Bs,0,none⟩)])∧Ext w w'∧w.heap.size≤Bs∧Bs < w'.heap.size∧w'.cell? ⟨Bs,0,none⟩=some (.slice A len cap):=sqE.vals w A len cap
theorem sorts91 {w:World} {Bs:Nat} {xs:List Int} {cap b o:Nat} (h0:0 < xs.length) (hl:xs.length≤1000) (hw:∀ x∈xs,wI x) (hB:Bs < w.heap.size) (hc:w.cell? ⟨Bs,0,none⟩=some (.slice (some ⟨b,o,none⟩) xs.length cap)) (hb:b < w.heap.size) (hcells:∀ (i:Nat) (h:i < xs.length),w.cell? ⟨b,o+i,none⟩=some (.int .i64 xs[i])) :
    Calls Tryz.prog 91 #[.func (.func 121) #[] #[.pointer (some ⟨Bs,0,none⟩)]] w fun x w'=>∃ v gb,x=.returned v∧Ext w w'∧w.heap.size≤gb∧KI w' v (sortI xs) gb:=by
  refine (sqE.sorts w Bs 0 _ cap xs (by omega) hB hc (.inr ⟨b,o,rfl,hb,hcells⟩)).mono ?_
  rintro e w' ⟨v,rfl,he,h | ⟨gb,k,cur,rfl,h1,h2,h3,h4,h5,h6⟩⟩
  · rw [h.2] at h0; cases h0
  · exact ⟨_,gb,rfl,he,h1,by rw [sortI_length]; exact hl,fun x hx=>hw x (sortI_mem.1 hx),k,cur,by rw [sortI_length],by rw [sortI_length]; exact h3,h2,h6⟩
theorem upd_ys {D:Nat→Bool} {ys V:Nat→Value} {L j:Nat} {u:Value} (h:∀ k,D k=true→k < L→ys k=V k) (hu:u=V j):∀ k,(D k || k == j)=true→k < L→(if k=j then u else ys k)=V k:=by
  intro k hk hl
  by_cases e:k=j
  · subst e; rw [if_pos rfl,hu]
  · rw [if_neg e]; exact h k (by simpa [e] using hk) hl
theorem rep_ys {D:Nat→Bool} {ys V:Nat→Value} {L d:Nat} {u:Value} (h:∀ k,D k=true→k < L→ys k=V k) (hu:u=V d):∀ k,D k=true→k < L→(if k=d then u else ys k)=V k:=by
  intro k hk hl
  by_cases e:k=d
  · subst e; rw [if_pos rfl,hu]
  · rw [if_neg e]; exact h k hk hl
def bstJ (n:Nat) (gs:List Grp) (t0:Int) (r:List Int) (j:Nat):Asn × (Int × Bool):=bestP ((chL n (t0::r)++r.take j).map (pairA n gs (t0::r)))
theorem upd_no {D:Nat→Bool} {ys V:Nat→Value} {L j:Nat} {u:Value} (h:∀ k,D k=true→k < L→ys k=V k) (hu:L≤j):∀ k,(D k || k == j)=true→k < L→(if k=j then u else ys k)=V k:=by
  intro k hk hl
  have e:¬ k=j:=by omega
  rw [if_neg e]; exact h k (by simpa [e] using hk) hl
def Xo (Mv Mw Bb b:Nat):Prop:=Xm Mv Mw b∨Xb Bb b
def Xp (X:Nat→Prop) (Bb b:Nat):Prop:=X b∨Xb Bb b
def Xf (Bb b:Nat):Prop:=b < Bb+3
theorem kx_own {Mv Mw:Nat} {W w':World} (h:Kx (Xo Mv Mw W.heap.size) W w'):Kx (Xm Mv Mw) W w':=⟨h.os,h.tape,h.output,h.size,fun b hb hx=>h.block b hb fun ho=>by rcases ho with ho | (ho | ho | ho); exact hx ho; omega; omega; omega⟩
def FrO1 (B Bb n:Nat) (tv:Value) (t0:Int) (i:Nat) (a:Act):Prop:=∃ (x2 x3 x9 x10 x11 x12 x13 x14 x15 x16 x17 x18 x19 x20 x23 x24 x25 x26 x27 x28 x29 x30 x31 x32 x33 x34 x35 x36 x37 x38 x39 x40 x41 x42 x43 x44 x45 x46 x47 x48 x49 x50 x51 x52 x53 x54 x55 x56 x57 x58 x59 x60 x61 x62 x63 x64 x65 x66 x67 x68 x69 x70 x71 x72 x73 x74 x75:Value),a={ tmps:=#[.pointer (some ⟨B,0,none⟩),tv,x2,x3,.pointer (some ⟨Bb,0,none⟩),.pointer (some ⟨Bb+1,0,none⟩),.pointer (some ⟨Bb+2,0,none⟩),.func (.func 89) #[] #[.pointer (some ⟨Bb+2,0,none⟩),.pointer (some ⟨Bb+1,0,none⟩),.pointer (some ⟨Bb,0,none⟩)],.int .i64 t0,x9,x10,x11,x12,x13,x14,x15,x16,x17,x18,x19,x20,.int .i64 (n:Int),.int .i64 (i:Int),x23,x24,x25,x26,x27,x28,x29,x30,x31,x32,x33,x34,x35,x36,x37,x38,x39,x40,x41,x42,x43,x44,x45,x46,x47,x48,x49,x50,x51,x52,x53,x54,x55,x56,x57,x58,x59,x60,x61,x62,x63,x64,x65,x66,x67,x68,x69,x70,x71,x72,x73,x74,x75],defers:=[] }
theorem FrO1.mk {B Bb n:Nat} {tv:Value} {t0:Int} {i:Nat} {x2 x3 x9 x10 x11 x12 x13 x14 x15 x16 x17 x18 x19 x20 x23 x24 x25 x26 x27 x28 x29 x30 x31 x32 x33 x34 x35 x36 x37 x38 x39 x40 x41 x42 x43 x44 x45 x46 x47 x48 x49 x50 x51 x52 x53 x54 x55 x56 x57 x58 x59 x60 x61 x62 x63 x64 x65 x66 x67 x68 x69 x70 x71 x72 x73 x74 x75:Value}:FrO1 B Bb n tv t0 i { tmps:=#[.pointer (some ⟨B,0,none⟩),tv,x2,x3,.pointer (some ⟨Bb,0,none⟩),.pointer (some ⟨Bb+1,0,none⟩),.pointer (some ⟨Bb+2,0,none⟩),.func (.func 89) #[] #[.pointer (some ⟨Bb+2,0,none⟩),.pointer (some ⟨Bb+1,0,none⟩),.pointer (some ⟨Bb,0,none⟩)],.int .i64 t0,x9,x10,x11,x12,x13,x14,x15,x16,x17,x18,x19,x20,.int .i64 (n:Int),.int .i64 (i:Int),x23,x24,x25,x26,x27,x28,x29,x30,x31,x32,x33,x34,x35,x36,x37,x38,x39,x40,x41,x42,x43,x44,x45,x46,x47,x48,x49,x50,x51,x52,x53,x54,x55,x56,x57,x58,x59,x60,x61,x62,x63,x64,x65,x66,x67,x68,x69,x70,x71,x72,x73,x74,x75],defers:=[] }:=⟨x2,x3,x9,x10,x11,x12,x13,x14,x15,x16,x17,x18,x19,x20,x23,x24,x25,x26,x27,x28,x29,x30,x31,x32,x33,x34,x35,x36,x37,x38,x39,x40,x41,x42,x43,x44,x45,x46,x47,x48,x49,x50,x51,x52,x53,x54,x55,x56,x57,x58,x59,x60,x61,x62,x63,x64,x65,x66,x67,x68,x69,x70,x71,x72,x73,x74,x75,rfl⟩
theorem FrO1.elim {B Bb n:Nat} {tv:Value} {t0:Int} {i:Nat} {a:Act} {P:Prop} (h:FrO1 B Bb n tv t0 i a) (k:∀ (x2 x3 x9 x10 x11 x12 x13 x14 x15 x16 x17 x18 x19 x20 x23 x24 x25 x26 x27 x28 x29 x30 x31 x32 x33 x34 x35 x36 x37 x38 x39 x40 x41 x42 x43 x44 x45 x46 x47 x48 x49 x50 x51 x52 x53 x54 x55 x56 x57 x58 x59 x60 x61 x62 x63 x64 x65 x66 x67 x68 x69 x70 x71 x72 x73 x74 x75:Value),a={ tmps:=#[.pointer (some ⟨B,0,none⟩),tv,x2,x3,.pointer (some ⟨Bb,0,none⟩),.pointer (some ⟨Bb+1,0,none⟩),.pointer (some ⟨Bb+2,0,none⟩),.func (.func 89) #[] #[.pointer (some ⟨Bb+2,0,none⟩),.pointer (some ⟨Bb+1,0,none⟩),.pointer (some ⟨Bb,0,none⟩)],.int .i64 t0,x9,x10,x11,x12,x13,x14,x15,x16,x17,x18,x19,x20,.int .i64 (n:Int),.int .i64 (i:Int),x23,x24,x25,x26,x27,x28,x29,x30,x31,x32,x33,x34,x35,x36,x37,x38,x39,x40,x41,x42,x43,x44,x45,x46,x47,x48,x49,x50,x51,x52,x53,x54,x55,x56,x57,x58,x59,x60,x61,x62,x63,x64,x65,x66,x67,x68,x69,x70,x71,x72,x73,x74,x75],defers:=[] }→P):P:=by
  obtain ⟨x2,x3,x9,x10,x11,x12,x13,x14,x15,x16,x17,x18,x19,x20,x23,x24,x25,x26,x27,x28,x29,x30,x31,x32,x33,x34,x35,x36,x37,x38,x39,x40,x41,x42,x43,x44,x45,x46,x47,x48,x49,x50,x51,x52,x53,x54,x55,x56,x57,x58,x59,x60,x61,x62,x63,x64,x65,x66,x67,x68,x69,x70,x71,x72,x73,x74,x75,e⟩:=h
  exact k x2 x3 x9 x10 x11 x12 x13 x14 x15 x16 x17 x18 x19 x20 x23 x24 x25 x26 x27 x28 x29 x30 x31 x32 x33 x34 x35 x36 x37 x38 x39 x40 x41 x42 x43 x44 x45 x46 x47 x48 x49 x50 x51 x52 x53 x54 x55 x56 x57 x58 x59 x60 x61 x62 x63 x64 x65 x66 x67 x68 x69 x70 x71 x72 x73 x74 x75 e
def FrO2 (B Bb:Nat) (tv vv sv:Value) (t0:Int) (ln i:Nat) (a:Act):Prop:=∃ (x2 x3 x9 x11 x12 x13 x14 x15 x16 x17 x18 x19 x20 x21 x22 x23 x24 x25 x26 x27 x28 x29 x30 x31 x32 x33 x34 x35 x36 x37 x38 x39 x40 x41 x42 x43 x44 x45 x46 x47 x48 x52 x53 x54 x55 x56 x57 x58 x59 x60 x61 x62 x63 x64 x65 x66 x67 x68 x69 x70 x71 x72 x73 x74 x75:Value),a={ tmps:=#[.pointer (some ⟨B,0,none⟩),tv,x2,x3,.pointer (some ⟨Bb,0,none⟩),.pointer (some ⟨Bb+1,0,none⟩),.pointer (some ⟨Bb+2,0,none⟩),.func (.func 89) #[] #[.pointer (some ⟨Bb+2,0,none⟩),.pointer (some ⟨Bb+1,0,none⟩),.pointer (some ⟨Bb,0,none⟩)],.int .i64 t0,x9,vv,x11,x12,x13,x14,x15,x16,x17,x18,x19,x20,x21,x22,x23,x24,x25,x26,x27,x28,x29,x30,x31,x32,x33,x34,x35,x36,x37,x38,x39,x40,x41,x42,x43,x44,x45,x46,x47,x48,sv,.int .i64 (ln:Int),.int .i64 (i:Int),x52,x53,x54,x55,x56,x57,x58,x59,x60,x61,x62,x63,x64,x65,x66,x67,x68,x69,x70,x71,x72,x73,x74,x75],defers:=[] }
theorem FrO2.mk {B Bb:Nat} {tv vv sv:Value} {t0:Int} {ln i:Nat} {x2 x3 x9 x11 x12 x13 x14 x15 x16 x17 x18 x19 x20 x21 x22 x23 x24 x25 x26 x27 x28 x29 x30 x31 x32 x33 x34 x35 x36 x37 x38 x39 x40 x41 x42 x43 x44 x45 x46 x47 x48 x52 x53 x54 x55 x56 x57 x58 x59 x60 x61 x62 x63 x64 x65 x66 x67 x68 x69 x70 x71 x72 x73 x74 x75:Value}:FrO2 B Bb tv vv sv t0 ln i { tmps:=#[.pointer (some ⟨B,0,none⟩),tv,x2,x3,.pointer (some ⟨Bb,0,none⟩),.pointer (some ⟨Bb+1,0,none⟩),.pointer (some ⟨Bb+2,0,none⟩),.func (.func 89) #[] #[.pointer (some ⟨Bb+2,0,none⟩),.pointer (some ⟨Bb+1,0,none⟩),.pointer (some ⟨Bb,0,none⟩)],.int .i64 t0,x9,vv,x11,x12,x13,x14,x15,x16,x17,x18,x19,x20,x21,x22,x23,x24,x25,x26,x27,x28,x29,x30,x31,x32,x33,x34,x35,x36,x37,x38,x39,x40,x41,x42,x43,x44,x45,x46,x47,x48,sv,.int .i64 (ln:Int),.int .i64 (i:Int),x52,x53,x54,x55,x56,x57,x58,x59,x60,x61,x62,x63,x64,x65,x66,x67,x68,x69,x70,x71,x72,x73,x74,x75],defers:=[] }:=⟨x2,x3,x9,x11,x12,x13,x14,x15,x16,x17,x18,x19,x20,x21,x22,x23,x24,x25,x26,x27,x28,x29,x30,x31,x32,x33,x34,x35,x36,x37,x38,x39,x40,x41,x42,x43,x44,x45,x46,x47,x48,x52,x53,x54,x55,x56,x57,x58,x59,x60,x61,x62,x63,x64,x65,x66,x67,x68,x69,x70,x71,x72,x73,x74,x75,rfl⟩
theorem FrO2.elim {B Bb:Nat} {tv vv sv:Value} {t0:Int} {ln i:Nat} {a:Act} {P:Prop} (h:FrO2 B Bb tv vv sv t0 ln i a) (k:∀ (x2 x3 x9 x11 x12 x13 x14 x15 x16 x17 x18 x19 x20 x21 x22 x23 x24 x25 x26 x27 x28 x29 x30 x31 x32 x33 x34 x35 x36 x37 x38 x39 x40 x41 x42 x43 x44 x45 x46 x47 x48 x52 x53 x54 x55 x56 x57 x58 x59 x60 x61 x62 x63 x64 x65 x66 x67 x68 x69 x70 x71 x72 x73 x74 x75:Value),a={ tmps:=#[.pointer (some ⟨B,0,none⟩),tv,x2,x3,.pointer (some ⟨Bb,0,none⟩),.pointer (some ⟨Bb+1,0,none⟩),.pointer (some ⟨Bb+2,0,none⟩),.func (.func 89) #[] #[.pointer (some ⟨Bb+2,0,none⟩),.pointer (some ⟨Bb+1,0,none⟩),.pointer (some ⟨Bb,0,none⟩)],.int .i64 t0,x9,vv,x11,x12,x13,x14,x15,x16,x17,x18,x19,x20,x21,x22,x23,x24,x25,x26,x27,x28,x29,x30,x31,x32,x33,x34,x35,x36,x37,x38,x39,x40,x41,x42,x43,x44,x45,x46,x47,x48,sv,.int .i64 (ln:Int),.int .i64 (i:Int),x52,x53,x54,x55,x56,x57,x58,x59,x60,x61,x62,x63,x64,x65,x66,x67,x68,x69,x70,x71,x72,x73,x74,x75],defers:=[] }→P):P:=by
  obtain ⟨x2,x3,x9,x11,x12,x13,x14,x15,x16,x17,x18,x19,x20,x21,x22,x23,x24,x25,x26,x27,x28,x29,x30,x31,x32,x33,x34,x35,x36,x37,x38,x39,x40,x41,x42,x43,x44,x45,x46,x47,x48,x52,x53,x54,x55,x56,x57,x58,x59,x60,x61,x62,x63,x64,x65,x66,x67,x68,x69,x70,x71,x72,x73,x74,x75,e⟩:=h
  exact k x2 x3 x9 x11 x12 x13 x14 x15 x16 x17 x18 x19 x20 x21 x22 x23 x24 x25 x26 x27 x28 x29 x30 x31 x32 x33 x34 x35 x36 x37 x38 x39 x40 x41 x42 x43 x44 x45 x46 x47 x48 x52 x53 x54 x55 x56 x57 x58 x59 x60 x61 x62 x63 x64 x65 x66 x67 x68 x69 x70 x71 x72 x73 x74 x75 e
def FrO3 (B Bb:Nat) (tv vv sv av:Value) (t0 x:Int) (ln i:Nat) (y58 y59 y60 y61 y62 y63 y64 y65 y66 y67 y68 y69 y70 y71 y72:Value) (a:Act):Prop:=∃ (x2 x3 x9 x11 x14 x15 x16 x17 x18 x19 x20 x21 x22 x23 x24 x25 x26 x27 x28 x29 x30 x31 x32 x33 x34 x35 x36 x37 x38 x39 x40 x41 x42 x43 x44 x45 x46 x47 x48 x52 x53 x54 x55 x56 x57 x73 x74 x75:Value),a={ tmps:=#[.pointer (some ⟨B,0,none⟩),tv,x2,x3,.pointer (some ⟨Bb,0,none⟩),.pointer (some ⟨Bb+1,0,none⟩),.pointer (some ⟨Bb+2,0,none⟩),.func (.func 89) #[] #[.pointer (some ⟨Bb+2,0,none⟩),.pointer (some ⟨Bb+1,0,none⟩),.pointer (some ⟨Bb,0,none⟩)],.int .i64 t0,x9,vv,x11,.int .i64 x,av,x14,x15,x16,x17,x18,x19,x20,x21,x22,x23,x24,x25,x26,x27,x28,x29,x30,x31,x32,x33,x34,x35,x36,x37,x38,x39,x40,x41,x42,x43,x44,x45,x46,x47,x48,sv,.int .i64 (ln:Int),.int .i64 (i:Int),x52,x53,x54,x55,x56,x57,y58,y59,y60,y61,y62,y63,y64,y65,y66,y67,y68,y69,y70,y71,y72,x73,x74,x75],defers:=[] }
theorem FrO3.mk {B Bb:Nat} {tv vv sv av:Value} {t0 x:Int} {ln i:Nat} {y58 y59 y60 y61 y62 y63 y64 y65 y66 y67 y68 y69 y70 y71 y72:Value} {x2 x3 x9 x11 x14 x15 x16 x17 x18 x19 x20 x21 x22 x23 x24 x25 x26 x27 x28 x29 x30 x31 x32 x33 x34 x35 x36 x37 x38 x39 x40 x41 x42 x43 x44 x45 x46 x47 x48 x52 x53 x54 x55 x56 x57 x73 x74 x75:Value}:FrO3 B Bb tv vv sv av t0 x ln i y58 y59 y60 y61 y62 y63 y64 y65 y66 y67 y68 y69 y70 y71 y72 { tmps:=#[.pointer (some ⟨B,0,none⟩),tv,x2,x3,.pointer (some ⟨Bb,0,none⟩),.pointer (some ⟨Bb+1,0,none⟩),.pointer (some ⟨Bb+2,0,none⟩),.func (.func 89) #[] #[.pointer (some ⟨Bb+2,0,none⟩),.pointer (some ⟨Bb+1,0,none⟩),.pointer (some ⟨Bb,0,none⟩)],.int .i64 t0,x9,vv,x11,.int .i64 x,av,x14,x15,x16,x17,x18,x19,x20,x21,x22,x23,x24,x25,x26,x27,x28,x29,x30,x31,x32,x33,x34,x35,x36,x37,x38,x39,x40,x41,x42,x43,x44,x45,x46,x47,x48,sv,.int .i64 (ln:Int),.int .i64 (i:Int),x52,x53,x54,x55,x56,x57,y58,y59,y60,y61,y62,y63,y64,y65,y66,y67,y68,y69,y70,y71,y72,x73,x74,x75],defers:=[] }:=⟨x2,x3,x9,x11,x14,x15,x16,x17,x18,x19,x20,x21,x22,x23,x24,x25,x26,x27,x28,x29,x30,x31,x32,x33,x34,x35,x36,x37,x38,x39,x40,x41,x42,x43,x44,x45,x46,x47,x48,x52,x53,x54,x55,x56,x57,x73,x74,x75,rfl⟩
theorem FrO3.elim {B Bb:Nat} {tv vv sv av:Value} {t0 x:Int} {ln i:Nat} {y58 y59 y60 y61 y62 y63 y64 y65 y66 y67 y68 y69 y70 y71 y72:Value} {a:Act} {P:Prop} (h:FrO3 B Bb tv vv sv av t0 x ln i y58 y59 y60 y61 y62 y63 y64 y65 y66 y67 y68 y69 y70 y71 y72 a) (k:∀ (x2 x3 x9 x11 x14 x15 x16 x17 x18 x19 x20 x21 x22 x23 x24 x25 x26 x27 x28 x29 x30 x31 x32 x33 x34 x35 x36 x37 x38 x39 x40 x41 x42 x43 x44 x45 x46 x47 x48 x52 x53 x54 x55 x56 x57 x73 x74 x75:Value),a={ tmps:=#[.pointer (some ⟨B,0,none⟩),tv,x2,x3,.pointer (some ⟨Bb,0,none⟩),.pointer (some ⟨Bb+1,0,none⟩),.pointer (some ⟨Bb+2,0,none⟩),.func (.func 89) #[] #[.pointer (some ⟨Bb+2,0,none⟩),.pointer (some ⟨Bb+1,0,none⟩),.pointer (some ⟨Bb,0,none⟩)],.int .i64 t0,x9,vv,x11,.int .i64 x,av,x14,x15,x16,x17,x18,x19,x20,x21,x22,x23,x24,x25,x26,x27,x28,x29,x30,x31,x32,x33,x34,x35,x36,x37,x38,x39,x40,x41,x42,x43,x44,x45,x46,x47,x48,sv,.int .i64 (ln:Int),.int .i64 (i:Int),x52,x53,x54,x55,x56,x57,y58,y59,y60,y61,y62,y63,y64,y65,y66,y67,y68,y69,y70,y71,y72,x73,x74,x75],defers:=[] }→P):P:=by
  obtain ⟨x2,x3,x9,x11,x14,x15,x16,x17,x18,x19,x20,x21,x22,x23,x24,x25,x26,x27,x28,x29,x30,x31,x32,x33,x34,x35,x36,x37,x38,x39,x40,x41,x42,x43,x44,x45,x46,x47,x48,x52,x53,x54,x55,x56,x57,x73,x74,x75,e⟩:=h
  exact k x2 x3 x9 x11 x14 x15 x16 x17 x18 x19 x20 x21 x22 x23 x24 x25 x26 x27 x28 x29 x30 x31 x32 x33 x34 x35 x36 x37 x38 x39 x40 x41 x42 x43 x44 x45 x46 x47 x48 x52 x53 x54 x55 x56 x57 x73 x74 x75 e
def FrO4 (B Bb:Nat) (y74 y75:Value) (a:Act):Prop:=∃ (x1 x2 x3 x6 x7 x8 x9 x10 x11 x12 x13 x14 x15 x16 x17 x18 x19 x20 x21 x22 x23 x24 x25 x26 x27 x28 x29 x30 x31 x32 x33 x34 x35 x36 x37 x38 x39 x40 x41 x42 x43 x44 x45 x46 x47 x48 x49 x50 x51 x52 x53 x54 x55 x56 x57 x58 x59 x60 x61 x62 x63 x64 x65 x66 x67 x68 x69 x70 x71 x72 x73:Value),a={ tmps:=#[.pointer (some ⟨B,0,none⟩),x1,x2,x3,.pointer (some ⟨Bb,0,none⟩),.pointer (some ⟨Bb+1,0,none⟩),x6,x7,x8,x9,x10,x11,x12,x13,x14,x15,x16,x17,x18,x19,x20,x21,x22,x23,x24,x25,x26,x27,x28,x29,x30,x31,x32,x33,x34,x35,x36,x37,x38,x39,x40,x41,x42,x43,x44,x45,x46,x47,x48,x49,x50,x51,x52,x53,x54,x55,x56,x57,x58,x59,x60,x61,x62,x63,x64,x65,x66,x67,x68,x69,x70,x71,x72,x73,y74,y75],defers:=[] }
theorem FrO4.mk {B Bb:Nat} {y74 y75:Value} {x1 x2 x3 x6 x7 x8 x9 x10 x11 x12 x13 x14 x15 x16 x17 x18 x19 x20 x21 x22 x23 x24 x25 x26 x27 x28 x29 x30 x31 x32 x33 x34 x35 x36 x37 x38 x39 x40 x41 x42 x43 x44 x45 x46 x47 x48 x49 x50 x51 x52 x53 x54 x55 x56 x57 x58 x59 x60 x61 x62 x63 x64 x65 x66 x67 x68 x69 x70 x71 x72 x73:Value}:FrO4 B Bb y74 y75 { tmps:=#[.pointer (some ⟨B,0,none⟩),x1,x2,x3,.pointer (some ⟨Bb,0,none⟩),.pointer (some ⟨Bb+1,0,none⟩),x6,x7,x8,x9,x10,x11,x12,x13,x14,x15,x16,x17,x18,x19,x20,x21,x22,x23,x24,x25,x26,x27,x28,x29,x30,x31,x32,x33,x34,x35,x36,x37,x38,x39,x40,x41,x42,x43,x44,x45,x46,x47,x48,x49,x50,x51,x52,x53,x54,x55,x56,x57,x58,x59,x60,x61,x62,x63,x64,x65,x66,x67,x68,x69,x70,x71,x72,x73,y74,y75],defers:=[] }:=⟨x1,x2,x3,x6,x7,x8,x9,x10,x11,x12,x13,x14,x15,x16,x17,x18,x19,x20,x21,x22,x23,x24,x25,x26,x27,x28,x29,x30,x31,x32,x33,x34,x35,x36,x37,x38,x39,x40,x41,x42,x43,x44,x45,x46,x47,x48,x49,x50,x51,x52,x53,x54,x55,x56,x57,x58,x59,x60,x61,x62,x63,x64,x65,x66,x67,x68,x69,x70,x71,x72,x73,rfl⟩
theorem FrO4.elim {B Bb:Nat} {y74 y75:Value} {a:Act} {P:Prop} (h:FrO4 B Bb y74 y75 a) (k:∀ (x1 x2 x3 x6 x7 x8 x9 x10 x11 x12 x13 x14 x15 x16 x17 x18 x19 x20 x21 x22 x23 x24 x25 x26 x27 x28 x29 x30 x31 x32 x33 x34 x35 x36 x37 x38 x39 x40 x41 x42 x43 x44 x45 x46 x47 x48 x49 x50 x51 x52 x53 x54 x55 x56 x57 x58 x59 x60 x61 x62 x63 x64 x65 x66 x67 x68 x69 x70 x71 x72 x73:Value),a={ tmps:=#[.pointer (some ⟨B,0,none⟩),x1,x2,x3,.pointer (some ⟨Bb,0,none⟩),.pointer (some ⟨Bb+1,0,none⟩),x6,x7,x8,x9,x10,x11,x12,x13,x14,x15,x16,x17,x18,x19,x20,x21,x22,x23,x24,x25,x26,x27,x28,x29,x30,x31,x32,x33,x34,x35,x36,x37,x38,x39,x40,x41,x42,x43,x44,x45,x46,x47,x48,x49,x50,x51,x52,x53,x54,x55,x56,x57,x58,x59,x60,x61,x62,x63,x64,x65,x66,x67,x68,x69,x70,x71,x72,x73,y74,y75],defers:=[] }→P):P:=by
  obtain ⟨x1,x2,x3,x6,x7,x8,x9,x10,x11,x12,x13,x14,x15,x16,x17,x18,x19,x20,x21,x22,x23,x24,x25,x26,x27,x28,x29,x30,x31,x32,x33,x34,x35,x36,x37,x38,x39,x40,x41,x42,x43,x44,x45,x46,x47,x48,x49,x50,x51,x52,x53,x54,x55,x56,x57,x58,x59,x60,x61,x62,x63,x64,x65,x66,x67,x68,x69,x70,x71,x72,x73,e⟩:=h
  exact k x1 x2 x3 x6 x7 x8 x9 x10 x11 x12 x13 x14 x15 x16 x17 x18 x19 x20 x21 x22 x23 x24 x25 x26 x27 x28 x29 x30 x31 x32 x33 x34 x35 x36 x37 x38 x39 x40 x41 x42 x43 x44 x45 x46 x47 x48 x49 x50 x51 x52 x53 x54 x55 x56 x57 x58 x59 x60 x61 x62 x63 x64 x65 x66 x67 x68 x69 x70 x71 x72 x73 e
set_option maxRecDepth 100000 in
set_option maxHeartbeats 8000000 in
theorem own_ok {n:Nat} (hn:1≤n∧n≤7) {gs:List Grp} {N:Int} (hp:PileOK (n:Int) gs N) {F:Nat→Prop} {B Mv Mw nv nw:Nat} (hnv:nv < 1099511627776) {W:World} {X:Nat→Prop} (hs:SX X n gs F B Mv Mw nv nw W) (hXl:∀ b,X b→b < W.heap.size) {tv:Value} {t0:Int} {r:List Int} {tb:Nat} (ht:isB n (t0::r)) (hti:SI W tv (t0::r) tb) (hx:¬ Xm Mv Mw tb) :
    Calls Tryz.prog 65 #[.pointer (some ⟨B,0,none⟩),tv] W fun e W'=>∃ av,e=.returned (.tuple #[av,.int .i64 (ownP n gs (t0::r)).2.1])∧AV (fun b=>b < W.heap.size) W' av (ownP n gs (t0::r)).1∧SX X n gs F B Mv Mw (nv+1) nw W'∧Kx (Xm Mv Mw) W W':=by
  have htl:(t0::r).length≤7:=isB_len ht (by omega)
  have hin:∀ c:Int,0≤c→c≤1000→IntKind.i64.wrap c=c:=fun c h0 h1=>w_id (by omega) (by omega)
  have ht0:=ht.2 t0 (by simp)
  obtain ⟨_,_,htb,off,tc,rfl,htc,hcell⟩:=id hti
  refine (callsIn_wide (n:=0)).1 (callsIn_of_wp Tryz.func65 rfl trivial ?_ rfl)
  simp only [Tryz.ntmps65,List.size_toArray,List.length_cons,List.length_nil,Nat.reduceAdd,Nat.reduceSub,Array.replicate_succ,Array.replicate_zero,List.push_toArray,List.append_toArray,List.nil_append,List.cons_append]
  have fd:Fence.wide.depth=none:=rfl
  have f58:Fence.wide.fn 58:=trivial
  have f89:Fence.wide.fn 89:=trivial
  have f90:Fence.wide.fn 90:=trivial
  have f91:Fence.wide.fn 91:=trivial
  have f92:Fence.wide.fn 92:=trivial
  have hMv:=hs.votes.lt
  have hMw:=hs.vals.lt
  have e1:=Ext.alloc W (.cells #[.int .i64 0,.int .i64 0,.int .i64 0,.slice none 0 0,.int .i64 0] 49)
  have e2:=Ext.alloc (W.alloc (.cells #[.int .i64 0,.int .i64 0,.int .i64 0,.slice none 0 0,.int .i64 0] 49)) (.cells #[.int .i64 0] 3)
  have e3:=Ext.alloc ((W.alloc (.cells #[.int .i64 0,.int .i64 0,.int .i64 0,.slice none 0 0,.int .i64 0] 49)).alloc (.cells #[.int .i64 0] 3)) (.cells #[.bool false] 4)
  have n1:=own_new W #[.int .i64 0,.int .i64 0,.int .i64 0,.slice none 0 0,.int .i64 0] 49
  have n2:=own_new (W.alloc (.cells #[.int .i64 0,.int .i64 0,.int .i64 0,.slice none 0 0,.int .i64 0] 49)) #[.int .i64 0] 3
  have n3:=own_new ((W.alloc (.cells #[.int .i64 0,.int .i64 0,.int .i64 0,.slice none 0 0,.int .i64 0] 49)).alloc (.cells #[.int .i64 0] 3)) #[.bool false] 4
  have hs1:(((W.alloc (.cells #[.int .i64 0,.int .i64 0,.int .i64 0,.slice none 0 0,.int .i64 0] 49)).alloc (.cells #[.int .i64 0] 3)).alloc (.cells #[.bool false] 4)).heap.size=W.heap.size+3:=by simp
  rw [World.size_alloc] at n2 n3
  rw [World.size_alloc] at n3
  obtain ⟨W1,hW1⟩:∃ W1,((W.alloc (.cells #[.int .i64 0,.int .i64 0,.int .i64 0,.slice none 0 0,.int .i64 0] 49)).alloc (.cells #[.int .i64 0] 3)).alloc (.cells #[.bool false] 4)=W1:=⟨_,rfl⟩
  have hx1:=(e1.trans e2).trans e3
  have n1':=(n1.ext e2).ext e3
  have n2':=n2.ext e3
  rw [hW1] at n1' n2' n3 hs1 hx1
  have z3:W1.frozen? ⟨W.heap.size+1+1,0,none⟩=false:=n3.frozen 0
  have y3:W1.cell? ⟨W.heap.size+1+1,0,none⟩=some (.bool false):=n3.cell (i:=0) (by simp)
  have hxc:=ext_setCell hx1 (show W.heap.size≤W.heap.size+1+1 by omega) 0 (.bool false)
  have m1:=own_other n1' (b:=W.heap.size+1+1) (by omega) 0 (.bool false)
  have m2:=own_other n2' (b:=W.heap.size+1+1) (by omega) 0 (.bool false)
  have m3:=n3.set 0 (.bool false)
  obtain ⟨W2,hW2⟩:∃ W2,W1.setCell ⟨W.heap.size+1+1,0,none⟩ (.bool false)=W2:=⟨_,rfl⟩
  rw [hW2] at hxc m1 m2 m3
  have c00:=hcell 0 (by simp)
  simp only [Nat.add_zero,List.getElem_cons_zero] at c00
  have c0:W2.cell? ⟨tb,off,none⟩=some (.int .i64 t0):=(World.cell?_of_block (w:=W) (a:=⟨tb,off,none⟩) (hxc.block tb htb)).trans c00
  obtain ⟨gv,bv,hcb,hga,hbt⟩:=hs.cell
  have hBlt:B < W.heap.size:=(Array.getElem?_eq_some_iff.1 hcb).1
  obtain ⟨bb,bcap,bcur,be,rfl,hb2,hb3,hb4,hb5⟩:=hbt
  have hbblt:bb < W.heap.size:=(Array.getElem?_eq_some_iff.1 hb3).1
  have hb1:=(hxc.block B hBlt).trans hcb
  have cs1:W2.cell? ⟨B,0,none⟩=some (.int .i64 n):=by simp [World.cell?,hb1]
  have hX:∀ b,Xb W.heap.size b→Xf W.heap.size b:=fun b h=>by rcases h with h | h | h <;> (unfold Xf; omega)
  have hbx1:BX (Xf W.heap.size) W2 W.heap.size (bestP (((idL 0).filter fun x=>decide (x ∉ t0::r)).map (pairA n gs (t0::r)))) :=
    ⟨⟨_,m1,.inl ⟨rfl,rfl⟩,⟨(by decide:wI 0),(by decide:wI 0),(by decide:wI 0),(by decide:wI 0)⟩⟩,m2,m3⟩
  gi_wp2
  refine wpIn_wide.2 (loop_inv (R:=fun m a w=>∃ i:Nat,i≤n∧m=n - i∧Ext W w∧BX (Xf W.heap.size) w W.heap.size (bestP (((idL i).filter fun x=>decide (x ∉ t0::r)).map (pairA n gs (t0::r))))∧FrO1 B W.heap.size n (.slice (some ⟨tb,off,none⟩) (r.length+1) tc) t0 i a) (m:=n) ?step1 ?init1)
  case init1=>exact ⟨0,by omega,by omega,hxc,hbx1,FrO1.mk⟩
  case step1 =>
    rintro m a w ⟨i,hi,rfl,hxw,hbx,hfr⟩
    refine hfr.elim ?_
    intro x2 x3 x9 x10 x11 x12 x13 x14 x15 x16 x17 x18 x19 x20 x23 x24 x25 x26 x27 x28 x29 x30 x31 x32 x33 x34 x35 x36 x37 x38 x39 x40 x41 x42 x43 x44 x45 x46 x47 x48 x49 x50 x51 x52 x53 x54 x55 x56 x57 x58 x59 x60 x61 x62 x63 x64 x65 x66 x67 x68 x69 x70 x71 x72 x73 x74 x75 hfe
    subst hfe
    refine (wpIn_wide (n:=0)).1 ?_
    have htw:SI w (.slice (some ⟨tb,off,none⟩) (r.length+1) tc) (t0::r) tb:=hti.keep (Kx.of_ext (X:=fun _=>False) hxw) id
    rcases Nat.lt_or_ge i n with hlt | hge
    · have hlt':(i:Int) < (n:Int):=by omega
      have hwi:IntKind.i64.wrap ((i:Int)+1)=((i+1:Nat):Int):=by rw [hin _ (by omega) (by omega)]; omega
      have c58:=con58 (c:=(i:Int)) (hin _ (by omega) (by omega)) htw
      have hfs:((idL (i+1)).filter fun x=>decide (x ∉ t0::r))=if (i:Int)∈t0::r then ((idL i).filter fun x=>decide (x ∉ t0::r)) else ((idL i).filter fun x=>decide (x ∉ t0::r))++[(i:Int)]:=by
        rw [idL_succ,List.filter_append]
        by_cases h:(i:Int)∈t0::r <;> simp only [List.filter_cons,List.filter_nil,h,not_true,not_false_iff,decide_true,decide_false,if_true,if_false,List.append_nil] <;> simp
      by_cases hmem:(i:Int)∈t0::r
      · simp only [hmem,decide_true] at c58
        rw [if_pos hmem] at hfs
        gi_wp2_with (first
          | (gi_at_call 58; refine (callsIn_wide.2 c58).mono ?_; rintro e w2 ⟨rfl,he2⟩))
        exact ⟨n - (i+1),by omega,i+1,by omega,rfl,hxw.trans he2,by rw [hfs]; exact hbx.ext he2,FrO1.mk⟩
      · simp only [hmem,decide_false] at c58
        rw [if_neg hmem] at hfs
        obtain ⟨rv,rb,q1,q2,q3⟩:=hb5 i hlt
        obtain ⟨_,_,hrb,ro,rc,rfl,hrc,hrcell⟩:=id q2
        obtain ⟨tn,rfl⟩:∃ tn:Nat,t0=(tn:Int):=⟨t0.toNat,by omega⟩
        have htn:tn < n:=by omega
        have hne:i ≠ tn:=fun e=>hmem (by rw [e]; simp)
        have hrl:(rowB n gs i).length=n:=by simp [rowB]
        have hval:∃ h,(rowB n gs i)[tn]'h=mrg n gs (1,(i:Int),(tn:Int),[],0):=⟨by omega,(List.getElem?_eq_some_iff.1 (beat_get gs htn hne)).2⟩
        obtain ⟨hval1,hval2⟩:=hval
        have hrc2:=hrcell tn hval1
        rw [hval2] at hrc2
        have hbl:((rowB n gs i).length:Int)=(n:Int):=by omega
        gi_wp2_with (first
          | (gi_at_call 58; refine (callsIn_wide.2 c58).mono ?_; rintro e w2 ⟨rfl,he2⟩
             have hx2:=hxw.trans he2
             have hB2:=(hx2.block B hBlt).trans hcb
             have g2:w2.cell? ⟨B,2,none⟩=some (.slice (some ⟨bb,0,none⟩) n bcap):=by simp [World.cell?,hB2]
             have g3:w2.cell? ⟨bb,i,none⟩=some (.slice (some ⟨rb,ro,none⟩) (rowB n gs i).length rc):=by simp [World.cell?,(hx2.block bb hbblt).trans hb3,q1]
             have g4:w2.cell? ⟨rb,ro+tn,none⟩=some (.int .i64 (mrg n gs (1,(i:Int),(tn:Int),[],0))):=(World.cell?_of_block (w:=W) (a:=⟨rb,ro+tn,none⟩) (hx2.block rb hrb)).trans hrc2
             have hbx2:=hbx.ext he2
             have c89:=take_ok (m:=mrg n gs (1,(i:Int),(tn:Int),[],0)) hbx2 hX (av:=.agg #[.int .i64 1,.int .i64 (i:Int),.int .i64 (tn:Int),.slice none 0 0,.int .i64 0]) (a:=(1,(i:Int),(tn:Int),[],0)) ⟨_,rfl,.inl ⟨rfl,rfl⟩,(by decide:wI 1),(hin (i:Int) (by omega) (by omega):wI (i:Int)),(hin (tn:Int) (by omega) (by omega):wI (tn:Int)),(by decide:wI 0)⟩ (by simp) (Nat.le_trans (bestP_len _) (by omega)))
          | (refine (callsIn_wide.2 c89).mono ?_; rintro e w3 ⟨⟨v3,rfl⟩,hbx3,hk3⟩))
        refine ⟨n - (i+1),by omega,i+1,by omega,rfl,?_,?_,FrO1.mk⟩
        · exact ⟨hk3.os.trans hx2.os,hk3.tape.trans hx2.tape,hk3.output.trans hx2.output,Nat.le_trans hx2.size hk3.size,fun b hb=>(hk3.block b (Nat.lt_of_lt_of_le hb hx2.size) (by rintro (h | h | h) <;> omega)).trans (hx2.block b hb)⟩
        · rw [hfs,List.map_append,List.map_cons,List.map_nil,bestP_snoc,pairA_out hmem]
          exact hbx3
    · obtain rfl:n=i:=by omega
      have hge':¬ ((n:Nat):Int) < (n:Int):=by omega
      obtain ⟨tn,rfl⟩:∃ tn:Nat,t0=(tn:Int):=⟨t0.toNat,by omega⟩
      have hY:∀ b,Xp X W.heap.size b→b < w.heap.size:=fun b h=>by
        have:=hbx.found.lt
        rcases h with h | (h | h | h)
        · have:=hXl _ h; have:=hxw.size; omega
        · omega
        · omega
        · omega
      have hsw:SX (Xp X W.heap.size) n gs F B Mv Mw nv nw w:=(hs.weak (Y:=Xp X W.heap.size) (fun b hb h1 h2=>by rcases h2 with h2 | (h2 | h2 | h2); exact h1 h2; omega; omega; omega) fun b h=>.inl (hs.xm b h)).ext hxw
      have c90:=among_ok hn hp hnv hsw ht htw hY
      have hgt1:(1:Int)≤(r.length:Int)+1:=by omega
      have hlr:r.length≤6:=by rw [List.length_cons] at htl; omega
      have htc':r.length+1≤tc:=by rw [List.length_cons] at htc; exact htc
      have hvl:(votesOf n gs ((tn:Int)::r)).length=n:=by unfold votesOf; rw [votesAt_len,remOf_len]
      rcases Nat.lt_or_ge 1 tc with htc1 | htc1
      rotate_left
      · obtain rfl:tc=1:=by omega
        obtain rfl:r=[]:=List.eq_nil_of_length_eq_zero (by omega)
        gi_wp2_with (first
          | (gi_at_call 90; refine (callsIn_wide.2 c90).mono ?_; rintro e w2 ⟨vv,vb,rfl,hsv,hvx,hs2,hk2⟩
             obtain ⟨vo,vc,hvv⟩:∃ vo vc,vv=.slice (some ⟨vb,vo,none⟩) n vc:=by
               obtain ⟨_,_,_,vo,vc,e,_⟩:=id hsv
               exact ⟨vo,vc,by rw [hvl] at e; exact e⟩
             subst hvv))
        have hk2W:Kx (Xm Mv Mw) W w2:=(Kx.of_ext hxw).trans hk2
        have hbx8:BX (Xf W.heap.size) w2 W.heap.size (ownP n gs [(tn:Int)]):=by
          rw [own_split gs ht,List.append_nil]
          exact hbx.keep hk2 (fun b h=>by rcases h with h | h <;> (unfold Xf; omega)) fun b h h2=>by rcases h with h | h | h <;> rcases h2 with h2 | h2 <;> omega
        have hxbm:∀ b,Xm Mv Mw b→¬ Xb W.heap.size b:=fun b h h2=>by rcases h with h | h <;> rcases h2 with h2 | h2 | h2 <;> omega
        refine wpIn_wide.2 (loop_inv (R:=fun m a w8=>w8=w2∧FrO2 B W.heap.size (.slice (some ⟨tb,off,none⟩) 1 1) (.slice (some ⟨vb,vo,none⟩) n vc) (.slice (some ⟨tb,off,none⟩) 0 0) (tn:Int) 0 0 a) (m:=0) ?step3 ?init3)
        case init3=>exact ⟨rfl,FrO2.mk⟩
        case step3 =>
          rintro m a w8 ⟨rfl,hfr⟩
          refine hfr.elim ?_
          intro x2 x3 x9 x11 x12 x13 x14 x15 x16 x17 x18 x19 x20 x21 x22 x23 x24 x25 x26 x27 x28 x29 x30 x31 x32 x33 x34 x35 x36 x37 x38 x39 x40 x41 x42 x43 x44 x45 x46 x47 x48 x52 x53 x54 x55 x56 x57 x58 x59 x60 x61 x62 x63 x64 x65 x66 x67 x68 x69 x70 x71 x72 x73 x74 x75 hfe
          subst hfe
          refine (wpIn_wide (n:=0)).1 ?_
          gi_wp2
          obtain ⟨⟨sv,hb1,hb2,hb3⟩,hb4,hb5⟩:=hbx8
          obtain ⟨sa,sl,sc,rfl⟩:=hb2.slice
          refine wpIn_wide.2 (region_inv mixd (J:=fun D a w9=>Kx (Xb W.heap.size) w8 w9∧OwnB w9 W.heap.size 49 (AC (ownP n gs [(tn:Int)]).1 (.slice sa sl sc))∧OwnB w9 (W.heap.size+1) 3 [.int .i64 (ownP n gs [(tn:Int)]).2.1]∧∃ y74 y75:Value,(D 0=true→y74=.agg (AC (ownP n gs [(tn:Int)]).1 (.slice sa sl sc)).toArray)∧(D 1=true→y75=.int .i64 (ownP n gs [(tn:Int)]).2.1)∧FrO4 B W.heap.size y74 y75 a) ?hac2 ?st2 ?fin2 ?h02)
          case hac2 =>
            intro k o ho
            rcases k with _ | _ | _ | _ | k <;> simp at ho <;> subst ho <;> simp
          case h02 =>
            refine ⟨Kx.drew _,hb1.ext (Ext.refl _).drew,hb4.ext (Ext.refl _).drew,_,_,?_,?_,FrO4.mk⟩ <;> (intro h; cases h)
          case st2 =>
            rintro D j2 o a w9 ho hDj hed ⟨hK,q1,q2,y74,y75,h0,h1,hfr⟩
            refine hfr.elim ?_
            intro x1 x2 x3 x6 x7 x8 x9 x10 x11 x12 x13 x14 x15 x16 x17 x18 x19 x20 x21 x22 x23 x24 x25 x26 x27 x28 x29 x30 x31 x32 x33 x34 x35 x36 x37 x38 x39 x40 x41 x42 x43 x44 x45 x46 x47 x48 x49 x50 x51 x52 x53 x54 x55 x56 x57 x58 x59 x60 x61 x62 x63 x64 x65 x66 x67 x68 x69 x70 x71 x72 x73 hfe
            subst hfe
            have c0:=q1.cell (i:=0) (by simp [AC])
            have c1:=q1.cell (i:=1) (by simp [AC])
            have c2:=q1.cell (i:=2) (by simp [AC])
            have c3:=q1.cell (i:=3) (by simp [AC])
            have c4:=q1.cell (i:=4) (by simp [AC])
            have cm:=q2.cell (i:=0) (by simp)
            simp [AC] at c0 c1 c2 c3 c4 cm
            have zb:=q1.frozen
            have zm:=q2.frozen 0
            rcases j2 with _ | _ | _ | _ | j2 <;> simp at ho <;> subst ho
            · refine wpk fun K hK0=>?_
              go_simp
              refine hK0 _ _ ⟨hK,q1,q2,_,_,fun _=>rfl,?_,FrO4.mk⟩ <;> simpa using by assumption
            · refine wpk fun K hK0=>?_
              go_simp
              refine hK0 _ _ ⟨hK,q1,q2,_,_,?_,fun _=>rfl,FrO4.mk⟩ <;> simpa using by assumption
            · obtain rfl:=h0 (hed ⟨0,.data⟩ (by simp) rfl)
              refine wpk fun K hK0=>?_
              simp only [AC]
              go_simp
              have y0:Xb W.heap.size W.heap.size:=.inl rfl
              refine hK0 _ _ ⟨kx_set (kx_set (kx_set (kx_set (kx_set hK y0 _ _) y0 _ _) y0 _ _) y0 _ _) y0 _ _,own_set5 q1,own_other (own_other (own_other (own_other (own_other q2 (by omega) _ _) (by omega) _ _) (by omega) _ _) (by omega) _ _) (by omega) _ _,_,_,?_,?_,FrO4.mk⟩ <;> simpa [AC] using by assumption
            · obtain rfl:=h1 (hed ⟨1,.data⟩ (by simp) rfl)
              refine wpk fun K hK0=>?_
              go_simp
              refine hK0 _ _ ⟨kx_set hK (.inr (.inl rfl)) _ _,own_other q1 (by omega) _ _,q2.set 0 _,_,_,?_,?_,FrO4.mk⟩ <;> simpa using by assumption
          case fin2 =>
            rintro D a w9 hall ⟨hK,q1,q2,y74,y75,h0,h1,hfr⟩
            refine hfr.elim ?_
            intro x1 x2 x3 x6 x7 x8 x9 x10 x11 x12 x13 x14 x15 x16 x17 x18 x19 x20 x21 x22 x23 x24 x25 x26 x27 x28 x29 x30 x31 x32 x33 x34 x35 x36 x37 x38 x39 x40 x41 x42 x43 x44 x45 x46 x47 x48 x49 x50 x51 x52 x53 x54 x55 x56 x57 x58 x59 x60 x61 x62 x63 x64 x65 x66 x67 x68 x69 x70 x71 x72 x73 hfe
            subst hfe
            clear h0 h1 hall
            gi_wp2
            have hkf:Kx (Xb W.heap.size) w8 w9:=hK
            exact ⟨rfl,_,own_res rfl _ rfl rfl q1 rfl q2,_,rfl,⟨_,rfl,(hb2.keep (kx_sub hkf fun b h=>by rcases h with h | h | h <;> (unfold Xf; omega))).imp id fun ⟨b,k1,k2⟩=>⟨b,k1,fun h=>k2 (by unfold Xf; omega)⟩,hb3⟩,(hs2.keep hkf (fun b h=>.inr h) hxbm).weak (fun b hb h1 h2=>h1 (.inl h2)) hs.xm,kx_own ((kx_sub hk2W fun b h=>.inl h).trans (kx_sub hkf fun b h=>.inr h))⟩
      have htc2:¬ tc=1:=by omega
      gi_wp2_with (first
        | (gi_at_call 90; refine (callsIn_wide.2 c90).mono ?_; rintro e w2 ⟨vv,vb,rfl,hsv,hvx,hs2,hk2⟩
           obtain ⟨vo,vc,hvv⟩:∃ vo vc,vv=.slice (some ⟨vb,vo,none⟩) n vc:=by
             obtain ⟨_,_,_,vo,vc,e,_⟩:=id hsv
             exact ⟨vo,vc,by rw [hvl] at e; exact e⟩
           subst hvv))
      have hk2W:Kx (Xm Mv Mw) W w2:=(Kx.of_ext hxw).trans hk2
      have hbx2:BX (Xf W.heap.size) w2 W.heap.size (bstJ n gs (tn:Int) r 0):=by
        unfold bstJ
        rw [List.take_zero,List.append_nil]
        exact hbx.keep hk2 (fun b h=>by rcases h with h | h <;> (unfold Xf; omega)) fun b h h2=>by rcases h with h | h | h <;> rcases h2 with h2 | h2 <;> omega
      have hxbm:∀ b,Xm Mv Mw b→¬ Xb W.heap.size b:=fun b h h2=>by rcases h with h | h <;> rcases h2 with h2 | h2 | h2 <;> omega
      refine wpIn_wide.2 (loop_inv (R:=fun m a w8=>∃ j:Nat,j≤r.length∧m=r.length - j∧Kx (Xo Mv Mw W.heap.size) W w8∧W.heap.size+3≤w8.heap.size∧SI w8 (.slice (some ⟨vb,vo,none⟩) n vc) (votesOf n gs ((tn:Int)::r)) vb∧SX (Xp X W.heap.size) n gs F B Mv Mw (nv+1) nw w8∧BX (Xf W.heap.size) w8 W.heap.size (bstJ n gs (tn:Int) r j)∧FrO2 B W.heap.size (.slice (some ⟨tb,off,none⟩) (r.length+1) tc) (.slice (some ⟨vb,vo,none⟩) n vc) (.slice (some ⟨tb,off+1,none⟩) r.length (tc - 1)) (tn:Int) r.length j a) (m:=r.length) ?step2 ?init2)
      case init2=>exact ⟨0,by omega,by omega,kx_sub hk2W fun b h=>.inl h,Nat.le_trans hbx.found.lt hk2.size,hsv,hs2,hbx2,FrO2.mk⟩
      case step2 =>
        rintro m a w8 ⟨j,hj,rfl,hk8,hsz8,hsi8,hs8,hbx8,hfr⟩
        refine hfr.elim ?_
        intro x2 x3 x9 x11 x12 x13 x14 x15 x16 x17 x18 x19 x20 x21 x22 x23 x24 x25 x26 x27 x28 x29 x30 x31 x32 x33 x34 x35 x36 x37 x38 x39 x40 x41 x42 x43 x44 x45 x46 x47 x48 x52 x53 x54 x55 x56 x57 x58 x59 x60 x61 x62 x63 x64 x65 x66 x67 x68 x69 x70 x71 x72 x73 x74 x75 hfe
        subst hfe
        refine (wpIn_wide (n:=0)).1 ?_
        have htx:¬ Xo Mv Mw W.heap.size tb:=fun h=>by rcases h with h | (h | h | h); exact hx h; omega; omega; omega
        have hti8:=hti.keep hk8 htx
        rcases Nat.lt_or_ge j r.length with hlt | hge
        · have hlt':(j:Int) < (r.length:Int):=by omega
          have hwi:IntKind.i64.wrap ((j:Int)+1)=((j+1:Nat):Int):=by rw [hin _ (by omega) (by omega)]; omega
          have hmem:r[j]∈r:=List.getElem_mem hlt
          have hpair:=pairA_in (n:=(n:Int)) (gs:=gs) (t0:=(tn:Int)) (r:=r) (x:=r[j]) (List.mem_cons_of_mem _ hmem)
          have htake:bstJ n gs (tn:Int) r (j+1)=bstep (bstJ n gs (tn:Int) r j) (pairA n gs ((tn:Int)::r) r[j]):=by
            unfold bstJ
            rw [← List.take_append_getElem hlt,← List.append_assoc,List.map_append,List.map_cons,List.map_nil,bestP_snoc]
          have hmr:=votes_mrg hn hp ht hmem
          have hrb:=ht.2 _ (List.mem_cons_of_mem _ hmem)
          have hbd0:=votes_bd hn hp ht ht0
          have hbd1:=votes_bd hn hp ht hrb
          have hc8:=hti8.at (i:=j+1) (by rw [List.length_cons]; omega)
          simp only [List.getD_cons_succ] at hc8
          rw [getD_get r 0 hlt,show off+(j+1)=off+1+j by omega] at hc8
          obtain ⟨xn,hxn⟩:∃ xn:Nat,r[j]=(xn:Int):=⟨(r[j]).toNat,by omega⟩
          rw [hxn] at hpair htake hmr hrb hbd1 hc8
          rw [hpair] at htake
          have hal:(risL ((tn:Int)::r)).length≤1000:=by rw [risL_len hn.2 ht]; omega
          have hsl:(bstJ n gs (tn:Int) r j).1.2.2.2.1.length≤1000:=Nat.le_trans (bestP_len _) (by omega)
          generalize bstJ n gs (tn:Int) r j=st0 at hbx8 htake hsl
          rw [Int.toNat_natCast,Int.toNat_natCast] at hmr
          rw [Int.toNat_natCast] at hbd0 hbd1
          have hsiV:∀ w9,Kx (Xb W.heap.size) w8 w9→SI w9 (.slice (some ⟨vb,vo,none⟩) n vc) (votesOf n gs ((tn:Int)::r)) vb:=fun w9 h=>hsi8.keep h fun hb=>hvx (.inr hb)
          have hatT:∀ w9,Kx (Xb W.heap.size) w8 w9→w9.cell? ⟨vb,vo+tn,none⟩=some (.int .i64 ((votesOf n gs ((tn:Int)::r)).getD tn 0)):=fun w9 h=>(hsiV w9 h).at (by omega)
          have hatX:∀ w9,Kx (Xb W.heap.size) w8 w9→w9.cell? ⟨vb,vo+xn,none⟩=some (.int .i64 ((votesOf n gs ((tn:Int)::r)).getD xn 0)):=fun w9 h=>(hsiV w9 h).at (by omega)
          generalize (votesOf n gs ((tn:Int)::r)).getD tn 0=v0 at hmr hbd0 hatT
          generalize (votesOf n gs ((tn:Int)::r)).getD xn 0=vx at hmr hbd1 hatX
          generalize hm0:mrg n gs (2,(tn:Int),(xn:Int),risL ((tn:Int)::r),0)=m at hmr htake
          have hwm:IntKind.i64.wrap (v0 - vx)=m:=by rw [← hmr]; exact w_id (by omega) (by omega)
          have hwm2:IntKind.i64.wrap m=m:=by rw [hmr] at hwm; exact hwm
          have htnn:(tn:Int) < (n:Int):=by omega
          have hxnn:(xn:Int) < (n:Int):=by omega
          gi_wp2_with (first
            | (gi_at_call 92; refine (callsIn_wide.2 (vals92 w8 _ _ _)).mono ?_; rintro e w3 ⟨Bs,rfl,he3,hBs1,hBs2,hBs3⟩
               have hti3:=hti8.keep (Kx.of_ext (X:=fun _=>False) he3) id
               have c91:=sorts91 (xs:=(tn:Int)::r) (cap:=tc) (b:=tb) (o:=off) (by simp) (by rw [List.length_cons]; omega) hti3.2.1 hBs2 hBs3 hti3.2.2.1 hti3.at')
            | (gi_at_call 91; refine (callsIn_wide.2 c91).mono ?_; rintro e w4 ⟨av,gb,rfl,he4,hgb,hki⟩
               obtain ⟨gk,hav0⟩:∃ gk,av=.slice (some ⟨gb,0,none⟩) (r.length+1) gk:=by
                 obtain ⟨_,_,gk,_,e,_⟩:=id hki
                 exact ⟨gk,by rw [sortI_length] at e; exact e⟩
               subst hav0))
          have he8:=he3.trans he4
          rw [sort_ris hn.2 ht] at hki
          have hgb8:w8.heap.size≤gb:=Nat.le_trans he3.size hgb
          have hav:AV (Xf W.heap.size) w4 (.agg #[.int .i64 2,.int .i64 (tn:Int),.int .i64 (xn:Int),(.slice (some ⟨gb,0,none⟩) (r.length+1) gk),.int .i64 0]) (2,(tn:Int),(xn:Int),risL ((tn:Int)::r),0) :=
            ⟨_,rfl,.inr ⟨gb,hki,by unfold Xf; omega⟩,(by decide:wI 2),(hin (tn:Int) (by omega) (by omega):wI (tn:Int)),(hin (xn:Int) (by omega) (by omega):wI (xn:Int)),(by decide:wI 0)⟩
          have hbx4:=hbx8.ext he8
          have cv0:=fun w9 (h:Kx (Xb W.heap.size) w4 w9)=>hatT w9 ((Kx.of_ext he8).trans h)
          have cvx:=fun w9 (h:Kx (Xb W.heap.size) w4 w9)=>hatX w9 ((Kx.of_ext he8).trans h)
          refine wpIn_wide.2 (region_inv mixd (J:=fun D a w9=>Kx (Xb W.heap.size) w4 w9∧BX (Xf W.heap.size) w9 W.heap.size (bif D 14 then bstep st0 ((2,(tn:Int),(xn:Int),risL ((tn:Int)::r),0),m) else st0)∧∃ ys:Nat→Value,(∀ k,D k=true→k < 14→ys k=([.func (.func 89) #[] #[.pointer (some ⟨W.heap.size+2,0,none⟩),.pointer (some ⟨W.heap.size+1,0,none⟩),.pointer (some ⟨W.heap.size,0,none⟩)],.int .i64 (tn:Int),.int .i64 (xn:Int),(.slice (some ⟨gb,0,none⟩) (r.length+1) gk),.agg #[.int .i64 2,.int .i64 (tn:Int),.int .i64 (xn:Int),(.slice (some ⟨gb,0,none⟩) (r.length+1) gk),.int .i64 0],(.slice (some ⟨vb,vo,none⟩) n vc),.int .i64 (tn:Int),.pointer (some ⟨vb,vo+tn,none⟩),.int .i64 v0,(.slice (some ⟨vb,vo,none⟩) n vc),.int .i64 (xn:Int),.pointer (some ⟨vb,vo+xn,none⟩),.int .i64 vx,.int .i64 m]:List Value).getD k undef)∧FrO3 B W.heap.size (.slice (some ⟨tb,off,none⟩) (r.length+1) tc) (.slice (some ⟨vb,vo,none⟩) n vc) (.slice (some ⟨tb,off+1,none⟩) r.length (tc - 1)) (.slice (some ⟨gb,0,none⟩) (r.length+1) gk) (tn:Int) (xn:Int) r.length j (ys 0) (ys 1) (ys 2) (ys 3) (ys 4) (ys 5) (ys 6) (ys 7) (ys 8) (ys 9) (ys 10) (ys 11) (ys 12) (ys 13) (ys 14) a) ?hac ?st ?fin ?h0)
          case hac =>
            intro k o ho
            rcases k with _ | _ | _ | _ | _ | _ | _ | _ | _ | _ | _ | _ | _ | _ | _ | k <;> simp at ho <;> subst ho <;> simp
          case h0 =>
            exact ⟨Kx.drew _,(hbx4.ext (Ext.refl w4).drew:BX (Xf W.heap.size) w4.drew W.heap.size st0),fun k=>[x58,x59,x60,x61,x62,x63,x64,x65,x66,x67,x68,x69,x70,x71,x72].getD k undef,(fun k h _=>by cases h),FrO3.mk⟩
          case st =>
            rintro D j2 o a w9 ho hDj hed ⟨hK,hBX,ys,hys,hfr⟩
            refine hfr.elim ?_
            intro x2 x3 x9 x11 x14 x15 x16 x17 x18 x19 x20 x21 x22 x23 x24 x25 x26 x27 x28 x29 x30 x31 x32 x33 x34 x35 x36 x37 x38 x39 x40 x41 x42 x43 x44 x45 x46 x47 x48 x52 x53 x54 x55 x56 x57 x73 x74 x75 hfe
            subst hfe
            rcases j2 with _ | _ | _ | _ | _ | _ | _ | _ | _ | _ | _ | _ | _ | _ | _ | j2 <;> simp at ho <;> subst ho
            · refine wpk fun K hK0=>?_
              go_simp
              exact hK0 _ _ ⟨hK,by simpa using hBX,fun k=>if k=0 then .func (.func 89) #[] #[.pointer (some ⟨W.heap.size+2,0,none⟩),.pointer (some ⟨W.heap.size+1,0,none⟩),.pointer (some ⟨W.heap.size,0,none⟩)] else (ys k),upd_ys (hys) rfl,FrO3.mk⟩
            · refine wpk fun K hK0=>?_
              go_simp
              exact hK0 _ _ ⟨hK,by simpa using hBX,fun k=>if k=1 then .int .i64 (tn:Int) else (ys k),upd_ys (hys) rfl,FrO3.mk⟩
            · refine wpk fun K hK0=>?_
              go_simp
              exact hK0 _ _ ⟨hK,by simpa using hBX,fun k=>if k=2 then .int .i64 (xn:Int) else (ys k),upd_ys (hys) rfl,FrO3.mk⟩
            · refine wpk fun K hK0=>?_
              go_simp
              exact hK0 _ _ ⟨hK,by simpa using hBX,fun k=>if k=3 then (.slice (some ⟨gb,0,none⟩) (r.length+1) gk) else (ys k),upd_ys (hys) rfl,FrO3.mk⟩
            · have e1:ys 1=.int .i64 (tn:Int):=hys 1 (hed ⟨1,.data⟩ (by simp) rfl) (by omega)
              have e2:ys 2=.int .i64 (xn:Int):=hys 2 (hed ⟨2,.data⟩ (by simp) rfl) (by omega)
              have e3:ys 3=(.slice (some ⟨gb,0,none⟩) (r.length+1) gk):=hys 3 (hed ⟨3,.data⟩ (by simp) rfl) (by omega)
              simp only [e1,e2,e3]
              refine wpk fun K hK0=>?_
              go_simp
              exact hK0 _ _ ⟨hK,by simpa using hBX,fun k=>if k=4 then .agg #[.int .i64 2,.int .i64 (tn:Int),.int .i64 (xn:Int),(.slice (some ⟨gb,0,none⟩) (r.length+1) gk),.int .i64 0] else (if k=3 then (.slice (some ⟨gb,0,none⟩) (r.length+1) gk) else if k=2 then .int .i64 (xn:Int) else if k=1 then .int .i64 (tn:Int) else ys k),upd_ys (rep_ys (d:=3) (u:=(.slice (some ⟨gb,0,none⟩) (r.length+1) gk)) (rep_ys (d:=2) (u:=.int .i64 (xn:Int)) (rep_ys (d:=1) (u:=.int .i64 (tn:Int)) (hys) rfl) rfl) rfl) rfl,FrO3.mk⟩
            · refine wpk fun K hK0=>?_
              go_simp
              exact hK0 _ _ ⟨hK,by simpa using hBX,fun k=>if k=5 then (.slice (some ⟨vb,vo,none⟩) n vc) else (ys k),upd_ys (hys) rfl,FrO3.mk⟩
            · refine wpk fun K hK0=>?_
              go_simp
              exact hK0 _ _ ⟨hK,by simpa using hBX,fun k=>if k=6 then .int .i64 (tn:Int) else (ys k),upd_ys (hys) rfl,FrO3.mk⟩
            · have e5:ys 5=(.slice (some ⟨vb,vo,none⟩) n vc):=hys 5 (hed ⟨5,.data⟩ (by simp) rfl) (by omega)
              have e6:ys 6=.int .i64 (tn:Int):=hys 6 (hed ⟨6,.data⟩ (by simp) rfl) (by omega)
              simp only [e5,e6]
              refine wpk fun K hK0=>?_
              go_simp
              exact hK0 _ _ ⟨hK,by simpa using hBX,fun k=>if k=7 then .pointer (some ⟨vb,vo+tn,none⟩) else (if k=6 then .int .i64 (tn:Int) else if k=5 then (.slice (some ⟨vb,vo,none⟩) n vc) else ys k),upd_ys (rep_ys (d:=6) (u:=.int .i64 (tn:Int)) (rep_ys (d:=5) (u:=(.slice (some ⟨vb,vo,none⟩) n vc)) (hys) rfl) rfl) rfl,FrO3.mk⟩
            · have e7:ys 7=.pointer (some ⟨vb,vo+tn,none⟩):=hys 7 (hed ⟨7,.data⟩ (by simp) rfl) (by omega)
              simp only [e7]
              have cv:=cv0 w9 hK
              refine wpk fun K hK0=>?_
              go_simp
              exact hK0 _ _ ⟨hK,by simpa using hBX,fun k=>if k=8 then .int .i64 v0 else (if k=7 then .pointer (some ⟨vb,vo+tn,none⟩) else ys k),upd_ys (rep_ys (d:=7) (u:=.pointer (some ⟨vb,vo+tn,none⟩)) (hys) rfl) rfl,FrO3.mk⟩
            · refine wpk fun K hK0=>?_
              go_simp
              exact hK0 _ _ ⟨hK,by simpa using hBX,fun k=>if k=9 then (.slice (some ⟨vb,vo,none⟩) n vc) else (ys k),upd_ys (hys) rfl,FrO3.mk⟩
            · refine wpk fun K hK0=>?_
              go_simp
              exact hK0 _ _ ⟨hK,by simpa using hBX,fun k=>if k=10 then .int .i64 (xn:Int) else (ys k),upd_ys (hys) rfl,FrO3.mk⟩
            · have e9:ys 9=(.slice (some ⟨vb,vo,none⟩) n vc):=hys 9 (hed ⟨9,.data⟩ (by simp) rfl) (by omega)
              have e10:ys 10=.int .i64 (xn:Int):=hys 10 (hed ⟨10,.data⟩ (by simp) rfl) (by omega)
              simp only [e9,e10]
              refine wpk fun K hK0=>?_
              go_simp
              exact hK0 _ _ ⟨hK,by simpa using hBX,fun k=>if k=11 then .pointer (some ⟨vb,vo+xn,none⟩) else (if k=10 then .int .i64 (xn:Int) else if k=9 then (.slice (some ⟨vb,vo,none⟩) n vc) else ys k),upd_ys (rep_ys (d:=10) (u:=.int .i64 (xn:Int)) (rep_ys (d:=9) (u:=(.slice (some ⟨vb,vo,none⟩) n vc)) (hys) rfl) rfl) rfl,FrO3.mk⟩
            · have e11:ys 11=.pointer (some ⟨vb,vo+xn,none⟩):=hys 11 (hed ⟨11,.data⟩ (by simp) rfl) (by omega)
              simp only [e11]
              have cv:=cvx w9 hK
              refine wpk fun K hK0=>?_
              go_simp
              exact hK0 _ _ ⟨hK,by simpa using hBX,fun k=>if k=12 then .int .i64 vx else (if k=11 then .pointer (some ⟨vb,vo+xn,none⟩) else ys k),upd_ys (rep_ys (d:=11) (u:=.pointer (some ⟨vb,vo+xn,none⟩)) (hys) rfl) rfl,FrO3.mk⟩
            · have e8:ys 8=.int .i64 v0:=hys 8 (hed ⟨8,.data⟩ (by simp) rfl) (by omega)
              have e12:ys 12=.int .i64 vx:=hys 12 (hed ⟨12,.data⟩ (by simp) rfl) (by omega)
              simp only [e8,e12]
              refine wpk fun K hK0=>?_
              go_simp
              exact hK0 _ _ ⟨hK,by simpa using hBX,fun k=>if k=13 then .int .i64 m else (if k=12 then .int .i64 vx else if k=8 then .int .i64 v0 else ys k),upd_ys (rep_ys (d:=12) (u:=.int .i64 vx) (rep_ys (d:=8) (u:=.int .i64 v0) (hys) rfl) rfl) rfl,FrO3.mk⟩
            · have e0:ys 0=.func (.func 89) #[] #[.pointer (some ⟨W.heap.size+2,0,none⟩),.pointer (some ⟨W.heap.size+1,0,none⟩),.pointer (some ⟨W.heap.size,0,none⟩)]:=hys 0 (hed ⟨0,.data⟩ (by simp) rfl) (by omega)
              have e4:ys 4=.agg #[.int .i64 2,.int .i64 (tn:Int),.int .i64 (xn:Int),(.slice (some ⟨gb,0,none⟩) (r.length+1) gk),.int .i64 0]:=hys 4 (hed ⟨4,.data⟩ (by simp) rfl) (by omega)
              have e13:ys 13=.int .i64 m:=hys 13 (hed ⟨13,.data⟩ (by simp) rfl) (by omega)
              simp only [e0,e4,e13]
              have hDf:D 14=false:=hDj
              rw [hDf] at hBX
              have ct:=take_ok (m:=m) hBX (fun b hb=>by rcases hb with h | h | h <;> (unfold Xf; omega)) (hav.keep (kx_sub hK fun b hb=>by rcases hb with h | h | h <;> (unfold Xf; omega))) (by exact hal) (by exact hsl)
              refine wpk fun K hK0=>?_
              go_simp
              refine ct.mono ?_
              rintro e w10 ⟨⟨v,rfl⟩,hB9,hK9⟩
              exact hK0 _ _ ⟨hK.trans hK9,by simpa using hB9,fun k=>if k=14 then v else (if k=13 then .int .i64 m else if k=4 then .agg #[.int .i64 2,.int .i64 (tn:Int),.int .i64 (xn:Int),(.slice (some ⟨gb,0,none⟩) (r.length+1) gk),.int .i64 0] else if k=0 then .func (.func 89) #[] #[.pointer (some ⟨W.heap.size+2,0,none⟩),.pointer (some ⟨W.heap.size+1,0,none⟩),.pointer (some ⟨W.heap.size,0,none⟩)] else ys k),upd_no (rep_ys (d:=13) (u:=.int .i64 m) (rep_ys (d:=4) (u:=.agg #[.int .i64 2,.int .i64 (tn:Int),.int .i64 (xn:Int),(.slice (some ⟨gb,0,none⟩) (r.length+1) gk),.int .i64 0]) (rep_ys (d:=0) (u:=.func (.func 89) #[] #[.pointer (some ⟨W.heap.size+2,0,none⟩),.pointer (some ⟨W.heap.size+1,0,none⟩),.pointer (some ⟨W.heap.size,0,none⟩)]) (hys) rfl) rfl) rfl) (Nat.le_refl _),FrO3.mk⟩
          case fin =>
            rintro D a w9 hall ⟨hK,hBX,ys,hys,hfr⟩
            refine hfr.elim ?_
            intro x2 x3 x9 x11 x14 x15 x16 x17 x18 x19 x20 x21 x22 x23 x24 x25 x26 x27 x28 x29 x30 x31 x32 x33 x34 x35 x36 x37 x38 x39 x40 x41 x42 x43 x44 x45 x46 x47 x48 x52 x53 x54 x55 x56 x57 x73 x74 x75 hfe
            subst hfe
            have h14:=hall 14 (by decide)
            rw [h14] at hBX
            simp only [cond_true] at hBX
            have hkk:=(Kx.of_ext (X:=Xb W.heap.size) he8).trans hK
            clear hys hall hsiV hatT hatX cv0 cvx
            gi_wp2
            refine ⟨r.length - (j+1),by omega,j+1,by omega,rfl,hk8.trans (kx_sub hkk fun b h=>.inr h),Nat.le_trans hsz8 hkk.size,hsi8.keep hkk fun hb=>hvx (.inr hb),hs8.keep hkk (fun b h=>.inr h) hxbm,by rw [htake]; exact hBX,FrO2.mk⟩
        · obtain rfl:j=r.length:=by omega
          have hge2:¬ ((r.length:Nat):Int) < (r.length:Int):=by omega
          unfold bstJ at hbx8
          rw [List.take_length,← own_split gs ht] at hbx8
          gi_wp2
          obtain ⟨⟨sv,hb1,hb2,hb3⟩,hb4,hb5⟩:=hbx8
          obtain ⟨sa,sl,sc,rfl⟩:=hb2.slice
          refine wpIn_wide.2 (region_inv mixd (J:=fun D a w9=>Kx (Xb W.heap.size) w8 w9∧OwnB w9 W.heap.size 49 (AC (ownP n gs ((tn:Int)::r)).1 (.slice sa sl sc))∧OwnB w9 (W.heap.size+1) 3 [.int .i64 (ownP n gs ((tn:Int)::r)).2.1]∧∃ y74 y75:Value,(D 0=true→y74=.agg (AC (ownP n gs ((tn:Int)::r)).1 (.slice sa sl sc)).toArray)∧(D 1=true→y75=.int .i64 (ownP n gs ((tn:Int)::r)).2.1)∧FrO4 B W.heap.size y74 y75 a) ?hac2 ?st2 ?fin2 ?h02)
          case hac2 =>
            intro k o ho
            rcases k with _ | _ | _ | _ | k <;> simp at ho <;> subst ho <;> simp
          case h02 =>
            refine ⟨Kx.drew _,hb1.ext (Ext.refl _).drew,hb4.ext (Ext.refl _).drew,_,_,?_,?_,FrO4.mk⟩ <;> (intro h; cases h)
          case st2 =>
            rintro D j2 o a w9 ho hDj hed ⟨hK,q1,q2,y74,y75,h0,h1,hfr⟩
            refine hfr.elim ?_
            intro x1 x2 x3 x6 x7 x8 x9 x10 x11 x12 x13 x14 x15 x16 x17 x18 x19 x20 x21 x22 x23 x24 x25 x26 x27 x28 x29 x30 x31 x32 x33 x34 x35 x36 x37 x38 x39 x40 x41 x42 x43 x44 x45 x46 x47 x48 x49 x50 x51 x52 x53 x54 x55 x56 x57 x58 x59 x60 x61 x62 x63 x64 x65 x66 x67 x68 x69 x70 x71 x72 x73 hfe
            subst hfe
            have c0:=q1.cell (i:=0) (by simp [AC])
            have c1:=q1.cell (i:=1) (by simp [AC])
            have c2:=q1.cell (i:=2) (by simp [AC])
            have c3:=q1.cell (i:=3) (by simp [AC])
            have c4:=q1.cell (i:=4) (by simp [AC])
            have cm:=q2.cell (i:=0) (by simp)
            simp [AC] at c0 c1 c2 c3 c4 cm
            have zb:=q1.frozen
            have zm:=q2.frozen 0
            rcases j2 with _ | _ | _ | _ | j2 <;> simp at ho <;> subst ho
            · refine wpk fun K hK0=>?_
              go_simp
              refine hK0 _ _ ⟨hK,q1,q2,_,_,fun _=>rfl,?_,FrO4.mk⟩ <;> simpa using by assumption
            · refine wpk fun K hK0=>?_
              go_simp
              refine hK0 _ _ ⟨hK,q1,q2,_,_,?_,fun _=>rfl,FrO4.mk⟩ <;> simpa using by assumption
            · obtain rfl:=h0 (hed ⟨0,.data⟩ (by simp) rfl)
              refine wpk fun K hK0=>?_
              simp only [AC]
              go_simp
              have y0:Xb W.heap.size W.heap.size:=.inl rfl
              refine hK0 _ _ ⟨kx_set (kx_set (kx_set (kx_set (kx_set hK y0 _ _) y0 _ _) y0 _ _) y0 _ _) y0 _ _,own_set5 q1,own_other (own_other (own_other (own_other (own_other q2 (by omega) _ _) (by omega) _ _) (by omega) _ _) (by omega) _ _) (by omega) _ _,_,_,?_,?_,FrO4.mk⟩ <;> simpa [AC] using by assumption
            · obtain rfl:=h1 (hed ⟨1,.data⟩ (by simp) rfl)
              refine wpk fun K hK0=>?_
              go_simp
              refine hK0 _ _ ⟨kx_set hK (.inr (.inl rfl)) _ _,own_other q1 (by omega) _ _,q2.set 0 _,_,_,?_,?_,FrO4.mk⟩ <;> simpa using by assumption
          case fin2 =>
            rintro D a w9 hall ⟨hK,q1,q2,y74,y75,h0,h1,hfr⟩
            refine hfr.elim ?_
            intro x1 x2 x3 x6 x7 x8 x9 x10 x11 x12 x13 x14 x15 x16 x17 x18 x19 x20 x21 x22 x23 x24 x25 x26 x27 x28 x29 x30 x31 x32 x33 x34 x35 x36 x37 x38 x39 x40 x41 x42 x43 x44 x45 x46 x47 x48 x49 x50 x51 x52 x53 x54 x55 x56 x57 x58 x59 x60 x61 x62 x63 x64 x65 x66 x67 x68 x69 x70 x71 x72 x73 hfe
            subst hfe
            clear h0 h1 hall
            gi_wp2
            have hkf:Kx (Xb W.heap.size) w8 w9:=hK
            exact ⟨rfl,_,own_res rfl _ rfl rfl q1 rfl q2,_,rfl,⟨_,rfl,(hb2.keep (kx_sub hkf fun b h=>by rcases h with h | h | h <;> (unfold Xf; omega))).imp id fun ⟨b,k1,k2⟩=>⟨b,k1,fun h=>k2 (by unfold Xf; omega)⟩,hb3⟩,(hs8.keep hkf (fun b h=>.inr h) hxbm).weak (fun b hb h1 h2=>h1 (.inl h2)) hs.xm,kx_own (hk8.trans (kx_sub hkf fun b h=>.inr h))⟩
end Go.Proofs.YtieoleabnjdkfaaGreat
set_option linter.unusedSimpArgs false
set_option linter.unusedVariables false
namespace Go.Proofs.YtieoleabnjdkfaaGreat
open Go Go.Proofs Go.RowKit Go.X
theorem isB_le {n:Nat} {t:List Int} (ht:isB n t):t.length≤n:=by
  have:=nodup_len_le' (m:=t) (l:=idL n) ht.1 fun c hc=>(mem_cands (n:=n) (c:=c)).2 (ht.2 c hc)
  simpa [idL] using this
theorem valTo_congr {f g:List Int→Int × List Asn} {tail:List Int}:∀ i,(∀ j:Nat,j < i→(j:Int) ∉ tail→f ((j:Int)::tail)=g ((j:Int)::tail))→valTo f tail i=valTo g tail i
  | 0,_=>rfl
  | i+1,h=>by
    rw [valTo_succ,valTo_succ,valTo_congr i fun j hj=>h j (by omega)]
    unfold valStep
    by_cases c:(i:Int)∈tail
    · rw [if_pos c,if_pos c]
    · rw [if_neg c,if_neg c,h i (by omega) c]
theorem valP_fuel {n:Nat} (gs:List Grp):∀ (k k':Nat) (t:List Int),isB n t→0 < t.length→n < k+t.length→n < k'+t.length→valP n gs k t=valP n gs k' t
  | 0,k',t,ht,h0,h1,_=>by have:=isB_le ht; omega
  | k+1,0,t,ht,h0,_,h1=>by have:=isB_le ht; omega
  | k+1,k'+1,t,ht,h0,h1,h2=>by
    rw [valP_succ,valP_succ]
    have:valTo (valP n gs k) t n=valTo (valP n gs k') t n:=valTo_congr n fun j hj hm=>valP_fuel gs k k' _ (isB_cons ht hj hm) (by simp) (by simp; omega) (by simp; omega)
    rw [this]
def vT (n:Nat) (gs:List Grp) (t:List Int):Int:=(valP n gs 10 t).1
def lT (n:Nat) (gs:List Grp) (t:List Int):List Asn:=(valP n gs 10 t).2
theorem minF_congr {f g:Int→Int} {l:List Int} (h:∀ c∈l,f c=g c):minF f l=minF g l:=by
  have key:∀ (l:List Int) (a:Int),(∀ c∈l,f c=g c)→l.foldl (fun m c=>if f c < m then f c else m) a=l.foldl (fun m c=>if g c < m then g c else m) a:=by
    intro l
    induction l with
    | nil=>intro a _; rfl
    | cons x l ih =>
      intro a h
      rw [List.foldl_cons,List.foldl_cons,h x (by simp),ih _ fun c hc=>h c (List.mem_cons_of_mem _ hc)]
  cases l with
  | nil=>rfl
  | cons x l =>
    show l.foldl (fun m c=>if f c < m then f c else m) (f x)=l.foldl (fun m c=>if g c < m then g c else m) (g x)
    rw [h x (by simp)]
    exact key l _ fun c hc=>h c (List.mem_cons_of_mem _ hc)
theorem chL_none {n:Nat} {t:List Int} (ht:isB n t) (hl:t.length=n):chL n t=[]:=by
  apply List.eq_nil_iff_forall_not_mem.2
  intro c hc
  have:=isB_le (isB_kid ht hc)
  rw [List.length_cons] at this
  omega
theorem kid9 {n:Nat} (gs:List Grp) (hn:n≤7) {t:List Int} (ht:isB n t) {c:Int} (hc:c∈chL n t):valP n gs 9 (c::t)=valP n gs 10 (c::t) :=
  valP_fuel gs 9 10 _ (isB_kid ht hc) (by simp) (by simp; omega) (by simp; omega)
theorem vT_eq {n:Nat} (gs:List Grp) (hn:n≤7) {t:List Int} (ht:isB n t):vT n gs t=if chL n t=[] then ov n gs t else if ov n gs t < minF (fun c=>vT n gs (c::t)) (chL n t) then minF (fun c=>vT n gs (c::t)) (chL n t) else ov n gs t:=by
  by_cases hl:t.length=n
  · rw [if_pos (chL_none ht hl)]
    exact valP_one gs 9 hl
  · rw [if_neg (chL_ne ht (by have:=isB_le ht; omega))]
    unfold vT
    rw [valP_kids gs 9 hl,minF_congr (g:=fun c=>vT n gs (c::t)) fun c hc=>by rw [kid9 gs hn ht hc]; rfl]
    rfl
theorem flatMap_congr' {α β:Type} {f g:α→List β}:∀ {l:List α},(∀ c∈l,f c=g c)→l.flatMap f=l.flatMap g
  | [],_=>rfl
  | x::l,h=>by rw [List.flatMap_cons,List.flatMap_cons,h x (by simp),flatMap_congr' fun c hc=>h c (List.mem_cons_of_mem _ hc)]
theorem lT_eq {n:Nat} (gs:List Grp) (hn:n≤7) {t:List Int} (ht:isB n t):lT n gs t=if ov n gs t=vT n gs t then [(ownP n gs t).1] else (chL n t).flatMap fun c=>lT n gs (c::t):=by
  unfold lT vT
  rw [valP_list gs 9]
  unfold ov
  by_cases h:(ownP n gs t).2.1=(valP n gs (9+1) t).1
  · rw [if_pos h,if_pos h]
  · rw [if_neg h,if_neg h]
    exact flatMap_congr' fun c hc=>by rw [kid9 gs hn ht hc]
theorem ov_bd {n:Nat} (h2:2≤n) (gs:List Grp) (t:List Int):-600000≤ov n gs t∧ov n gs t≤600000:=by
  obtain ⟨x,_,_,_,h⟩:=ov_at h2 gs t
  rw [h]
  exact mrg_bd _ _ _
theorem vT_bd {n:Nat} (h2:2≤n) (hn:n≤7) (gs:List Grp):∀ (k:Nat) (t:List Int),isB n t→n < k+t.length→-600000≤vT n gs t∧vT n gs t≤600000
  | 0,t,ht,hk=>by have:=isB_le ht; omega
  | k+1,t,ht,hk=>by
    have h:=ov_bd h2 gs t
    rw [vT_eq gs hn ht]
    split
    · exact h
    · rename_i hc
      obtain ⟨c,hc1,hc2⟩:=minF_at (f:=fun c=>vT n gs (c::t)) hc
      have:=vT_bd h2 hn gs k (c::t) (isB_kid ht hc1) (by rw [List.length_cons]; omega)
      rw [hc2]
      split
      · exact this
      · exact h
end Go.Proofs.YtieoleabnjdkfaaGreat
set_option linter.unusedSimpArgs false
set_option linter.unusedVariables false
set_option linter.unnecessarySimpa false
namespace Go.Proofs.YtieoleabnjdkfaaGreat
open Go Go.Proofs Go.RowKit Go.X
open Go.Maps (Keyed)
attribute [local go_sem] Oper.semAt_some
theorem keyB_inj:∀ {t t':List Int},(∀ x∈t,0≤x∧x < 7)→(∀ x∈t',0≤x∧x < 7)→keyB t=keyB t'→t=t'
  | [],[],_,_,_=>rfl
  | [],y::t',_,_,h=>by simp [keyB] at h
  | x::t,[],_,_,h=>by simp [keyB] at h
  | x::t,y::t',h1,h2,h=>by
    unfold keyB at h
    rw [List.map_cons,List.map_cons,List.cons.injEq] at h
    have hx:=h1 x (by simp)
    have hy:=h2 y (by simp)
    have e:x=y:=by
      have:=congrArg UInt8.toNat h.1
      simp only [UInt8.toNat_ofNat'] at this
      omega
    rw [e,keyB_inj (fun z hz=>h1 z (List.mem_cons_of_mem _ hz)) (fun z hz=>h2 z (List.mem_cons_of_mem _ hz)) h.2]
theorem plain_int {x:Int} {v:Value} {ps:List MemPlace} (h:plainElem (H:=Unit) Tryz.prog 3 v=some (.lit (.int .i64 x),ps)):v=.int .i64 x:=by
  obtain ⟨a,rfl,e,_⟩:=plainElem_int_inv Tryz.underlying3 h
  simp at e
  rw [e.1]
theorem key_of {s:ByteArray} {t:List Int} (hl:t.length≤7) (hs:s.data.toList=keyB t):keyOf Tryz.prog 9 (.string s)=some (.string (keyB t)):=by
  have hsz:s.size≤maxLen:=by
    have:=congrArg List.length hs
    have h2:s.data.toList.length=s.size:=by simp
    rw [h2] at this
    have h3:(keyB t).length=t.length:=by simp [keyB]
    rw [this,h3]
    exact Nat.le_trans hl (by decide)
  rw [← hs]
  simp [keyOf,Tryz.underlying9,mapKey,hsz]
theorem LL.keep {base:Nat} {v:Value} {ts:List (List Int)} {w w':World} {X:Nat→Prop} (h:LL base v ts w) (hk:Kx X w w') (hX:∀ b,X b→b < base):LL base v ts w':=h.same fun b hb hl=>hk.block b hl fun hx=>by have:=hX b hx; omega
theorem LL.get {base:Nat} {v:Value} {ts:List (List Int)} {w:World} (h:LL base v ts w) {L:Nat} (hL:ts.length=L) (h0:0 < L):∃ g cap,v=.slice (some ⟨g,0,none⟩) L cap∧base≤g∧L≤cap∧∀ (w':World),LL base v ts w'→∀ (a:Nat) (ha:a < ts.length),∃ cv cb,w'.cell? ⟨g,a,none⟩=some cv∧KI w' cv ts[a] cb∧base≤cb:=by
  subst hL
  obtain ⟨rows,⟨hl,hv⟩,hr⟩:=h
  rcases hv with ⟨_,h⟩ | ⟨g,cap,cur,rfl,h1,h2,h3,h4,h5,h6⟩
  · omega
  · refine ⟨g,cap,rfl,h1,h3,fun w' hw' a ha=>?_⟩
    obtain ⟨rows',⟨hl',hv'⟩,hr'⟩:=hw'
    rcases hv' with ⟨h,_⟩ | ⟨g',cap',cur',e,k1,k2,k3,k4,k5,k6⟩
    · cases h
    · obtain rfl:g=g':=by simp at e; exact e.1
      obtain ⟨cv,cb,q1,q2,q3⟩:=hr' a ha
      refine ⟨cv,cb,?_,q2,q3⟩
      rw [← k6] at q1
      simp only [Nat.mul_one,List.getElem?_take,if_pos ha,Array.getElem?_toList] at q1
      simp [World.cell?,k2,q1]
theorem own_store5 {w:World} {v0 v1 v2 v3 v4:Value}:let wA:=w.alloc (.cells #[.int .i64 0,.int .i64 0,.int .i64 0,.slice none 0 0,.int .i64 0] 49)
    Ext w (((((wA.setCell ⟨w.heap.size,0,none⟩ v0).setCell ⟨w.heap.size,1,none⟩ v1).setCell ⟨w.heap.size,2,none⟩ v2).setCell ⟨w.heap.size,3,none⟩ v3).setCell ⟨w.heap.size,4,none⟩ v4) :=
  ext_setCell (ext_setCell (ext_setCell (ext_setCell (ext_setCell (Ext.alloc _ _) (Nat.le_refl _) _ _) (Nat.le_refl _) _ _) (Nat.le_refl _) _ _) (Nat.le_refl _) _ _) (Nat.le_refl _) _ _
def FrV1 (B:Nat) (tv:Value) (s:ByteArray) (ow ls:Int) (cv:Value) (ln i:Nat) (a:Act):Prop:=∃ (x2 x3 x4 x6 x7 x8 x10 x12 x13 x14 x15 x16 x17 x18 x19 x20 x21 x22 x23 x24 x25 x26 x27 x28 x29 x30 x31 x32 x33 x34 x35 x36 x37 x38 x39 x40 x41 x42 x43 x44 x48 x49 x50 x51 x52 x53 x54 x55 x56 x57 x58 x59 x60 x61 x62 x63 x64 x65 x66:Value),a={ tmps:=#[.pointer (some ⟨B,0,none⟩),tv,x2,x3,x4,.string s,x6,x7,x8,.int .i64 ow,x10,.int .i64 ls,x12,x13,x14,x15,x16,x17,x18,x19,x20,x21,x22,x23,x24,x25,x26,x27,x28,x29,x30,x31,x32,x33,x34,x35,x36,x37,x38,x39,x40,x41,x42,x43,x44,cv,.int .i64 (ln:Int),.int .i64 (i:Int),x48,x49,x50,x51,x52,x53,x54,x55,x56,x57,x58,x59,x60,x61,x62,x63,x64,x65,x66],defers:=[] }
theorem FrV1.mk {B:Nat} {tv:Value} {s:ByteArray} {ow ls:Int} {cv:Value} {ln i:Nat} {x2 x3 x4 x6 x7 x8 x10 x12 x13 x14 x15 x16 x17 x18 x19 x20 x21 x22 x23 x24 x25 x26 x27 x28 x29 x30 x31 x32 x33 x34 x35 x36 x37 x38 x39 x40 x41 x42 x43 x44 x48 x49 x50 x51 x52 x53 x54 x55 x56 x57 x58 x59 x60 x61 x62 x63 x64 x65 x66:Value}:FrV1 B tv s ow ls cv ln i { tmps:=#[.pointer (some ⟨B,0,none⟩),tv,x2,x3,x4,.string s,x6,x7,x8,.int .i64 ow,x10,.int .i64 ls,x12,x13,x14,x15,x16,x17,x18,x19,x20,x21,x22,x23,x24,x25,x26,x27,x28,x29,x30,x31,x32,x33,x34,x35,x36,x37,x38,x39,x40,x41,x42,x43,x44,cv,.int .i64 (ln:Int),.int .i64 (i:Int),x48,x49,x50,x51,x52,x53,x54,x55,x56,x57,x58,x59,x60,x61,x62,x63,x64,x65,x66],defers:=[] }:=⟨x2,x3,x4,x6,x7,x8,x10,x12,x13,x14,x15,x16,x17,x18,x19,x20,x21,x22,x23,x24,x25,x26,x27,x28,x29,x30,x31,x32,x33,x34,x35,x36,x37,x38,x39,x40,x41,x42,x43,x44,x48,x49,x50,x51,x52,x53,x54,x55,x56,x57,x58,x59,x60,x61,x62,x63,x64,x65,x66,rfl⟩
theorem FrV1.elim {B:Nat} {tv:Value} {s:ByteArray} {ow ls:Int} {cv:Value} {ln i:Nat} {a:Act} {P:Prop} (h:FrV1 B tv s ow ls cv ln i a) (k:∀ (x2 x3 x4 x6 x7 x8 x10 x12 x13 x14 x15 x16 x17 x18 x19 x20 x21 x22 x23 x24 x25 x26 x27 x28 x29 x30 x31 x32 x33 x34 x35 x36 x37 x38 x39 x40 x41 x42 x43 x44 x48 x49 x50 x51 x52 x53 x54 x55 x56 x57 x58 x59 x60 x61 x62 x63 x64 x65 x66:Value),a={ tmps:=#[.pointer (some ⟨B,0,none⟩),tv,x2,x3,x4,.string s,x6,x7,x8,.int .i64 ow,x10,.int .i64 ls,x12,x13,x14,x15,x16,x17,x18,x19,x20,x21,x22,x23,x24,x25,x26,x27,x28,x29,x30,x31,x32,x33,x34,x35,x36,x37,x38,x39,x40,x41,x42,x43,x44,cv,.int .i64 (ln:Int),.int .i64 (i:Int),x48,x49,x50,x51,x52,x53,x54,x55,x56,x57,x58,x59,x60,x61,x62,x63,x64,x65,x66],defers:=[] }→P):P:=by
  obtain ⟨x2,x3,x4,x6,x7,x8,x10,x12,x13,x14,x15,x16,x17,x18,x19,x20,x21,x22,x23,x24,x25,x26,x27,x28,x29,x30,x31,x32,x33,x34,x35,x36,x37,x38,x39,x40,x41,x42,x43,x44,x48,x49,x50,x51,x52,x53,x54,x55,x56,x57,x58,x59,x60,x61,x62,x63,x64,x65,x66,e⟩:=h
  exact k x2 x3 x4 x6 x7 x8 x10 x12 x13 x14 x15 x16 x17 x18 x19 x20 x21 x22 x23 x24 x25 x26 x27 x28 x29 x30 x31 x32 x33 x34 x35 x36 x37 x38 x39 x40 x41 x42 x43 x44 x48 x49 x50 x51 x52 x53 x54 x55 x56 x57 x58 x59 x60 x61 x62 x63 x64 x65 x66 e
def minT (n:Nat) (gs:List Grp) (t:List Int) (l:List Int):Int:=minF (fun c=>vT n gs (c::t)) l
theorem minT_snoc (n:Nat) (gs:List Grp) (t:List Int) (c:Int) (l:List Int) (d:Int):minT n gs t ((c::l)++[d])=if vT n gs (d::t) < minT n gs t (c::l) then vT n gs (d::t) else minT n gs t (c::l):=by
  show (l++[d]).foldl _ _=_
  rw [List.foldl_append]
  rfl
theorem min_if {a b:Int}:min a b=if b < a then b else a:=by
  by_cases h:b < a
  · rw [if_pos h,Int.min_eq_right (by omega)]
  · rw [if_neg h,Int.min_eq_left (by omega)]
theorem max_if {a b:Int}:max a b=if a < b then b else a:=by
  by_cases h:a < b
  · rw [if_pos h,Int.max_eq_right (by omega)]
  · rw [if_neg h,Int.max_eq_left (by omega)]
set_option maxRecDepth 100000 in
set_option maxHeartbeats 8000000 in
theorem value_ok {n:Nat} (hn:2≤n∧n≤7) {gs:List Grp} {N:Int} (hp:PileOK (n:Int) gs N) {F X:Nat→Prop} {B Mv Mw:Nat}:∀ (k:Nat) (t:List Int),isB n t→0 < t.length→n < k+t.length→∀ {nv nw:Nat} (hnv:nv+8 ^ k≤1099511627776) (hnw:nw+8 ^ k≤1099511627776) {W:World} (hs:SX X n gs F B Mv Mw nv nw W) (hXl:∀ b,X b→b < W.heap.size) {tv:Value} {tb:Nat} (hti:SI W tv t tb) (hx:¬ Xm Mv Mw tb),
    Calls Tryz.prog 48 #[.pointer (some ⟨B,0,none⟩),tv] W fun e W'=>e=.returned (.int .i64 (vT n gs t))∧SX X n gs F B Mv Mw (nv+8 ^ k) (nw+8 ^ k) W'∧Kx (Xm Mv Mw) W W':=by
  intro k
  induction k with
  | zero=>intro t ht h0 hk; have:=isB_le ht; omega
  | succ k ih =>
    intro t ht h0 hk nv nw hnv hnw W hs hXl tv tb hti hx
    obtain ⟨A,hA1,hA⟩:∃ A,1≤A∧8 ^ k=A:=⟨_,Nat.pow_pos (by omega),rfl⟩
    rw [Nat.pow_succ,hA] at hnv hnw ⊢
    simp only [hA] at ih
    clear hA
    have htl:t.length≤7:=isB_len ht (by omega)
    have hin:∀ c:Int,0≤c→c≤1000→IntKind.i64.wrap c=c:=fun c h0 h1=>w_id (by omega) (by omega)
    obtain ⟨t0,r,rfl⟩:∃ t0 r,t=t0::r:=by
      match t,h0 with
      | t0::r,_=>exact ⟨t0,r,rfl⟩
    obtain ⟨_,_,htb,off,tc,rfl,htc,hcell⟩:=id hti
    refine (callsIn_wide (n:=0)).1 (callsIn_of_wp Tryz.func48 rfl trivial ?_ rfl)
    simp only [Tryz.ntmps48,List.size_toArray,List.length_cons,List.length_nil,Nat.reduceAdd,Nat.reduceSub,Array.replicate_succ,Array.replicate_zero,List.push_toArray,List.append_toArray,List.nil_append,List.cons_append]
    have fd:Fence.wide.depth=none:=rfl
    have f75:Fence.wide.fn 75:=trivial
    have f65:Fence.wide.fn 65:=trivial
    have f66:Fence.wide.fn 66:=trivial
    have f48:Fence.wide.fn 48:=trivial
    have hMv:=hs.votes.lt
    have hMw:=hs.vals.lt
    obtain ⟨gv,bv,hcb,hga,hbt⟩:=hs.cell
    have hBlt:B < W.heap.size:=(Array.getElem?_eq_some_iff.1 hcb).1
    obtain ⟨D,hown,hD⟩:=hs.vals
    have c75:=con75 hn.2 hti ht
    have hvb:=vT_bd hn.1 hn.2 gs 8 (t0::r) ht (by rw [List.length_cons]; omega)
    cases hhas:Go.Maps.has D (.string (keyB (t0::r))) with
    | true =>
      gi_wp2_with (first
        | (gi_at_call 75; refine (callsIn_wide.2 c75).mono ?_; rintro e w1 ⟨⟨s,rfl,hsk⟩,he1⟩
           have hs1:=hs.ext he1
           have hB1:=(he1.block B hBlt).trans hcb
           have g4:w1.cell? ⟨B,4,none⟩=some (.map (some Mw)):=by simp [World.cell?,hB1]
           have hown1:w1.ownsMap Tryz.prog 9 (plainElem Tryz.prog 3) Mw nw D:=by obtain ⟨es,clock,h1,h2⟩:=hown; exact ⟨es,clock,(he1.block _ hMw).trans h1,h2⟩
           obtain ⟨v0,ps0,hrun,hv0⟩:=hown1.look_ok (Go.Maps.string_keyed Tryz.underlying9) Tryz.underlying95 (Tryz.zeroValue3 w1) (plainElem_int Tryz.underlying3 (lit_wf (x:=0) (by omega) (by omega))) (key_of htl hsk)
           rw [hhas] at hrun
           obtain ⟨t',q1,q2,q3,q4⟩:=hD _ hhas
           have htt:t0::r=t':=keyB_inj (fun x hx=>by have:=ht.2 x hx; omega) (fun x hx=>by have:=q1.2 x hx; omega) (by simpa using q3)
           rw [q4,← htt] at hv0
           have hv1:=plain_int hv0
           subst hv1))
      exact ⟨rfl,_,results_tmp (t:=4) rfl _ _ _,by rw [htt]; rfl,hs1.mono (by omega) (by omega),Kx.of_ext he1⟩
    | false =>
      have c65:=fun (w1:World) (he1:Ext W w1)=>own_ok (t0:=t0) (r:=r) ⟨by omega,hn.2⟩ hp (show nv < 1099511627776 by omega) (hs.ext he1) (fun b h=>Nat.lt_of_lt_of_le (hXl b h) he1.size) ht (hti.keep (Kx.of_ext (X:=fun _=>False) he1) id) hx
      by_cases hch:chL n (t0::r)=[]
      · have hvt:=vT_eq gs hn.2 ht
        rw [if_pos hch] at hvt
        gi_wp2_with (first
          | (gi_at_call 75; refine (callsIn_wide.2 c75).mono ?_; rintro e w1 ⟨⟨s,rfl,hsk⟩,he1⟩
             have hB1:=(he1.block B hBlt).trans hcb
             have g4:w1.cell? ⟨B,4,none⟩=some (.map (some Mw)):=by simp [World.cell?,hB1]
             have hown1:w1.ownsMap Tryz.prog 9 (plainElem Tryz.prog 3) Mw nw D:=by obtain ⟨es,clock,h1,h2⟩:=hown; exact ⟨es,clock,(he1.block _ hMw).trans h1,h2⟩
             obtain ⟨v0,ps0,hrun,hv0⟩:=hown1.look_ok (Go.Maps.string_keyed Tryz.underlying9) Tryz.underlying95 (Tryz.zeroValue3 w1) (plainElem_int Tryz.underlying3 (lit_wf (x:=0) (by omega) (by omega))) (key_of htl hsk)
             rw [hhas] at hrun)
          | (gi_at_call 65; refine (callsIn_wide.2 (c65 w1 he1)).mono ?_; rintro e w2 ⟨av,rfl,hav,hs2,hk2⟩
             clear hrun hv0
             obtain ⟨sv,rfl,hsl,haw⟩:=hav
             obtain ⟨sa,sl,sc,rfl⟩:∃ sa sl sc,sv=.slice sa sl sc:=hsl.slice
             have ex5:=own_store5 (w:=w2) (v0:=.int .i64 (ownP n gs (t0::r)).1.1) (v1:=.int .i64 (ownP n gs (t0::r)).1.2.1) (v2:=.int .i64 (ownP n gs (t0::r)).1.2.2.1) (v3:=.slice sa sl sc) (v4:=.int .i64 (ownP n gs (t0::r)).1.2.2.2.2)
             have nA:=own_new w2 #[.int .i64 0,.int .i64 0,.int .i64 0,.slice none 0 0,.int .i64 0] 49
             simp only at ex5
             obtain ⟨wA,hwA⟩:∃ wA,w2.alloc (.cells #[.int .i64 0,.int .i64 0,.int .i64 0,.slice none 0 0,.int .i64 0] 49)=wA:=⟨_,rfl⟩
             rw [hwA] at ex5 nA
             have a0:=nA.cell (i:=0) (by simp)
             have a1:=nA.cell (i:=1) (by simp)
             have a2:=nA.cell (i:=2) (by simp)
             have a3:=nA.cell (i:=3) (by simp)
             have a4:=nA.cell (i:=4) (by simp)
             simp at a0 a1 a2 a3 a4
             have az:=nA.frozen
             have k2:Kx (Xm Mv Mw) W w2:=(Kx.of_ext he1).trans hk2
             have hti2:=hti.keep k2 hx
             obtain ⟨gv2,bv2,hB2,_,_⟩:=id hs2.cell
             have hBlt2:B < w2.heap.size:=(Array.getElem?_eq_some_iff.1 hB2).1)
          | (gi_at_call 66; refine (callsIn_wide.2 (children_ok ⟨by omega,hn.2⟩ ((ex5.block B hBlt2).trans hB2) ht (hti2.keep (Kx.of_ext (X:=fun _=>False) ex5) id))).mono ?_; rintro e w4 ⟨ov,rfl,hll,he4⟩
             have ex6:=ex5.trans he4
             have hs4:=hs2.ext ex6
             have hB4:=(ex6.block B hBlt2).trans hB2
             have g5:w4.cell? ⟨B,4,none⟩=some (.map (some Mw)):=by simp [World.cell?,hB4]
             obtain ⟨oa,oc,rfl⟩:∃ oa oc,ov=.slice oa 0 oc:=by
               obtain ⟨rows,⟨_,hv⟩,_⟩:=hll
               rw [hch] at hv
               rcases hv with ⟨h,_⟩ | ⟨g,cap,cur,h,_⟩ <;> exact ⟨_,_,h⟩
             obtain ⟨w5,hr5,hv5,hg5⟩:=hs4.vals.store (by omega) ht (by simp) htl hsk (x:=(ownP n gs (t0::r)).2.1) (hvt.symm:(ownP n gs (t0::r)).2.1=vT n gs (t0::r)) (by have:=ov_bd hn.1 gs (t0::r); unfold ov at this; omega) (by have:=ov_bd hn.1 gs (t0::r); unfold ov at this; omega)))
        refine ⟨rfl,_,results_tmp (t:=4) rfl _ _ _,?_,(hs4.vals_put hv5 hg5).mono (by omega) (by omega),(k2.trans (Kx.of_ext ex6)).trans (kx_grown hg5 (.inr rfl))⟩
        rw [hvt]
        rfl
      · obtain ⟨c0,cs,hcs⟩:∃ c0 cs,chL n (t0::r)=c0::cs:=by
          cases h:chL n (t0::r) with
          | nil=>exact absurd h hch
          | cons a b=>exact ⟨a,b,rfl⟩
        have hvt:=vT_eq gs hn.2 ht
        rw [if_neg hch,hcs] at hvt
        have hkid:∀ c∈c0::cs,isB n (c::t0::r):=fun c hc=>isB_kid ht (by rw [hcs]; exact hc)
        have hcl:cs.length≤6:=by
          have:=chT_len (t0::r) n
          have h2:(chT (t0::r) n).length=(chL n (t0::r)).length:=List.length_map ..
          rw [h2,hcs,List.length_cons] at this
          omega
        have hL:((c0::cs).map (·::t0::r)).length=cs.length+1:=by simp
        have hgt0:(0:Int) < (cs.length:Int)+1:=by omega
        have hge1:(1:Int)≤(cs.length:Int)+1:=by omega
        gi_wp2_with (first
          | (gi_at_call 75; refine (callsIn_wide.2 c75).mono ?_; rintro e w1 ⟨⟨s,rfl,hsk⟩,he1⟩
             have hB1:=(he1.block B hBlt).trans hcb
             have g4:w1.cell? ⟨B,4,none⟩=some (.map (some Mw)):=by simp [World.cell?,hB1]
             have hown1:w1.ownsMap Tryz.prog 9 (plainElem Tryz.prog 3) Mw nw D:=by obtain ⟨es,clock,h1,h2⟩:=hown; exact ⟨es,clock,(he1.block _ hMw).trans h1,h2⟩
             obtain ⟨v0,ps0,hrun,hv0⟩:=hown1.look_ok (Go.Maps.string_keyed Tryz.underlying9) Tryz.underlying95 (Tryz.zeroValue3 w1) (plainElem_int Tryz.underlying3 (lit_wf (x:=0) (by omega) (by omega))) (key_of htl hsk)
             rw [hhas] at hrun)
          | (gi_at_call 65; refine (callsIn_wide.2 (c65 w1 he1)).mono ?_; rintro e w2 ⟨av,rfl,hav,hs2,hk2⟩
             clear hrun hv0
             obtain ⟨sv,rfl,hsl,haw⟩:=hav
             obtain ⟨sa,sl,sc,rfl⟩:∃ sa sl sc,sv=.slice sa sl sc:=hsl.slice
             have ex5:=own_store5 (w:=w2) (v0:=.int .i64 (ownP n gs (t0::r)).1.1) (v1:=.int .i64 (ownP n gs (t0::r)).1.2.1) (v2:=.int .i64 (ownP n gs (t0::r)).1.2.2.1) (v3:=.slice sa sl sc) (v4:=.int .i64 (ownP n gs (t0::r)).1.2.2.2.2)
             have nA:=own_new w2 #[.int .i64 0,.int .i64 0,.int .i64 0,.slice none 0 0,.int .i64 0] 49
             simp only at ex5
             obtain ⟨wA,hwA⟩:∃ wA,w2.alloc (.cells #[.int .i64 0,.int .i64 0,.int .i64 0,.slice none 0 0,.int .i64 0] 49)=wA:=⟨_,rfl⟩
             rw [hwA] at ex5 nA
             have a0:=nA.cell (i:=0) (by simp)
             have a1:=nA.cell (i:=1) (by simp)
             have a2:=nA.cell (i:=2) (by simp)
             have a3:=nA.cell (i:=3) (by simp)
             have a4:=nA.cell (i:=4) (by simp)
             simp at a0 a1 a2 a3 a4
             have az:=nA.frozen
             have k2:Kx (Xm Mv Mw) W w2:=(Kx.of_ext he1).trans hk2
             have hti2:=hti.keep k2 hx
             obtain ⟨gv2,bv2,hB2,_,_⟩:=id hs2.cell
             have hBlt2:B < w2.heap.size:=(Array.getElem?_eq_some_iff.1 hB2).1)
          | (gi_at_call 66; refine (callsIn_wide.2 (children_ok ⟨by omega,hn.2⟩ ((ex5.block B hBlt2).trans hB2) ht (hti2.keep (Kx.of_ext (X:=fun _=>False) ex5) id))).mono ?_; rintro e w4 ⟨ov,rfl,hll,he4⟩
             have ex6:=ex5.trans he4
             have hs4:=hs2.ext ex6
             have hB4:=(ex6.block B hBlt2).trans hB2
             have g5:w4.cell? ⟨B,4,none⟩=some (.map (some Mw)):=by simp [World.cell?,hB4]
             have hb6:=ex5.size
             have hMv2:=hs2.votes.lt
             have hMw2:=hs2.vals.lt
             rw [hcs] at hll
             obtain ⟨g,cap,rfl,hg1,hcap,hget⟩:=hll.get hL (by omega)
             obtain ⟨cv0,cb0,hc0,hk0,hb0⟩:=hget w4 hll 0 (by rw [hL]; omega)
             have hx0:¬ Xm Mv Mw cb0:=by rintro (h | h) <;> omega
             have c48:=ih (c0::t0::r) (hkid c0 (by simp)) (by simp) (by rw [List.length_cons]; omega) (nv:=nv+1) (nw:=nw) (by omega) (by omega) hs4 (fun b h=>Nat.lt_of_lt_of_le (hXl b h) (Nat.le_trans k2.size ex6.size)) hk0.si hx0)
          | (gi_at_call 48; refine (callsIn_wide.2 c48).mono ?_; rintro e w6 ⟨rfl,hs6,hk6⟩))
        all_goals
          refine wpIn_wide.2 (loop_inv (R:=fun m a w=>∃ i:Nat,i≤cs.length∧m=cs.length - i∧SX X n gs F B Mv Mw (nv+1+A * (i+1)) (nw+A * (i+1)) w∧Kx (Xm Mv Mw) w4 w∧∃ sv,(0 < cs.length→sv=.slice (some ⟨g,1,none⟩) cs.length (cap - 1))∧FrV1 B (.slice (some ⟨tb,off,none⟩) (r.length+1) tc) s (ownP n gs (t0::r)).2.1 (minT n gs (t0::r) (c0::cs.take i)) sv cs.length i a) (m:=cs.length) ?step1 ?init1)
          case init1 =>
            refine ⟨0,by omega,by omega,hs6.mono (by omega) (by omega),hk6,_,?_,FrV1.mk⟩
            intro h
            first | rfl | (exfalso; omega)
          case step1 =>
            rintro m a w ⟨i,hi,rfl,hsw,hkw,sv,hsv,hfr⟩
            refine hfr.elim ?_
            intro x2 x3 x4 x6 x7 x8 x10 x12 x13 x14 x15 x16 x17 x18 x19 x20 x21 x22 x23 x24 x25 x26 x27 x28 x29 x30 x31 x32 x33 x34 x35 x36 x37 x38 x39 x40 x41 x42 x43 x44 x48 x49 x50 x51 x52 x53 x54 x55 x56 x57 x58 x59 x60 x61 x62 x63 x64 x65 x66 hfe
            subst hfe
            refine (wpIn_wide (n:=0)).1 ?_
            have hllw:=hll.keep hkw fun b h=>by rcases h with h | h <;> omega
            rcases Nat.lt_or_ge i cs.length with hlt | hge
            · have hlt':(i:Int) < (cs.length:Int):=by omega
              obtain rfl:=hsv (by omega)
              have hwi:IntKind.i64.wrap ((i:Int)+1)=((i+1:Nat):Int):=by rw [hin _ (by omega) (by omega)]; omega
              obtain ⟨cv,cb,hc,hkv,hbv⟩:=hget w hllw (1+i) (by rw [hL]; omega)
              have hel:((c0::cs).map (·::t0::r))[1+i]'(by rw [hL]; omega)=cs[i]::t0::r:=by
                rw [List.getElem_map]
                simp only [Nat.add_comm 1 i,List.getElem_cons_succ]
              rw [hel] at hkv
              have hxv:¬ Xm Mv Mw cb:=by rintro (h | h) <;> omega
              have hm7:A * (i+1)≤A * 6:=Nat.mul_le_mul_left _ (by omega)
              have hms:A * (i+1+1)=A * (i+1)+A:=Nat.mul_succ _ _
              have c48:=ih (cs[i]::t0::r) (hkid _ (List.mem_cons_of_mem _ (List.getElem_mem hlt))) (by simp) (by rw [List.length_cons]; omega) (nv:=nv+1+A * (i+1)) (nw:=nw+A * (i+1)) (by omega) (by omega) hsw (fun b h=>Nat.lt_of_lt_of_le (hXl b h) (Nat.le_trans k2.size (Nat.le_trans ex6.size hkw.size))) hkv.si hxv
              have hsnoc:=minT_snoc n gs (t0::r) c0 (cs.take i) cs[i]
              have htk:cs.take (i+1)=cs.take i++[cs[i]]:=(List.take_append_getElem hlt).symm
              rw [List.cons_append,← htk,← min_if] at hsnoc
              first
              | (exfalso; omega)
              | (gi_wp2_with (first
                  | (gi_at_call 48; refine (callsIn_wide.2 c48).mono ?_; rintro e w7 ⟨rfl,hs7,hk7⟩))
                 refine ⟨cs.length - (i+1),by omega,i+1,by omega,rfl,hs7.mono (by omega) (by omega),hkw.trans hk7,_,fun _=>rfl,?_⟩
                 rw [hsnoc]
                 exact FrV1.mk)
            · obtain rfl:i=cs.length:=by omega
              have hge':¬ ((cs.length:Nat):Int) < (cs.length:Int):=by omega
              have hm7:A * (cs.length+1)≤A * 7:=Nat.mul_le_mul_left _ (by omega)
              rw [List.take_length]
              obtain ⟨gv8,bv8,hB8,_,_⟩:=id hsw.cell
              have g8:w.cell? ⟨B,4,none⟩=some (.map (some Mw)):=by simp [World.cell?,hB8]
              have hval:max (ownP n gs (t0::r)).2.1 (minT n gs (t0::r) (c0::cs))=vT n gs (t0::r):=by rw [max_if,hvt]; rfl
              clear hvt
              obtain ⟨w5,hr5,hv5,hg5⟩:=hsw.vals.store (by omega) ht (by simp) htl hsk (x:=vT n gs (t0::r)) rfl (by omega) (by omega)
              gi_wp2
              exact ⟨rfl,_,results_tmp (t:=4) rfl _ _ _,rfl,(hsw.vals_put hv5 hg5).mono (by omega) (by omega),((k2.trans (Kx.of_ext ex6)).trans hkw).trans (kx_grown hg5 (.inr rfl))⟩
end Go.Proofs.YtieoleabnjdkfaaGreat
set_option linter.unusedSimpArgs false
set_option linter.unusedVariables false
set_option linter.unnecessarySimpa false
namespace Go.Proofs.YtieoleabnjdkfaaGreat
open Go Go.Proofs Go.RowKit Go.X
open Go.Maps (Keyed)
attribute [local go_sem] Oper.semAt_some
theorem con47 {n:Int} {gs:List Grp} (hgs:GsOK gs) {F:Nat→Prop} {W:World} {gv:Value} (hn:wI n) (hg:GA F W gv gs) :
    Calls Tryz.prog 47 #[.int .i64 n,gv] W fun e w'=>e=.returned (.bool (pileB n gs))∧Ext W w':=by
  have hwf:(stF F W).WF:=stF_wf hg.lt
  refine Calls.mono (sim47.2 (n,gs,()) (pileB n gs) (d47_eq hgs) (stF F W) hwf [.int .i64 n,gv] rfl fun i e he=>?_) fun e w' ⟨v,S',h1,h2,h3,h4,_⟩=>?_
  · match i,he with
    | 0,he=>cases he; exact ⟨_,rfl,sr_int (.inl rfl) hn⟩
    | 1,he=>cases he; exact ⟨_,rfl,hg.sr fun b hb=>hb⟩
    | i+2,he=>cases he
  · subst h1 h2
    have h5:SR Tryz.prog .bool S' .sh (0,[0]) (pileB n gs) v:=h4
    have h6:v=.bool (pileB n gs):=by have:=h5.1; simpa [Rel,vcells,Ty.agg] using this
    exact ⟨by rw [h6],frm_ext h3⟩
theorem ext_kx {X:Nat→Prop} {W w w':World} (h:Ext W w) (hk:Kx X w w') (hX:∀ b,X b→W.heap.size≤b):Ext W w' :=
  ⟨hk.os.trans h.os,hk.tape.trans h.tape,hk.output.trans h.output,Nat.le_trans h.size hk.size,fun b hb=>(hk.block b (Nat.lt_of_lt_of_le hb h.size) fun hx=>by have:=hX b hx; omega).trans (h.block b hb)⟩
def FrB1 (B n:Nat) (wn bs:Int) (i:Nat) (a:Act):Prop:=∃ (x0 x1 x3 x4 x5 x6 x9 x10 x11 x12 x13 x14 x15 x16 x17 x18 x19 x20 x21 x22 x23 x24 x25 x28 x29 x30 x31 x32 x33 x34 x35 x36 x37 x38 x39 x40 x41:Value),a={ tmps:=#[x0,x1,.int .i64 wn,x3,x4,x5,x6,.int .i64 bs,.pointer (some ⟨B,0,none⟩),x9,x10,x11,x12,x13,x14,x15,x16,x17,x18,x19,x20,x21,x22,x23,x24,x25,.int .i64 (n:Int),.int .i64 (i:Int),x28,x29,x30,x31,x32,x33,x34,x35,x36,x37,x38,x39,x40,x41],defers:=[] }
theorem FrB1.mk {B n:Nat} {wn bs:Int} {i:Nat} {x0 x1 x3 x4 x5 x6 x9 x10 x11 x12 x13 x14 x15 x16 x17 x18 x19 x20 x21 x22 x23 x24 x25 x28 x29 x30 x31 x32 x33 x34 x35 x36 x37 x38 x39 x40 x41:Value}:FrB1 B n wn bs i { tmps:=#[x0,x1,.int .i64 wn,x3,x4,x5,x6,.int .i64 bs,.pointer (some ⟨B,0,none⟩),x9,x10,x11,x12,x13,x14,x15,x16,x17,x18,x19,x20,x21,x22,x23,x24,x25,.int .i64 (n:Int),.int .i64 (i:Int),x28,x29,x30,x31,x32,x33,x34,x35,x36,x37,x38,x39,x40,x41],defers:=[] }:=⟨x0,x1,x3,x4,x5,x6,x9,x10,x11,x12,x13,x14,x15,x16,x17,x18,x19,x20,x21,x22,x23,x24,x25,x28,x29,x30,x31,x32,x33,x34,x35,x36,x37,x38,x39,x40,x41,rfl⟩
theorem FrB1.elim {B n:Nat} {wn bs:Int} {i:Nat} {a:Act} {P:Prop} (h:FrB1 B n wn bs i a) (k:∀ (x0 x1 x3 x4 x5 x6 x9 x10 x11 x12 x13 x14 x15 x16 x17 x18 x19 x20 x21 x22 x23 x24 x25 x28 x29 x30 x31 x32 x33 x34 x35 x36 x37 x38 x39 x40 x41:Value),a={ tmps:=#[x0,x1,.int .i64 wn,x3,x4,x5,x6,.int .i64 bs,.pointer (some ⟨B,0,none⟩),x9,x10,x11,x12,x13,x14,x15,x16,x17,x18,x19,x20,x21,x22,x23,x24,x25,.int .i64 (n:Int),.int .i64 (i:Int),x28,x29,x30,x31,x32,x33,x34,x35,x36,x37,x38,x39,x40,x41],defers:=[] }→P):P:=by
  obtain ⟨x0,x1,x3,x4,x5,x6,x9,x10,x11,x12,x13,x14,x15,x16,x17,x18,x19,x20,x21,x22,x23,x24,x25,x28,x29,x30,x31,x32,x33,x34,x35,x36,x37,x38,x39,x40,x41,e⟩:=h
  exact k x0 x1 x3 x4 x5 x6 x9 x10 x11 x12 x13 x14 x15 x16 x17 x18 x19 x20 x21 x22 x23 x24 x25 x28 x29 x30 x31 x32 x33 x34 x35 x36 x37 x38 x39 x40 x41 e
def bsT (n:Nat) (gs:List Grp) (wn:Int) (i:Nat):Int:=(setTo n gs wn i).1
theorem bsT_succ (n:Nat) (gs:List Grp) (wn:Int) (i:Nat):bsT n gs wn (i+1)=if (i:Int)=wn then bsT n gs wn i else min (bsT n gs wn i) (vT n gs [(i:Int)]):=by
  unfold bsT
  rw [setTo_succ]
  unfold setStep
  split
  · rfl
  · rw [min_if]; rfl
set_option maxRecDepth 100000 in
set_option maxHeartbeats 8000000 in
theorem best_ok {n:Int} (hwn:wI n) {gs:List Grp} (hgs:GsOK gs) {F:Nat→Prop} {W:World} {gv:Value} (hg:GA F W gv gs) {wn:Int} :
    Calls Tryz.prog 18 #[.int .i64 n,gv,.int .i64 wn] W fun e W'=>e=.returned (.int .i64 (setP n.toNat gs wn).1)∧Ext W W':=by
  have hin:∀ c:Int,0≤c→c≤1000→IntKind.i64.wrap c=c:=fun c h0 h1=>w_id (by omega) (by omega)
  refine (callsIn_wide (n:=0)).1 (callsIn_of_wp Tryz.func18 rfl trivial ?_ rfl)
  simp only [Tryz.ntmps18,List.size_toArray,List.length_cons,List.length_nil,Nat.reduceAdd,Nat.reduceSub,Array.replicate_succ,Array.replicate_zero,List.push_toArray,List.append_toArray,List.nil_append,List.cons_append]
  have fd:Fence.wide.depth=none:=rfl
  have f47:Fence.wide.fn 47:=trivial
  have f37:Fence.wide.fn 37:=trivial
  have f48:Fence.wide.fn 48:=trivial
  have c47:=con47 hgs hwn hg
  have hgv:∃ ga gl gc,gv=.slice ga gl gc:=by
    obtain ⟨_,_,a,len,cap,h,_⟩:=hg.rel.1
    exact ⟨a,len,cap,by simpa [vcells,Ty.agg] using h⟩
  obtain ⟨ga,gl,gc,rfl⟩:=hgv
  cases hpb:pileB n gs with
  | false =>
    rw [hpb] at c47
    have hres:(setP n.toNat gs wn).1=0:=by
      unfold setP
      rw [if_neg fun h=>by
        have h1:=(pileB_ok h.1).1
        have e:((n.toNat:Nat):Int)=n:=by omega
        rw [e,hpb] at h
        cases h.1]
    gi_wp2_with (first
      | (gi_at_call 47; refine (callsIn_wide.2 c47).mono ?_; rintro e w1 ⟨rfl,he1⟩))
    exact ⟨rfl,_,results_tmp (t:=6) rfl _ _ _,by rw [hres]; rfl,he1⟩
  | true =>
    rw [hpb] at c47
    obtain ⟨h1,h7,hp⟩:=pileB_ok hpb
    by_cases hlo:wn < 0
    · have hres:(setP n.toNat gs wn).1=0:=by
        unfold setP
        rw [if_neg fun h=>by omega]
      gi_wp2_with (first
        | (gi_at_call 47; refine (callsIn_wide.2 c47).mono ?_; rintro e w1 ⟨rfl,he1⟩))
      exact ⟨rfl,_,results_tmp (t:=6) rfl _ _ _,by rw [hres]; rfl,he1⟩
    by_cases hhi:n≤wn
    · have hres:(setP n.toNat gs wn).1=0:=by
        unfold setP
        rw [if_neg fun h=>by omega]
      gi_wp2_with (first
        | (gi_at_call 47; refine (callsIn_wide.2 c47).mono ?_; rintro e w1 ⟨rfl,he1⟩))
      exact ⟨rfl,_,results_tmp (t:=6) rfl _ _ _,by rw [hres]; rfl,he1⟩
    obtain ⟨n,rfl⟩:∃ m:Nat,n=(m:Int):=⟨n.toNat,by omega⟩
    have hres:(setP n gs wn).1=max 0 (bsT n gs wn n):=by
      unfold setP
      rw [if_pos ⟨hpb,by omega,by omega⟩,max_if]
      show (if (setTo n gs wn n).1 < 0 then 0 else (setTo n gs wn n).1)=if 0 < (setTo n gs wn n).1 then (setTo n gs wn n).1 else 0
      split <;> split <;> omega
    rw [Int.toNat_natCast,hres]
    clear hres
    gi_wp2_with (first
      | (gi_at_call 47; refine (callsIn_wide.2 c47).mono ?_; rintro e w1 ⟨rfl,he1⟩)
      | (gi_at_call 37; refine (callsIn_wide.2 (newSearch_ok ⟨by omega,by omega⟩ hgs (hg.keep (Kx.of_ext (X:=fun _=>False) he1) fun _ _ h=>h))).mono ?_; rintro e w2 ⟨rfl,hs2,he2⟩))
    have hs1:=he1.size
    generalize hM:w1.heap.size=M at hs2 hs1
    refine wpIn_wide.2 (loop_inv (R:=fun m a w=>∃ i:Nat,i≤n∧m=n - i∧SQ n gs F (M+2) M (M+1) (2097152 * i) (2097152 * i) w∧Kx (Xm M (M+1)) w2 w∧FrB1 (M+2) n wn (bsT n gs wn i) i a) (m:=n) ?step1 ?init1)
    case init1 =>
      subst hM
      exact ⟨0,by omega,by omega,hs2,Kx.refl _ _,FrB1.mk⟩
    case step1 =>
      rintro m a w ⟨i,hi,rfl,hsw,hkw,hfr⟩
      refine hfr.elim ?_
      intro x0 x1 x3 x4 x5 x6 x9 x10 x11 x12 x13 x14 x15 x16 x17 x18 x19 x20 x21 x22 x23 x24 x25 x28 x29 x30 x31 x32 x33 x34 x35 x36 x37 x38 x39 x40 x41 hfe
      subst hfe
      refine (wpIn_wide (n:=0)).1 ?_
      have hMw:=hsw.votes.lt
      have hMw2:=hsw.vals.lt
      rcases Nat.lt_or_ge i n with hlt | hge
      · have hlt':(i:Int) < (n:Int):=by omega
        have hwi:IntKind.i64.wrap ((i:Int)+1)=((i+1:Nat):Int):=by rw [hin _ (by omega) (by omega)]; omega
        have hbs:=bsT_succ n gs wn i
        by_cases hiw:(i:Int)=wn
        · subst hiw
          rw [if_pos rfl] at hbs
          gi_wp2
          exact ⟨n - (i+1),by omega,i+1,by omega,rfl,hsw.mono (by omega) (by omega),by rw [hbs]; exact FrB1.mk⟩
        · rw [if_neg hiw] at hbs
          have eA:=Ext.alloc w (.cells #[.int .i64 (i:Int)] 3)
          have hki:KI (w.alloc (.cells #[.int .i64 (i:Int)] 3)) (.slice (some ⟨w.heap.size,0,none⟩) 1 1) [(i:Int)] w.heap.size :=
            ⟨by simp,fun x hx=>by rw [List.mem_singleton.1 hx]; exact hin _ (by omega) (by omega),1,_,rfl,Nat.le_refl _,World.alloc_heap_new _ _,fun j hj=>by have:j=0:=(by simpa using hj); subst this; rfl⟩
          have c48:=value_ok (n:=n) ⟨by omega,by omega⟩ hp 7 [(i:Int)] (isB_one hlt) (by simp) (by simp; omega) (nv:=2097152 * i) (nw:=2097152 * i) (by omega) (by omega) (hsw.ext eA) (fun b h=>by have:=eA.size; rcases h with h | h <;> omega) hki.si (by rintro (h | h) <;> omega)
          gi_wp2_with (first
            | (gi_at_call 48; refine (callsIn_wide.2 c48).mono ?_; rintro e w7 ⟨rfl,hs7,hk7⟩))
          exact ⟨n - (i+1),by omega,i+1,by omega,rfl,hs7.mono (by omega) (by omega),(hkw.trans (Kx.of_ext eA)).trans hk7,by rw [hbs]; exact FrB1.mk⟩
      · obtain rfl:i=n:=by omega
        have hge':¬ ((i:Nat):Int) < (i:Int):=by omega
        gi_wp2
        exact ⟨rfl,_,results_tmp (t:=6) rfl _ _ _,rfl,ext_kx (he1.trans he2) hkw fun b h=>by rcases h with h | h <;> omega⟩
end Go.Proofs.YtieoleabnjdkfaaGreat
set_option linter.unusedSimpArgs false
set_option linter.unusedVariables false
namespace Go.Proofs.YtieoleabnjdkfaaGreat
open Go Go.Proofs Go.RowKit Go.X
def AR (base:Nat) (v:Value) (l:List Asn) (w:World):Prop:=∃ ps:List (Asn × Value),l=ps.map (·.1)∧w.ownsRow base 49 5 v ps.length (ps.flatMap fun p=>AC p.1 p.2)∧∀ p∈ps,SL (fun b=>b < base) w p.2 p.1.2.2.2.1∧AW p.1
theorem AR.nil (base:Nat) (w:World):AR base (.slice none 0 0) [] w:=⟨[],rfl,World.ownsRow_nil _ _ _ _,fun p hp=>absurd hp (by simp)⟩
theorem flat5_len (ps:List (Asn × Value)):(ps.flatMap fun p=>AC p.1 p.2).length=ps.length * 5:=by
  induction ps with
  | nil=>rfl
  | cons p ps ih=>rw [List.flatMap_cons,List.length_append,ih,List.length_cons]; simp [AC]; omega
theorem SL.same {base:Nat} {w w':World} {v:Value} {xs:List Int} (h:SL (fun b=>b < base) w v xs) (hb:∀ b,base≤b→b < w.heap.size→w'.heap[b]? = w.heap[b]?):SL (fun b=>b < base) w' v xs :=
  h.imp id fun ⟨b,h1,h2⟩=>⟨b,h1.same (hb b (by simpa using h2) h1.lt),h2⟩
theorem AR.same {base:Nat} {v:Value} {l:List Asn} {w w':World} (h:AR base v l w) (hb:∀ b,base≤b→b < w.heap.size→w'.heap[b]? = w.heap[b]?):AR base v l w':=by
  obtain ⟨ps,rfl,h1,h2⟩:=h
  exact ⟨ps,rfl,row_same h1 fun b e=>hb b (h1.lt b e).1 (h1.lt b e).2,fun p hp=>⟨(h2 p hp).1.same hb,(h2 p hp).2⟩⟩
theorem AR.ext {base:Nat} {v:Value} {l:List Asn} {w w':World} (h:AR base v l w) (he:Ext w w'):AR base v l w':=h.same fun b _ hb=>he.block b hb
theorem AR.keep {base:Nat} {v:Value} {l:List Asn} {w w':World} {X:Nat→Prop} (h:AR base v l w) (hk:Kx X w w') (hX:∀ b,X b→b < base):AR base v l w':=h.same fun b hb hl=>hk.block b hl fun hx=>by have:=hX b hx; omega
theorem row_lower {w:World} {base base':Nat} {e:TypeId} {size:Nat} {v:Value} {n:Nat} {xs:List Value} (h:w.ownsRow base e size v n xs) (hb:base'≤base):w.ownsRow base' e size v n xs:=by
  obtain ⟨h1,h2⟩:=h
  refine ⟨h1,h2.imp id ?_⟩
  rintro ⟨g,cap,cur,rfl,r2,r3⟩
  exact ⟨g,cap,cur,rfl,Nat.le_trans hb r2,r3⟩
theorem AR.lower {base base':Nat} {v:Value} {l:List Asn} {w:World} (h:AR base v l w) (hb:base'≤base):AR base' v l w:=by
  obtain ⟨ps,rfl,h1,h2⟩:=h
  exact ⟨ps,rfl,row_lower h1 hb,fun p hp=>⟨(h2 p hp).1.imp id fun ⟨b,q1,q2⟩=>⟨b,q1,fun h=>q2 (Nat.lt_of_lt_of_le h hb)⟩,(h2 p hp).2⟩⟩
theorem row_cell {w:World} {base:Nat} {e:TypeId} {size g cap:Nat} {n:Nat} {xs:List Value} (h:w.ownsRow base e size (.slice (some ⟨g,0,none⟩) n cap) n xs) {j:Nat} {u:Value} (hu:xs[j]? = some u):w.cell? ⟨g,j,none⟩=some u:=by
  obtain ⟨h1,h2⟩:=h
  rcases h2 with ⟨h,_⟩ | ⟨g',cap',cur,e',r2,r3,r4,r5,r6,r7⟩
  · cases h
  · obtain rfl:g=g':=by simp at e'; exact e'.1
    have hj:j < n * size:=by rw [← h1]; exact (List.getElem?_eq_some_iff.1 hu).1
    rw [← r7,List.getElem?_take,if_pos hj,Array.getElem?_toList] at hu
    simp [World.cell?,r3,hu]
theorem AC_one {a:Asn} {sv:Value} (h:∃ sa sl sc,sv=.slice sa sl sc):∀ u∈AC a sv,u.oneCell'=true:=by
  obtain ⟨sa,sl,sc,rfl⟩:=h
  intro u hu
  unfold AC at hu
  simp at hu
  rcases hu with rfl | rfl | rfl | rfl | rfl <;> rfl
theorem flat5_one {base:Nat} {w:World} {ps:List (Asn × Value)} (h:∀ p∈ps,SL (fun b=>b < base) w p.2 p.1.2.2.2.1∧AW p.1):∀ u∈ps.flatMap (fun p=>AC p.1 p.2),u.oneCell'=true:=fun u hu=>by
  obtain ⟨p,hp,hu⟩:=List.mem_flatMap.1 hu
  exact AC_one (h p hp).1.slice u hu
theorem info49:(Tryz.prog.info? 49).map (fun i=>(i.zero,i.size,i.bytes))=some (some (.agg #[.int .i64 0,.int .i64 0,.int .i64 0,.slice none 0 0,.int .i64 0]),5,56):=by kernel_rfl
theorem kept_grown {base:Nat} {w w':World} {v sv:Value} {xs:List Int} {n:Nat} {rows:List Value} (hrow:w.ownsRow base 49 5 v n rows) (hg:w.grownBy w' v.ownBlock) {B:Nat} (h:SL (fun b=>b < B) w sv xs):SL (fun b=>b < B) w' sv xs:=by
  refine h.imp id fun ⟨b,h1,h2⟩=>⟨b,h1.same (hg.block b h1.lt fun e=>?_),h2⟩
  obtain ⟨_,_,_,cur,_,_,q1,_⟩:=h1
  obtain ⟨_,h2⟩:=hrow
  rcases h2 with ⟨rfl,_⟩ | ⟨g,cap,cur',rfl,_,r3,_⟩
  · cases e
  · have:b=g:=Option.some.inj e
    subst this
    rw [q1] at r3
    cases r3
theorem KI.grown {base:Nat} {w w':World} {v sv:Value} {xs:List Int} {n b:Nat} {rows:List Value} (hrow:w.ownsRow base 49 5 v n rows) (hg:w.grownBy w' v.ownBlock) (h:KI w sv xs b):KI w' sv xs b:=by
  refine h.same (hg.block b h.lt fun e=>?_)
  obtain ⟨_,_,_,cur,_,_,q1,_⟩:=h
  obtain ⟨_,h2⟩:=hrow
  rcases h2 with ⟨rfl,_⟩ | ⟨g,cap,cur',rfl,_,r3,_⟩
  · cases e
  · have:b=g:=Option.some.inj e
    subst this
    rw [q1] at r3
    cases r3
theorem LL.grown {base base':Nat} {w w':World} {v lv:Value} {ts:List (List Int)} {n:Nat} {rows:List Value} (hrow:w.ownsRow base' 49 5 v n rows) (hg:w.grownBy w' v.ownBlock) (h:LL base lv ts w):LL base lv ts w':=by
  obtain ⟨rs,h1,h2⟩:=h
  refine ⟨rs,row_same h1 fun b e=>hg.block b (h1.lt b e).2 fun e2=>?_,fun a ha=>?_⟩
  · obtain ⟨_,k2⟩:=h1
    obtain ⟨_,k3⟩:=hrow
    rcases k2 with ⟨rfl,_⟩ | ⟨g,cap,cur,rfl,_,r3,_⟩
    · cases e
    · rcases k3 with ⟨rfl,_⟩ | ⟨g',cap',cur',rfl,_,r3',_⟩
      · cases e2
      · have e4:g=b:=Option.some.inj e
        have e5:b=g':=Option.some.inj e2
        subst e4 e5
        rw [r3] at r3'
        cases r3'
  · obtain ⟨cv,cb,q1,q2,q3⟩:=h2 a ha
    exact ⟨cv,cb,q1,q2.grown hrow hg,q3⟩
theorem kx_grow {X:Nat→Prop} {W w w':World} {r:Option Nat} (h:Kx X W w) (hg:w.grownBy w' r) (hr:∀ b,r=some b→W.heap.size≤b):Kx X W w' :=
  ⟨hg.os.trans h.os,hg.tape.trans h.tape,hg.output.trans h.output,Nat.le_trans h.size hg.size,fun b hb hx=>(hg.block b (Nat.lt_of_lt_of_le hb h.size) fun e=>by have:=hr b e.symm; omega).trans (h.block b hb hx)⟩
theorem AR.append {base base':Nat} {v:Value} {l l':List Asn} {w:World} {g' cap':Nat} {n':Nat} (h:AR base v l w) (h':AR base' (.slice (some ⟨g',0,none⟩) n' cap') l' w) (hb:base≤base') (hbw:base≤w.heap.size) (hl:l.length+l'.length≤10000000) :
    ∃ v2 w2,(Builtin.append_ #[36,36] 36 #[v,.slice (some ⟨g',0,none⟩) n' cap']).run Tryz.prog w=.ok v2 w2∧AR base v2 (l++l') w2∧w.grownBy w2 v.ownBlock∧(v2.ownBlock=v.ownBlock∨v2.ownBlock=some w.heap.size):=by
  obtain ⟨ps,rfl,h1,h2⟩:=h
  obtain ⟨qs,rfl,h3,h4⟩:=h'
  have hn':n'=qs.length:=by
    obtain ⟨_,h⟩:=h3
    rcases h with ⟨h,_⟩ | ⟨g,cap,cur,e,_⟩
    · cases h
    · simp at e; exact e.2.1
  subst hn'
  rw [List.length_map,List.length_map] at hl
  obtain ⟨i0,hi1,hz0,hz1,hz2⟩:=info_parts info49
  obtain ⟨v2,w2,hr,hown,hg,_,hob⟩:=run_append_own_at (P:=Tryz.prog) w base 36 36 49 i0 _ 5 56 Tryz.underlying36 hi1 hz0 hz1 hz2 rfl (by decide) v ps.length _ h1 ⟨g',0,none⟩ qs.length cap' (qs.flatMap fun p=>AC p.1 p.2) (flat5_len qs)
    (fun j u hu=>by rw [addr_add,Nat.zero_add]; exact row_cell h3 hu) (flat5_one h4) (by unfold maxLen; omega) (by omega) hbw
  refine ⟨v2,w2,hr,⟨ps++qs,by simp,by rw [List.length_append,List.flatMap_append]; exact hown,fun p hp=>?_⟩,hg,hob⟩
  rcases List.mem_append.1 hp with hp | hp
  · exact ⟨kept_grown h1 hg (h2 p hp).1,(h2 p hp).2⟩
  · have h5:=kept_grown h1 hg (h4 p hp).1
    exact ⟨h5.imp id fun ⟨b,q1,q2⟩=>⟨b,q1,fun h=>q2 (Nat.lt_of_lt_of_le h hb)⟩,(h4 p hp).2⟩
theorem AR.one {base:Nat} {a:Asn} {sv:Value} {w:World} (hs:SL (fun b=>b < base) w sv a.2.2.2.1) (hw:AW a) (hb:base≤w.heap.size) :
    AR base (.slice (some ⟨w.heap.size,0,none⟩) 1 1) [a] (w.alloc (.cells #[.int .i64 a.1,.int .i64 a.2.1,.int .i64 a.2.2.1,sv,.int .i64 a.2.2.2.2] 49)) :=
  ⟨[(a,sv)],rfl,⟨rfl,.inr ⟨w.heap.size,1,_,rfl,hb,World.alloc_heap_new _ _,Nat.le_refl _,by decide,rfl,rfl⟩⟩,fun p hp=>by
    rw [List.mem_singleton.1 hp]
    exact ⟨hs.same fun b _ hl=>(Ext.alloc w _).block b hl,hw⟩⟩
theorem AR.row {base:Nat} {v:Value} {l:List Asn} {w:World} (h:AR base v l w) (h0:l ≠ []):∃ g cap,v=.slice (some ⟨g,0,none⟩) l.length cap∧base≤g∧g < w.heap.size:=by
  obtain ⟨ps,rfl,⟨h1,h2⟩,_⟩:=h
  rcases h2 with ⟨_,h⟩ | ⟨g,cap,cur,rfl,r2,r3,_⟩
  · cases ps with
    | nil=>exact absurd rfl h0
    | cons p ps=>cases h
  · exact ⟨g,cap,by rw [List.length_map],r2,(Array.getElem?_eq_some_iff.1 r3).1⟩
theorem lT_ne {n:Nat} (gs:List Grp) (hn:n≤7):∀ (k:Nat) (t:List Int),isB n t→n < k+t.length→lT n gs t ≠ []
  | 0,t,ht,hk=>by have:=isB_le ht; omega
  | k+1,t,ht,hk=>by
    rw [lT_eq gs hn ht]
    split
    · simp
    · rename_i h
      cases hc:chL n t with
      | nil=>rw [vT_eq gs hn ht,if_pos hc] at h; exact absurd rfl h
      | cons c cs =>
        rw [List.flatMap_cons]
        have:=lT_ne gs hn k (c::t) (isB_kid ht (by rw [hc]; simp)) (by rw [List.length_cons]; omega)
        intro he
        exact this (List.append_eq_nil_iff.1 he).1
theorem lT_len {n:Nat} (hn:n≤7) (gs:List Grp) {t:List Int} (ht:isB n t):(lT n gs t).length≤823543:=Nat.le_trans (valP_len hn gs 10 t ht) (pow7 hn)
end Go.Proofs.YtieoleabnjdkfaaGreat
