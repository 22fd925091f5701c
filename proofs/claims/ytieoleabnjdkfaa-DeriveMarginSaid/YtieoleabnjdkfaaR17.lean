/- Part 17 of what stands below the statement. -/
import Derived.Laws.CopyRow
import Derived.Lib.SliceRun
import Derived.Test.YtieoleabnjdkfaaRows
import Derived.ProofKit
import Derived.Test.YtieoleabnjdkfaaR16
set_option linter.unusedSimpArgs false
set_option linter.unusedVariables false
namespace Go.Proofs.Ytieoleabnjdkfaa
open Go Go.Proofs Go.RowKit Go.X
def d0E:Asn × Value:=(zA,undef)
def RG (base g cap:Nat) (cs:List (Asn × Value)) (w:World):Prop:=base≤g∧(∃ cur,w.heap[g]? = some (.cells cur 50 (0,0))∧cur.size=cap * 5∧cs.length≤cap∧cap≤maxLen∧∀ i,i < cs.length→∀ j,j < 5→cur[i * 5+j]? = (AC (cs.getD i d0E).1 (cs.getD i d0E).2)[j]?)∧∀ p∈cs,okE base w p
theorem AG.rg {base g cap:Nat} {cs:List (Asn × Value)} {w:World} (h:AG base g cap cs w):RG base g cap cs w:=by
  obtain ⟨⟨h1,h2⟩,h3⟩:=h
  rcases h2 with ⟨h,_⟩ | ⟨g',cap',cur,e,r2,r3,r4,r5,r6,r7⟩
  · cases h
  obtain ⟨rfl,rfl⟩:g=g'∧cap=cap':=by simp at e; exact e
  refine ⟨r2,⟨cur,r3,r6,r4,r5,fun i hi j hj=>?_⟩,h3⟩
  have hlt:i * 5+j < cs.length * 5:=by omega
  have:=congrArg (fun l=>l[i * 5+j]?) r7
  simp only [List.getElem?_take,if_pos hlt,Array.getElem?_toList] at this
  rw [this,flat_get _ _ hlt,show (i * 5+j) / 5=i by omega,show (i * 5+j) % 5=j by omega]
  rfl
theorem RG.ag {base g cap:Nat} {cs:List (Asn × Value)} {w:World} (h:RG base g cap cs w):AG base g cap cs w:=by
  obtain ⟨r2,⟨cur,r3,r6,r4,r5,r7⟩,h3⟩:=h
  refine ⟨⟨flat5_len _,.inr ⟨g,cap,cur,rfl,r2,r3,r4,r5,r6,?_⟩⟩,h3⟩
  apply List.ext_getElem?
  intro t
  rw [List.getElem?_take]
  split
  · rename_i ht
    rw [Array.getElem?_toList,flat_get _ _ ht]
    have:=r7 (t / 5) (by omega) (t % 5) (by omega)
    rw [show t / 5 * 5+t % 5=t by omega] at this
    exact this
  · rename_i ht
    rw [List.getElem?_eq_none (by rw [flat5_len]; omega)]
theorem RG.ext {base g cap:Nat} {cs:List (Asn × Value)} {w w':World} (h:RG base g cap cs w) (he:Ext w w'):RG base g cap cs w':=by
  obtain ⟨r2,⟨cur,r3,r6⟩,h3⟩:=h
  exact ⟨r2,⟨cur,(he.block g (Array.getElem?_eq_some_iff.1 r3).1).trans r3,r6⟩,fun p hp=>⟨(h3 p hp).1.same fun b _ hb=>he.block b hb,(h3 p hp).2⟩⟩
theorem RG.cell {base g cap:Nat} {cs:List (Asn × Value)} {w:World} (h:RG base g cap cs w) {i j:Nat} (hi:i < cs.length) (hj:j < 5):w.cell? ⟨g,i * 5+j,none⟩=(AC (cs.getD i d0E).1 (cs.getD i d0E).2)[j]?:=by
  obtain ⟨_,⟨cur,r3,_,_,_,r7⟩,_⟩:=h
  rw [← r7 i hi j hj]
  simp [World.cell?,r3]
theorem RG.frozen {base g cap:Nat} {cs:List (Asn × Value)} {w:World} (h:RG base g cap cs w) (o:Nat):w.frozen? ⟨g,o,none⟩=false:=by
  obtain ⟨_,⟨cur,r3,_⟩,_⟩:=h
  simp [World.frozen?,r3]
theorem RG.so {base g cap:Nat} {cs:List (Asn × Value)} {w:World} (h:RG base g cap cs w) {i:Nat} (hi:i < cs.length):SO w (cs.getD i d0E).2 (cs.getD i d0E).1.2.2.2.1:=by
  have hm:cs.getD i d0E∈cs:=by rw [List.getD_eq_getElem?_getD,List.getElem?_eq_getElem hi]; exact List.getElem_mem hi
  exact (h.2.2 _ hm).1.so
theorem set5_kx {w:World} {g o:Nat} {v0 v1 v2 v3 v4:Value}:Kx (fun b=>b=g) w (((((w.setCell ⟨g,o,none⟩ v0).setCell ⟨g,o+1,none⟩ v1).setCell ⟨g,o+2,none⟩ v2).setCell ⟨g,o+3,none⟩ v3).setCell ⟨g,o+4,none⟩ v4) :=
  have y:(fun b=>b=g) g:=rfl
  kx_set (kx_set (kx_set (kx_set (kx_set (Kx.refl (fun b=>b=g) w) y _ _) y _ _) y _ _) y _ _) y _ _
theorem RG.set {base g cap:Nat} {cs:List (Asn × Value)} {w:World} (h:RG base g cap cs w) {k:Nat} (hk:k < cs.length) {a:Asn} {sv:Value} (hp:okE base w (a,sv)) :
    RG base g cap (cs.set k (a,sv)) (((((w.setCell ⟨g,k * 5,none⟩ (.int .i64 a.1)).setCell ⟨g,k * 5+1,none⟩ (.int .i64 a.2.1)).setCell ⟨g,k * 5+2,none⟩ (.int .i64 a.2.2.1)).setCell ⟨g,k * 5+3,none⟩ sv).setCell ⟨g,k * 5+4,none⟩ (.int .i64 a.2.2.2.2)):=by
  obtain ⟨r2,⟨cur,r3,r6,r4,r5,r7⟩,h3⟩:=h
  have hh:=heap_setCell_same _ g (k * 5+4) _ 50 (.int .i64 a.2.2.2.2) (heap_setCell_same _ g (k * 5+3) _ 50 sv (heap_setCell_same _ g (k * 5+2) _ 50 (.int .i64 a.2.2.1) (heap_setCell_same _ g (k * 5+1) _ 50 (.int .i64 a.2.1) (heap_setCell_same w g (k * 5) cur 50 (.int .i64 a.1) r3))))
  refine ⟨r2,⟨_,hh,by simpa using r6,by simpa using r4,r5,fun i hi j hj=>?_⟩,fun p hp'=>?_⟩
  · rw [List.length_set] at hi
    have hsz:k * 5+4 < cur.size:=by omega
    by_cases e:i=k
    · subst e
      have e2:(cs.set i (a,sv)).getD i d0E=(a,sv):=by rw [List.getD_eq_getElem?_getD,List.getElem?_set_self hk]; rfl
      rw [e2]
      match j,hj with
      | 0,_=>simp [Array.getElem?_setIfInBounds,AC]; omega
      | 1,_=>simp [Array.getElem?_setIfInBounds,AC]; omega
      | 2,_=>simp [Array.getElem?_setIfInBounds,AC]; omega
      | 3,_=>simp [Array.getElem?_setIfInBounds,AC]; omega
      | 4,_=>simp [Array.getElem?_setIfInBounds,AC]; omega
    · have e2:(cs.set k (a,sv)).getD i d0E=cs.getD i d0E:=by rw [List.getD_eq_getElem?_getD,List.getD_eq_getElem?_getD,List.getElem?_set_ne (Ne.symm e)]
      rw [e2,← r7 i hi j hj]
      simp only [Array.getElem?_setIfInBounds]
      rw [if_neg (by omega),if_neg (by omega),if_neg (by omega),if_neg (by omega),if_neg (by omega)]
  · have hk5:=set5_kx (w:=w) (g:=g) (o:=k * 5) (v0:=.int .i64 a.1) (v1:=.int .i64 a.2.1) (v2:=.int .i64 a.2.2.1) (v3:=sv) (v4:=.int .i64 a.2.2.2.2)
    rcases List.mem_or_eq_of_mem_set hp' with h | h
    · exact ⟨SL.row r3 hk5 (h3 p h).1,(h3 p h).2⟩
    · rw [h]; exact ⟨SL.row r3 hk5 hp.1,hp.2⟩
theorem clear5 {base g cap:Nat} {cs:List (Asn × Value)} {w:World} (h:RG base g cap cs w) {k:Nat} (hk:k < cs.length) (ty:TypeId) (c:Nat) :
    ∃ w',(Builtin.clear_ #[33] ty #[.slice (some ⟨g,k * 5,none⟩) (cs.length - k) c]).run Try.prog w=.ok (.tuple #[]) w'∧RG base g cap (cs.take k) w'∧Kx (fun b=>b=g) w w':=by
  obtain ⟨r2,⟨cur,r3,r6,r4,r5,r7⟩,h3⟩:=id h
  obtain ⟨m,hm⟩:∃ m,cs.length - k=m+1:=⟨cs.length - k - 1,by omega⟩
  obtain ⟨zs,hzs⟩:∃ zs,(Builtin.zeroCells (Value.agg #[.int .i64 0,.int .i64 0,.int .i64 0,.slice none 0 0,.int .i64 0]).cells (m+1)).toList=zs:=⟨_,rfl⟩
  have hzl:zs.length=(m+1) * 5:=by rw [← hzs,Array.length_toList,size_zeroCells]; rfl
  have hz1:∀ v∈zs,v.oneCell'=true:=by
    intro v hv
    rw [← hzs] at hv
    simp only [Builtin.zeroCells,Array.mem_toList_iff] at hv
    simp [Value.cells] at hv
    obtain ⟨i,hi,rfl⟩:=hv
    have:i % 5 < 5:=Nat.mod_lt _ (by omega)
    generalize i % 5=t at this
    match t,this with
    | 0,_=>rfl
    | 1,_=>rfl
    | 2,_=>rfl
    | 3,_=>rfl
    | 4,_=>rfl
  have hst:=run_storeCells_at (P:=Try.prog) g (k * 5) 50 zs 0 cur w r3 (by rw [hzl]; omega) hz1
  simp only [Nat.add_zero,List.append_assoc] at hst
  refine ⟨w.setRow g (List.take (k * 5) cur.toList++(zs++List.drop (k * 5+zs.length) cur.toList)).toArray,by rw [hm]; simp [Builtin.clear_,run_underlying Try.underlying33,Try.zeroValue50,hzs,hst],⟨r2,⟨_,setRow_heap w g cur _ 50 (0,0) r3,?_,?_,r5,fun i hi j hj=>?_⟩,fun p hp=>?_⟩,?_⟩
  · simp only [List.size_toArray,List.length_append,List.length_take,List.length_drop,Array.length_toList,hzl]
    omega
  · rw [List.length_take]; omega
  · rw [List.length_take] at hi
    have e:(cs.take k).getD i d0E=cs.getD i d0E:=by
      rw [List.getD_eq_getElem?_getD,List.getD_eq_getElem?_getD,List.getElem?_take,if_pos (by omega)]
    rw [e,← r7 i (by omega) j hj]
    simp only [List.getElem?_toArray]
    rw [List.getElem?_append_left (by rw [List.length_take,Array.length_toList]; omega),List.getElem?_take,if_pos (by omega),Array.getElem?_toList]
  · have hp2:=List.mem_of_mem_take hp
    exact ⟨SL.row r3 ⟨rfl,rfl,rfl,by simp [World.setRow],fun b hb hx=>by simp [World.setRow,Array.getElem?_modify,Ne.symm hx]⟩ (h3 p hp2).1,(h3 p hp2).2⟩
  · exact ⟨rfl,rfl,rfl,by simp [World.setRow],fun b hb hx=>by simp [World.setRow,Array.getElem?_modify,Ne.symm hx]⟩
theorem compA_snoc:∀ (ps:List (Asn × Value)) (pv q:Asn × Value),compA pv (ps++[q])=if cmpA q.1 ((pv::ps).getLast (by simp)).1=0 then compA pv ps else compA pv ps++[q]
  | [],pv,q=>by
    show (if cmpA q.1 pv.1=0 then compA q [] else q::compA q [])=if cmpA q.1 pv.1=0 then compA pv [] else compA pv []++[q]
    split <;> rfl
  | x::ps,pv,q=>by
    have ih:=compA_snoc ps x q
    rw [List.cons_append]
    show (if cmpA x.1 pv.1=0 then compA x (ps++[q]) else x::compA x (ps++[q]))=if cmpA q.1 ((pv::x::ps).getLast (by simp)).1=0 then (if cmpA x.1 pv.1=0 then compA x ps else x::compA x ps) else (if cmpA x.1 pv.1=0 then compA x ps else x::compA x ps)++[q]
    rw [List.getLast_cons (by simp),ih]
    split <;> split <;> simp
theorem compL_take {ps:List (Asn × Value)} {i:Nat} (h0:0 < i) (hi:i < ps.length):compL (ps.take (i+1))=if cmpA (ps.getD i d0E).1 (ps.getD (i - 1) d0E).1=0 then compL (ps.take i) else compL (ps.take i)++[ps.getD i d0E]:=by
  match ps,hi with
  | p::ps,hi =>
    obtain ⟨j,rfl⟩:∃ j,i=j+1:=⟨i - 1,by omega⟩
    have hj:j < ps.length:=by rw [List.length_cons] at hi; omega
    rw [List.take_succ_cons,List.take_succ_cons]
    have e:ps.take (j+1)=ps.take j++[ps.getD j d0E]:=take_get ps d0E hj
    rw [e]
    show p::compA p (ps.take j++[ps.getD j d0E])=_
    rw [compA_snoc]
    have e3:(p::ps).getD (j+1) d0E=ps.getD j d0E:=rfl
    have e4:((p::ps.take j).getLast (by simp))=(p::ps).getD (j+1 - 1) d0E:=by
      rw [Nat.add_sub_cancel,List.getLast_eq_getElem]
      simp only [List.length_cons,List.length_take,Nat.min_eq_left (Nat.le_of_lt hj),Nat.add_sub_cancel]
      cases j with
      | zero=>rfl
      | succ j =>
        rw [List.getElem_cons_succ,List.getElem_take,List.getD_cons_succ,List.getD_eq_getElem?_getD,List.getElem?_eq_getElem (by omega)]
        rfl
    rw [e3,e4]
    split <;> rfl
end Go.Proofs.Ytieoleabnjdkfaa
set_option linter.unusedSimpArgs false
set_option linter.unusedVariables false
set_option linter.unnecessarySimpa false
namespace Go.Proofs.Ytieoleabnjdkfaa
open Go Go.Proofs Go.RowKit Go.X
attribute [local go_sem] Oper.semAt_some
theorem ext_grow (W:World) (q:Nat) (os:Array Obj):Ext W (Go.Sort.grow (W.drewN q) os):=⟨rfl,rfl,rfl,by simp [Go.Sort.grow,World.drewN],fun k hk=>Go.Sort.heap_grow_old (W.drewN q) os hk⟩
theorem RG.five {base g cap:Nat} {cs:List (Asn × Value)} {w:World} (h:RG base g cap cs w) {i:Nat} (hi:i < cs.length) {a:Asn} {sv:Value} (e:cs.getD i d0E=(a,sv)):w.cell? ⟨g,i * 5,none⟩=some (.int .i64 a.1)∧w.cell? ⟨g,i * 5+1,none⟩=some (.int .i64 a.2.1)∧w.cell? ⟨g,i * 5+2,none⟩=some (.int .i64 a.2.2.1)∧w.cell? ⟨g,i * 5+3,none⟩=some sv∧w.cell? ⟨g,i * 5+4,none⟩=some (.int .i64 a.2.2.2.2):=by
  have h0:=h.cell hi (j:=0) (by omega)
  have h1:=h.cell hi (j:=1) (by omega)
  have h2:=h.cell hi (j:=2) (by omega)
  have h3:=h.cell hi (j:=3) (by omega)
  have h4:=h.cell hi (j:=4) (by omega)
  rw [e] at h0 h1 h2 h3 h4
  exact ⟨h0,h1,h2,h3,h4⟩
theorem five_some {base g cap:Nat} {cs:List (Asn × Value)} {w:World} (h:RG base g cap cs w) {i:Nat} (hi:i < cs.length):(∃ v,w.cell? ⟨g,i * 5,none⟩=some v)∧(∃ v,w.cell? ⟨g,i * 5+1,none⟩=some v)∧(∃ v,w.cell? ⟨g,i * 5+2,none⟩=some v)∧(∃ v,w.cell? ⟨g,i * 5+3,none⟩=some v)∧∃ v,w.cell? ⟨g,i * 5+4,none⟩=some v:=by
  obtain ⟨⟨a,sv⟩,e⟩:∃ p,cs.getD i d0E=p:=⟨_,rfl⟩
  obtain ⟨h0,h1,h2,h3,h4⟩:=h.five hi e
  exact ⟨⟨_,h0⟩,⟨_,h1⟩,⟨_,h2⟩,⟨_,h3⟩,⟨_,h4⟩⟩
def FrE3 (sv:Value) (k:Nat) (y0 y1 y2 y3 y4 y5 y6 y7 y8 y9 y10:Value) (a:Act):Prop:=∃ (x2 x3 x6 x7 x8 x9 x10 x11 x12 x13 x14 x15 x16 x17 x29 x30 x31 x32 x33 x34 x35 x36 x37 x38 x39 x40 x41 x42 x43 x44 x45 x46 x47 x48 x49 x50 x51 x52 x53 x54 x55 x56 x57 x58 x59 x60 x61 x62 x63 x64 x65:Value),a={ tmps:=#[sv,.func (.func 31) #[] #[],x2,x3,.slice none 0 0,.int .i64 (k:Int),x6,x7,x8,x9,x10,x11,x12,x13,x14,x15,x16,x17,y0,y1,y2,y3,y4,y5,y6,y7,y8,y9,y10,x29,x30,x31,x32,x33,x34,x35,x36,x37,x38,x39,x40,x41,x42,x43,x44,x45,x46,x47,x48,x49,x50,x51,x52,x53,x54,x55,x56,x57,x58,x59,x60,x61,x62,x63,x64,x65],defers:=[] }
theorem FrE3.mk {sv:Value} {k:Nat} {y0 y1 y2 y3 y4 y5 y6 y7 y8 y9 y10:Value} {x2 x3 x6 x7 x8 x9 x10 x11 x12 x13 x14 x15 x16 x17 x29 x30 x31 x32 x33 x34 x35 x36 x37 x38 x39 x40 x41 x42 x43 x44 x45 x46 x47 x48 x49 x50 x51 x52 x53 x54 x55 x56 x57 x58 x59 x60 x61 x62 x63 x64 x65:Value}:FrE3 sv k y0 y1 y2 y3 y4 y5 y6 y7 y8 y9 y10 { tmps:=#[sv,.func (.func 31) #[] #[],x2,x3,.slice none 0 0,.int .i64 (k:Int),x6,x7,x8,x9,x10,x11,x12,x13,x14,x15,x16,x17,y0,y1,y2,y3,y4,y5,y6,y7,y8,y9,y10,x29,x30,x31,x32,x33,x34,x35,x36,x37,x38,x39,x40,x41,x42,x43,x44,x45,x46,x47,x48,x49,x50,x51,x52,x53,x54,x55,x56,x57,x58,x59,x60,x61,x62,x63,x64,x65],defers:=[] }:=⟨x2,x3,x6,x7,x8,x9,x10,x11,x12,x13,x14,x15,x16,x17,x29,x30,x31,x32,x33,x34,x35,x36,x37,x38,x39,x40,x41,x42,x43,x44,x45,x46,x47,x48,x49,x50,x51,x52,x53,x54,x55,x56,x57,x58,x59,x60,x61,x62,x63,x64,x65,rfl⟩
theorem FrE3.elim {sv:Value} {k:Nat} {y0 y1 y2 y3 y4 y5 y6 y7 y8 y9 y10:Value} {a:Act} {P:Prop} (h:FrE3 sv k y0 y1 y2 y3 y4 y5 y6 y7 y8 y9 y10 a) (k:∀ (x2 x3 x6 x7 x8 x9 x10 x11 x12 x13 x14 x15 x16 x17 x29 x30 x31 x32 x33 x34 x35 x36 x37 x38 x39 x40 x41 x42 x43 x44 x45 x46 x47 x48 x49 x50 x51 x52 x53 x54 x55 x56 x57 x58 x59 x60 x61 x62 x63 x64 x65:Value),a={ tmps:=#[sv,.func (.func 31) #[] #[],x2,x3,.slice none 0 0,.int .i64 (k:Int),x6,x7,x8,x9,x10,x11,x12,x13,x14,x15,x16,x17,y0,y1,y2,y3,y4,y5,y6,y7,y8,y9,y10,x29,x30,x31,x32,x33,x34,x35,x36,x37,x38,x39,x40,x41,x42,x43,x44,x45,x46,x47,x48,x49,x50,x51,x52,x53,x54,x55,x56,x57,x58,x59,x60,x61,x62,x63,x64,x65],defers:=[] }→P):P:=by
  obtain ⟨x2,x3,x6,x7,x8,x9,x10,x11,x12,x13,x14,x15,x16,x17,x29,x30,x31,x32,x33,x34,x35,x36,x37,x38,x39,x40,x41,x42,x43,x44,x45,x46,x47,x48,x49,x50,x51,x52,x53,x54,x55,x56,x57,x58,x59,x60,x61,x62,x63,x64,x65,e⟩:=h
  exact k x2 x3 x6 x7 x8 x9 x10 x11 x12 x13 x14 x15 x16 x17 x29 x30 x31 x32 x33 x34 x35 x36 x37 x38 x39 x40 x41 x42 x43 x44 x45 x46 x47 x48 x49 x50 x51 x52 x53 x54 x55 x56 x57 x58 x59 x60 x61 x62 x63 x64 x65 e
def FrE4 (sv s2:Value) (k i:Nat) (y0 y1 y2 y3 y4 y5 y6 y7 y8 y9 y10 y11:Value) (a:Act):Prop:=∃ (x2 x3 x4 x8 x9 x10 x11 x12 x13 x14 x15 x16 x17 x18 x19 x20 x21 x22 x23 x24 x25 x26 x27 x28 x29 x30 x31 x32 x33 x34 x35 x36 x37 x50 x51 x52 x53 x54 x55 x56 x57 x58 x59 x60 x61 x62 x63 x64 x65:Value),a={ tmps:=#[sv,.func (.func 31) #[] #[],x2,x3,x4,.int .i64 (k:Int),s2,.int .i64 (i:Int),x8,x9,x10,x11,x12,x13,x14,x15,x16,x17,x18,x19,x20,x21,x22,x23,x24,x25,x26,x27,x28,x29,x30,x31,x32,x33,x34,x35,x36,x37,y0,y1,y2,y3,y4,y5,y6,y7,y8,y9,y10,y11,x50,x51,x52,x53,x54,x55,x56,x57,x58,x59,x60,x61,x62,x63,x64,x65],defers:=[] }
theorem FrE4.mk {sv s2:Value} {k i:Nat} {y0 y1 y2 y3 y4 y5 y6 y7 y8 y9 y10 y11:Value} {x2 x3 x4 x8 x9 x10 x11 x12 x13 x14 x15 x16 x17 x18 x19 x20 x21 x22 x23 x24 x25 x26 x27 x28 x29 x30 x31 x32 x33 x34 x35 x36 x37 x50 x51 x52 x53 x54 x55 x56 x57 x58 x59 x60 x61 x62 x63 x64 x65:Value}:FrE4 sv s2 k i y0 y1 y2 y3 y4 y5 y6 y7 y8 y9 y10 y11 { tmps:=#[sv,.func (.func 31) #[] #[],x2,x3,x4,.int .i64 (k:Int),s2,.int .i64 (i:Int),x8,x9,x10,x11,x12,x13,x14,x15,x16,x17,x18,x19,x20,x21,x22,x23,x24,x25,x26,x27,x28,x29,x30,x31,x32,x33,x34,x35,x36,x37,y0,y1,y2,y3,y4,y5,y6,y7,y8,y9,y10,y11,x50,x51,x52,x53,x54,x55,x56,x57,x58,x59,x60,x61,x62,x63,x64,x65],defers:=[] }:=⟨x2,x3,x4,x8,x9,x10,x11,x12,x13,x14,x15,x16,x17,x18,x19,x20,x21,x22,x23,x24,x25,x26,x27,x28,x29,x30,x31,x32,x33,x34,x35,x36,x37,x50,x51,x52,x53,x54,x55,x56,x57,x58,x59,x60,x61,x62,x63,x64,x65,rfl⟩
theorem FrE4.elim {sv s2:Value} {k i:Nat} {y0 y1 y2 y3 y4 y5 y6 y7 y8 y9 y10 y11:Value} {a:Act} {P:Prop} (h:FrE4 sv s2 k i y0 y1 y2 y3 y4 y5 y6 y7 y8 y9 y10 y11 a) (k:∀ (x2 x3 x4 x8 x9 x10 x11 x12 x13 x14 x15 x16 x17 x18 x19 x20 x21 x22 x23 x24 x25 x26 x27 x28 x29 x30 x31 x32 x33 x34 x35 x36 x37 x50 x51 x52 x53 x54 x55 x56 x57 x58 x59 x60 x61 x62 x63 x64 x65:Value),a={ tmps:=#[sv,.func (.func 31) #[] #[],x2,x3,x4,.int .i64 (k:Int),s2,.int .i64 (i:Int),x8,x9,x10,x11,x12,x13,x14,x15,x16,x17,x18,x19,x20,x21,x22,x23,x24,x25,x26,x27,x28,x29,x30,x31,x32,x33,x34,x35,x36,x37,y0,y1,y2,y3,y4,y5,y6,y7,y8,y9,y10,y11,x50,x51,x52,x53,x54,x55,x56,x57,x58,x59,x60,x61,x62,x63,x64,x65],defers:=[] }→P):P:=by
  obtain ⟨x2,x3,x4,x8,x9,x10,x11,x12,x13,x14,x15,x16,x17,x18,x19,x20,x21,x22,x23,x24,x25,x26,x27,x28,x29,x30,x31,x32,x33,x34,x35,x36,x37,x50,x51,x52,x53,x54,x55,x56,x57,x58,x59,x60,x61,x62,x63,x64,x65,e⟩:=h
  exact k x2 x3 x4 x8 x9 x10 x11 x12 x13 x14 x15 x16 x17 x18 x19 x20 x21 x22 x23 x24 x25 x26 x27 x28 x29 x30 x31 x32 x33 x34 x35 x36 x37 x50 x51 x52 x53 x54 x55 x56 x57 x58 x59 x60 x61 x62 x63 x64 x65 e
def RC2 (base g cap n k1:Nat) (ps:List (Asn × Value)) (w:World) (m:Nat) (a:Act) (w8:World):Prop:=∃ (i1 k:Nat) (cs:List (Asn × Value)),i1+1≤n - (k1+1)∧m=n - (k1+1) - (i1+1)∧k1+1≤k∧k≤k1+1+i1∧cs.length=n∧cs.take k=compL (ps.take (k1+1+i1+1))∧(∀ t,k≤t→cs.getD t d0E=ps.getD t d0E)∧RG base g cap cs w8∧Kx (fun b=>b=g) w w8∧FrE2 (.slice (some ⟨g,0,none⟩) n cap) (.slice (some ⟨g,(k1+1) * 5,none⟩) (n - (k1+1)) (cap - (k1+1))) k (i1+1) a
theorem set_take {cs:List (Asn × Value)} {k:Nat} {p:Asn × Value} (hk:k < cs.length):(cs.set k p).take (k+1)=cs.take k++[p]:=by
  rw [take_get (cs.set k p) d0E (by rw [List.length_set]; exact hk),List.take_set_of_le (Nat.le_refl _),List.getD_eq_getElem?_getD,List.getElem?_set_self hk]
  rfl
set_option maxRecDepth 100000 in
set_option maxHeartbeats 8000000 in
theorem compact_ok {base g cap:Nat} {ps:List (Asn × Value)} {w:World} (h:AG base g cap ps w) (hl:ps.length≤10000000) :
    Calls Try.prog 30 #[.slice (some ⟨g,0,none⟩) ps.length cap,.func (.func 31) #[] #[]] w fun e w'=>e=.returned (.slice (some ⟨g,0,none⟩) (compL ps).length cap)∧AG base g cap (compL ps) w'∧Kx (fun b=>b=g) w w':=by
  refine (callsIn_wide (n:=0)).1 (callsIn_of_wp Try.func30 rfl trivial ?_ rfl)
  simp only [Try.ntmps30,List.size_toArray,List.length_cons,List.length_nil,Nat.reduceAdd,Nat.reduceSub,Array.replicate_succ,Array.replicate_zero,List.push_toArray,List.append_toArray,List.nil_append,List.cons_append]
  have fd:Fence.wide.depth=none:=rfl
  have hrg0:=h.rg
  have hin:∀ c:Int,0≤c→c≤10000001→IntKind.i64.wrap c=c:=fun c h0 h1=>w_id (by omega) (by omega)
  have hcap:ps.length≤cap:=by obtain ⟨_,⟨_,_,_,h,_⟩,_⟩:=hrg0; exact h
  generalize hn:ps.length=n at hl hcap
  rcases Nat.lt_or_ge n 2 with h2 | h2
  · have h2':(n:Int) < 2:=by omega
    have hc:compL ps=ps:=by
      match ps,hn with
      | [],_=>rfl
      | [p],_=>rfl
      | p::q::r,hn=>simp at hn; omega
    gi_wp2
    exact ⟨rfl,_,results_tmp (t:=4) rfl _ _ _,by rw [hc,hn]; rfl,by rw [hc]; exact h,Kx.refl _ _⟩
  have h2':¬ (n:Int) < 2:=by omega
  gi_wp2
  refine wpIn_wide.2 (loop_inv (R:=fun m a w8=>∃ k1:Nat,k1+1≤n∧m=n - (k1+1)∧compL (ps.take (k1+1))=ps.take (k1+1)∧Ext w w8∧FrE1 (.slice (some ⟨g,0,none⟩) n cap) (k1+1) a) (m:=n - 1) ?step1 ?init1)
  case init1 =>
    refine ⟨0,by omega,rfl,?_,Ext.refl _,FrE1.mk⟩
    match ps,hn with
    | [],hn=>simp at hn; omega
    | p::r,_=>rfl
  case step1 =>
    rintro m a w8 ⟨k1,hk1,rfl,hck,hx8,hfr⟩
    refine hfr.elim ?_
    intro x2 x3 x6 x7 x8 x9 x10 x11 x12 x13 x14 x15 x16 x17 x18 x19 x20 x21 x22 x23 x24 x25 x26 x27 x28 x29 x30 x31 x32 x33 x34 x35 x36 x37 x38 x39 x40 x41 x42 x43 x44 x45 x46 x47 x48 x49 x50 x51 x52 x53 x54 x55 x56 x57 x58 x59 x60 x61 x62 x63 x64 x65 hfe
    subst hfe
    refine (wpIn_wide (n:=0)).1 ?_
    rcases Nat.lt_or_ge (k1+1) n with hlt | hge
    · have hlt':((k1+1:Nat):Int) < (n:Int):=by omega
      have hlt1:(k1:Int) < (n:Int):=by omega
      have hw1:IntKind.i64.wrap (((k1+1:Nat):Int) - 1)=(k1:Int):=by rw [hin _ (by omega) (by omega)]; omega
      have hw2:IntKind.i64.wrap (((k1+1:Nat):Int)+1)=((k1+1+1:Nat):Int):=by rw [hin _ (by omega) (by omega)]; omega
      have hw1':IntKind.i64.wrap (k1:Int)=(k1:Int):=hin _ (by omega) (by omega)
      have hw2':IntKind.i64.wrap ((k1:Int)+1+1)=(k1:Int)+1+1:=hin _ (by omega) (by omega)
      have hrg:=hrg0.ext hx8
      have hip:k1+1 < ps.length:=by omega
      have hiq:k1 < ps.length:=by omega
      have hcs:=compL_take (ps:=ps) (i:=k1+1) (by omega) hip
      rw [Nat.add_sub_cancel] at hcs
      have hsp:=hrg.so hip
      have hsq:=hrg.so hiq
      obtain ⟨⟨pa,pv⟩,hep⟩:∃ p,ps.getD (k1+1) d0E=p:=⟨_,rfl⟩
      obtain ⟨⟨qa,qv⟩,heq⟩:∃ p,ps.getD k1 d0E=p:=⟨_,rfl⟩
      rw [hep] at hsp hcs
      rw [heq] at hsq hcs
      simp only at hsp hsq hcs
      obtain ⟨sa,al,ac,rfl⟩:∃ sa al ac,pv=.slice sa al ac:=by obtain ⟨_,A,c,e,_⟩:=hsp; exact ⟨A,_,c,e⟩
      obtain ⟨sb,bl,bc,rfl⟩:∃ sb bl bc,qv=.slice sb bl bc:=by obtain ⟨_,A,c,e,_⟩:=hsq; exact ⟨A,_,c,e⟩
      gi_wp2
      refine wpIn_wide.2 (region_inv mixd (J:=fun D a' w9=>Ext w8 w9∧∃ ys:Nat→Value,(∀ k,D k=true→k < 10→ys k=([.func (.func 31) #[] #[],(.slice (some ⟨g,0,none⟩) n cap),.int .i64 ((k1+1:Nat):Int),.pointer (some ⟨g,(k1+1) * 5,none⟩),.agg #[.int .i64 pa.1,.int .i64 pa.2.1,.int .i64 pa.2.2.1,(.slice sa al ac),.int .i64 pa.2.2.2.2],(.slice (some ⟨g,0,none⟩) n cap),.int .i64 ((k1+1:Nat):Int),.int .i64 (k1:Int),.pointer (some ⟨g,k1 * 5,none⟩),.agg #[.int .i64 qa.1,.int .i64 qa.2.1,.int .i64 qa.2.2.1,(.slice sb bl bc),.int .i64 qa.2.2.2.2]]:List Value).getD k undef)∧(D 10=true→ys 10=.bool (decide (cmpA pa qa=0)))∧FrE3 (.slice (some ⟨g,0,none⟩) n cap) (k1+1) (ys 0) (ys 1) (ys 2) (ys 3) (ys 4) (ys 5) (ys 6) (ys 7) (ys 8) (ys 9) (ys 10) a') ?hacA ?stA ?finA ?h0A)
      case hacA =>
        intro k o ho
        rcases k with _ | _ | _ | _ | _ | _ | _ | _ | _ | _ | _ | k <;> simp at ho <;> subst ho <;> simp
      case h0A =>
        exact ⟨(Ext.refl w8).drew,fun k=>[x18,x19,x20,x21,x22,x23,x24,x25,x26,x27,x28].getD k undef,(fun k h _=>by cases h),(fun h=>by cases h),FrE3.mk⟩
      case stA =>
        rintro D j2 o a' w9 ho hDj hed ⟨hE,ys,hys,h10,hfr⟩
        refine hfr.elim ?_
        intro x2 x3 x6 x7 x8 x9 x10 x11 x12 x13 x14 x15 x16 x17 x29 x30 x31 x32 x33 x34 x35 x36 x37 x38 x39 x40 x41 x42 x43 x44 x45 x46 x47 x48 x49 x50 x51 x52 x53 x54 x55 x56 x57 x58 x59 x60 x61 x62 x63 x64 x65 hfe
        subst hfe
        rcases j2 with _ | _ | _ | _ | _ | _ | _ | _ | _ | _ | _ | j2 <;> simp at ho <;> subst ho
        · refine wpk fun K hK0=>?_
          go_simp
          exact hK0 _ _ ⟨hE,fun k=>if k=0 then .func (.func 31) #[] #[] else (ys k),upd_ys (hys) rfl,(fun h=>h10 (by simpa using h)),FrE3.mk⟩
        · refine wpk fun K hK0=>?_
          go_simp
          exact hK0 _ _ ⟨hE,fun k=>if k=1 then (.slice (some ⟨g,0,none⟩) n cap) else (ys k),upd_ys (hys) rfl,(fun h=>h10 (by simpa using h)),FrE3.mk⟩
        · refine wpk fun K hK0=>?_
          go_simp
          exact hK0 _ _ ⟨hE,fun k=>if k=2 then .int .i64 ((k1+1:Nat):Int) else (ys k),upd_ys (hys) rfl,(fun h=>h10 (by simpa using h)),FrE3.mk⟩
        · have e1:ys 1=(.slice (some ⟨g,0,none⟩) n cap):=hys 1 (hed ⟨1,.data⟩ (by simp) rfl) (by omega)
          have e2:ys 2=.int .i64 ((k1+1:Nat):Int):=hys 2 (hed ⟨2,.data⟩ (by simp) rfl) (by omega)
          simp only [e1,e2]
          refine wpk fun K hK0=>?_
          go_simp
          exact hK0 _ _ ⟨hE,fun k=>if k=3 then .pointer (some ⟨g,(k1+1) * 5,none⟩) else (if k=2 then .int .i64 ((k1+1:Nat):Int) else if k=1 then (.slice (some ⟨g,0,none⟩) n cap) else ys k),upd_ys (rep_ys (d:=2) (u:=.int .i64 ((k1+1:Nat):Int)) (rep_ys (d:=1) (u:=(.slice (some ⟨g,0,none⟩) n cap)) (hys) rfl) rfl) rfl,(fun h=>h10 (by simpa using h)),FrE3.mk⟩
        · have e3:ys 3=.pointer (some ⟨g,(k1+1) * 5,none⟩):=hys 3 (hed ⟨3,.data⟩ (by simp) rfl) (by omega)
          simp only [e3]
          have c5:=(hrg.ext hE).five hip hep
          obtain ⟨c0,c1,c2,c3,c4⟩:=c5
          refine wpk fun K hK0=>?_
          go_simp
          exact hK0 _ _ ⟨hE,fun k=>if k=4 then .agg #[.int .i64 pa.1,.int .i64 pa.2.1,.int .i64 pa.2.2.1,(.slice sa al ac),.int .i64 pa.2.2.2.2] else (if k=3 then .pointer (some ⟨g,(k1+1) * 5,none⟩) else ys k),upd_ys (rep_ys (d:=3) (u:=.pointer (some ⟨g,(k1+1) * 5,none⟩)) (hys) rfl) rfl,(fun h=>h10 (by simpa using h)),FrE3.mk⟩
        · refine wpk fun K hK0=>?_
          go_simp
          exact hK0 _ _ ⟨hE,fun k=>if k=5 then (.slice (some ⟨g,0,none⟩) n cap) else (ys k),upd_ys (hys) rfl,(fun h=>h10 (by simpa using h)),FrE3.mk⟩
        · refine wpk fun K hK0=>?_
          go_simp
          exact hK0 _ _ ⟨hE,fun k=>if k=6 then .int .i64 ((k1+1:Nat):Int) else (ys k),upd_ys (hys) rfl,(fun h=>h10 (by simpa using h)),FrE3.mk⟩
        · have e6:ys 6=.int .i64 ((k1+1:Nat):Int):=hys 6 (hed ⟨6,.data⟩ (by simp) rfl) (by omega)
          simp only [e6]
          refine wpk fun K hK0=>?_
          go_simp
          exact hK0 _ _ ⟨hE,fun k=>if k=7 then .int .i64 (k1:Int) else (if k=6 then .int .i64 ((k1+1:Nat):Int) else ys k),upd_ys (rep_ys (d:=6) (u:=.int .i64 ((k1+1:Nat):Int)) (hys) rfl) rfl,(fun h=>h10 (by simpa using h)),FrE3.mk⟩
        · have e5:ys 5=(.slice (some ⟨g,0,none⟩) n cap):=hys 5 (hed ⟨5,.data⟩ (by simp) rfl) (by omega)
          have e7:ys 7=.int .i64 (k1:Int):=hys 7 (hed ⟨7,.data⟩ (by simp) rfl) (by omega)
          simp only [e5,e7]
          refine wpk fun K hK0=>?_
          go_simp
          exact hK0 _ _ ⟨hE,fun k=>if k=8 then .pointer (some ⟨g,k1 * 5,none⟩) else (if k=7 then .int .i64 (k1:Int) else if k=5 then (.slice (some ⟨g,0,none⟩) n cap) else ys k),upd_ys (rep_ys (d:=7) (u:=.int .i64 (k1:Int)) (rep_ys (d:=5) (u:=(.slice (some ⟨g,0,none⟩) n cap)) (hys) rfl) rfl) rfl,(fun h=>h10 (by simpa using h)),FrE3.mk⟩
        · have e8:ys 8=.pointer (some ⟨g,k1 * 5,none⟩):=hys 8 (hed ⟨8,.data⟩ (by simp) rfl) (by omega)
          simp only [e8]
          have c5:=(hrg.ext hE).five hiq heq
          obtain ⟨c0,c1,c2,c3,c4⟩:=c5
          refine wpk fun K hK0=>?_
          go_simp
          exact hK0 _ _ ⟨hE,fun k=>if k=9 then .agg #[.int .i64 qa.1,.int .i64 qa.2.1,.int .i64 qa.2.2.1,(.slice sb bl bc),.int .i64 qa.2.2.2.2] else (if k=8 then .pointer (some ⟨g,k1 * 5,none⟩) else ys k),upd_ys (rep_ys (d:=8) (u:=.pointer (some ⟨g,k1 * 5,none⟩)) (hys) rfl) rfl,(fun h=>h10 (by simpa using h)),FrE3.mk⟩
        · have e0:ys 0=.func (.func 31) #[] #[]:=hys 0 (hed ⟨0,.data⟩ (by simp) rfl) (by omega)
          have e4:ys 4=.agg #[.int .i64 pa.1,.int .i64 pa.2.1,.int .i64 pa.2.2.1,(.slice sa al ac),.int .i64 pa.2.2.2.2]:=hys 4 (hed ⟨4,.data⟩ (by simp) rfl) (by omega)
          have e9:ys 9=.agg #[.int .i64 qa.1,.int .i64 qa.2.1,.int .i64 qa.2.2.1,(.slice sb bl bc),.int .i64 qa.2.2.2.2]:=hys 9 (hed ⟨9,.data⟩ (by simp) rfl) (by omega)
          simp only [e0,e4,e9]
          have cc:=eq_ok (hsp.ext hE) (hsq.ext hE)
          refine wpk fun K hK0=>?_
          go_simp
          refine cc.mono ?_
          rintro e w10 ⟨rfl,q10,os10,rfl⟩
          exact hK0 _ _ ⟨hE.trans (ext_grow _ _ _),fun k=>if k=10 then .bool (decide (cmpA pa qa=0)) else (if k=9 then .agg #[.int .i64 qa.1,.int .i64 qa.2.1,.int .i64 qa.2.2.1,(.slice sb bl bc),.int .i64 qa.2.2.2.2] else if k=4 then .agg #[.int .i64 pa.1,.int .i64 pa.2.1,.int .i64 pa.2.2.1,(.slice sa al ac),.int .i64 pa.2.2.2.2] else if k=0 then .func (.func 31) #[] #[] else ys k),upd_no (rep_ys (d:=9) (u:=.agg #[.int .i64 qa.1,.int .i64 qa.2.1,.int .i64 qa.2.2.1,(.slice sb bl bc),.int .i64 qa.2.2.2.2]) (rep_ys (d:=4) (u:=.agg #[.int .i64 pa.1,.int .i64 pa.2.1,.int .i64 pa.2.2.1,(.slice sa al ac),.int .i64 pa.2.2.2.2]) (rep_ys (d:=0) (u:=.func (.func 31) #[] #[]) (hys) rfl) rfl) rfl) (Nat.le_refl _),(fun _=>rfl),FrE3.mk⟩
      case finA =>
        rintro D a' w9 hall ⟨hE,ys,hys,h10,hfr⟩
        refine hfr.elim ?_
        intro x2 x3 x6 x7 x8 x9 x10 x11 x12 x13 x14 x15 x16 x17 x29 x30 x31 x32 x33 x34 x35 x36 x37 x38 x39 x40 x41 x42 x43 x44 x45 x46 x47 x48 x49 x50 x51 x52 x53 x54 x55 x56 x57 x58 x59 x60 x61 x62 x63 x64 x65 hfe
        subst hfe
        have e10:=h10 (hall 10 (by decide))
        rw [e10]
        have hrg9:=hrg.ext hE
        clear hys h10 hall
        by_cases hz:cmpA pa qa=0
        · simp only [hz,decide_true]
          rw [if_pos hz,hck] at hcs
          have hcapk:¬ cap - (k1+1)=0:=by omega
          have hcapk2:¬ cap=k1+1:=by omega
          have hle1:((k1+1:Nat):Int)≤(n:Int):=by omega
          clear hw1 hw2 hw1' hw2' hep heq hsp hsq
          gi_wp2
          refine wpIn_wide.2 (loop_inv (R:=fun m a w8=>RC2 base g cap n k1 ps w m a w8) (m:=n - (k1+1) - 1) ?step2 ?init2)
          case init2=>exact ⟨0,k1+1,ps,by omega,rfl,by omega,by omega,hn,hcs.symm,fun t _=>rfl,hrg9,Kx.of_ext (hx8.trans hE),FrE2.mk⟩
          case step2 =>
            rintro m a w8 ⟨i1,k,cs,hi1,rfl,hka,hkb,hcl,hct,hcd,hrg,hkw,hfr⟩
            refine hfr.elim ?_
            intro x2 x3 x4 x8 x9 x10 x11 x12 x13 x14 x15 x16 x17 x18 x19 x20 x21 x22 x23 x24 x25 x26 x27 x28 x29 x30 x31 x32 x33 x34 x35 x36 x37 x38 x39 x40 x41 x42 x43 x44 x45 x46 x47 x48 x49 x50 x51 x52 x53 x54 x55 x56 x57 x58 x59 x60 x61 x62 x63 x64 x65 hfe
            subst hfe
            refine (wpIn_wide (n:=0)).1 ?_
            rcases Nat.lt_or_ge (i1+1) (n - (k1+1)) with hlt2 | hge2
            · have hlt2':((i1+1:Nat):Int) < ((n - (k1+1):Nat):Int):=by omega
              have hlt3':(i1:Int) < ((n - (k1+1):Nat):Int):=by omega
              have hkn:(k:Int) < (n:Int):=by omega
              have hw1:IntKind.i64.wrap (((i1+1:Nat):Int) - 1)=(i1:Int):=by rw [hin _ (by omega) (by omega)]; omega
              have hw1':IntKind.i64.wrap (i1:Int)=(i1:Int):=hin _ (by omega) (by omega)
              have hw2:IntKind.i64.wrap (((i1+1:Nat):Int)+1)=((i1+1+1:Nat):Int):=by rw [hin _ (by omega) (by omega)]; omega
              have hw2':IntKind.i64.wrap ((i1:Int)+1+1)=(i1:Int)+1+1:=hin _ (by omega) (by omega)
              have hw3:IntKind.i64.wrap ((k:Int)+1)=((k+1:Nat):Int):=by rw [hin _ (by omega) (by omega)]; omega
              have hip:k1+1+(i1+1) < cs.length:=by omega
              have hiq:k1+1+i1 < cs.length:=by omega
              have hcs2:=compL_take (ps:=ps) (i:=k1+1+i1+1) (by omega) (by omega)
              rw [Nat.add_sub_cancel,show k1+1+i1+1=k1+1+(i1+1) by omega,← hcd _ (by omega:k≤k1+1+(i1+1)),← hcd _ (by omega:k≤k1+1+i1)] at hcs2
              have hsp:=hrg.so hip
              have hsq:=hrg.so hiq
              have hok:okE base w8 (cs.getD (k1+1+(i1+1)) d0E):=hrg.2.2 _ (by rw [List.getD_eq_getElem?_getD,List.getElem?_eq_getElem hip]; exact List.getElem_mem hip)
              obtain ⟨⟨pa,pv⟩,hep⟩:∃ p,cs.getD (k1+1+(i1+1)) d0E=p:=⟨_,rfl⟩
              obtain ⟨⟨qa,qv⟩,heq⟩:∃ p,cs.getD (k1+1+i1) d0E=p:=⟨_,rfl⟩
              rw [hep] at hsp hcs2 hok
              rw [heq] at hsq hcs2
              simp only at hsp hsq hcs2
              obtain ⟨sa,al,ac,rfl⟩:∃ sa al ac,pv=.slice sa al ac:=by obtain ⟨_,A,c,e,_⟩:=hsp; exact ⟨A,_,c,e⟩
              obtain ⟨sb,bl,bc,rfl⟩:∃ sb bl bc,qv=.slice sb bl bc:=by obtain ⟨_,A,c,e,_⟩:=hsq; exact ⟨A,_,c,e⟩
              gi_wp2
              refine wpIn_wide.2 (region_inv mixd (J:=fun D a' w9=>Ext w8 w9∧∃ ys:Nat→Value,(∀ k,D k=true→k < 10→ys k=([.func (.func 31) #[] #[],(.slice (some ⟨g,(k1+1) * 5,none⟩) (n - (k1+1)) (cap - (k1+1))),.int .i64 ((i1+1:Nat):Int),.pointer (some ⟨g,(k1+1) * 5+(i1+1) * 5,none⟩),.agg #[.int .i64 pa.1,.int .i64 pa.2.1,.int .i64 pa.2.2.1,(.slice sa al ac),.int .i64 pa.2.2.2.2],(.slice (some ⟨g,(k1+1) * 5,none⟩) (n - (k1+1)) (cap - (k1+1))),.int .i64 ((i1+1:Nat):Int),.int .i64 (i1:Int),.pointer (some ⟨g,(k1+1) * 5+i1 * 5,none⟩),.agg #[.int .i64 qa.1,.int .i64 qa.2.1,.int .i64 qa.2.2.1,(.slice sb bl bc),.int .i64 qa.2.2.2.2]]:List Value).getD k undef)∧(D 10=true→ys 10=.bool (decide (cmpA pa qa=0)))∧(D 11=true→ys 11=.bool (!decide (cmpA pa qa=0)))∧FrE4 (.slice (some ⟨g,0,none⟩) n cap) (.slice (some ⟨g,(k1+1) * 5,none⟩) (n - (k1+1)) (cap - (k1+1))) k (i1+1) (ys 0) (ys 1) (ys 2) (ys 3) (ys 4) (ys 5) (ys 6) (ys 7) (ys 8) (ys 9) (ys 10) (ys 11) a') ?hacB ?stB ?finB ?h0B)
              case hacB =>
                intro k o ho
                rcases k with _ | _ | _ | _ | _ | _ | _ | _ | _ | _ | _ | _ | k <;> simp at ho <;> subst ho <;> simp
              case h0B =>
                exact ⟨(Ext.refl w8).drew,fun k=>[x38,x39,x40,x41,x42,x43,x44,x45,x46,x47,x48,x49].getD k undef,(fun k h _=>by cases h),(fun h=>by cases h),(fun h=>by cases h),FrE4.mk⟩
              case stB =>
                rintro D j2 o a' w9 ho hDj hed ⟨hE,ys,hys,h10,h11,hfr⟩
                refine hfr.elim ?_
                intro x2 x3 x4 x8 x9 x10 x11 x12 x13 x14 x15 x16 x17 x18 x19 x20 x21 x22 x23 x24 x25 x26 x27 x28 x29 x30 x31 x32 x33 x34 x35 x36 x37 x50 x51 x52 x53 x54 x55 x56 x57 x58 x59 x60 x61 x62 x63 x64 x65 hfe
                subst hfe
                rcases j2 with _ | _ | _ | _ | _ | _ | _ | _ | _ | _ | _ | _ | j2 <;> simp at ho <;> subst ho
                · refine wpk fun K hK0=>?_
                  go_simp
                  exact hK0 _ _ ⟨hE,fun k=>if k=0 then .func (.func 31) #[] #[] else (ys k),upd_ys (hys) rfl,(fun h=>h10 (by simpa using h)),(fun h=>h11 (by simpa using h)),FrE4.mk⟩
                · refine wpk fun K hK0=>?_
                  go_simp
                  exact hK0 _ _ ⟨hE,fun k=>if k=1 then (.slice (some ⟨g,(k1+1) * 5,none⟩) (n - (k1+1)) (cap - (k1+1))) else (ys k),upd_ys (hys) rfl,(fun h=>h10 (by simpa using h)),(fun h=>h11 (by simpa using h)),FrE4.mk⟩
                · refine wpk fun K hK0=>?_
                  go_simp
                  exact hK0 _ _ ⟨hE,fun k=>if k=2 then .int .i64 ((i1+1:Nat):Int) else (ys k),upd_ys (hys) rfl,(fun h=>h10 (by simpa using h)),(fun h=>h11 (by simpa using h)),FrE4.mk⟩
                · have e1:ys 1=(.slice (some ⟨g,(k1+1) * 5,none⟩) (n - (k1+1)) (cap - (k1+1))):=hys 1 (hed ⟨1,.data⟩ (by simp) rfl) (by omega)
                  have e2:ys 2=.int .i64 ((i1+1:Nat):Int):=hys 2 (hed ⟨2,.data⟩ (by simp) rfl) (by omega)
                  simp only [e1,e2]
                  refine wpk fun K hK0=>?_
                  go_simp
                  exact hK0 _ _ ⟨hE,fun k=>if k=3 then .pointer (some ⟨g,(k1+1) * 5+(i1+1) * 5,none⟩) else (if k=2 then .int .i64 ((i1+1:Nat):Int) else if k=1 then (.slice (some ⟨g,(k1+1) * 5,none⟩) (n - (k1+1)) (cap - (k1+1))) else ys k),upd_ys (rep_ys (d:=2) (u:=.int .i64 ((i1+1:Nat):Int)) (rep_ys (d:=1) (u:=(.slice (some ⟨g,(k1+1) * 5,none⟩) (n - (k1+1)) (cap - (k1+1)))) (hys) rfl) rfl) rfl,(fun h=>h10 (by simpa using h)),(fun h=>h11 (by simpa using h)),FrE4.mk⟩
                · have e3:ys 3=.pointer (some ⟨g,(k1+1) * 5+(i1+1) * 5,none⟩):=hys 3 (hed ⟨3,.data⟩ (by simp) rfl) (by omega)
                  simp only [e3]
                  have c5:=(hrg.ext hE).five hip hep
                  rw [Nat.add_mul] at c5
                  obtain ⟨c0,c1,c2,c3,c4⟩:=c5
                  refine wpk fun K hK0=>?_
                  go_simp
                  exact hK0 _ _ ⟨hE,fun k=>if k=4 then .agg #[.int .i64 pa.1,.int .i64 pa.2.1,.int .i64 pa.2.2.1,(.slice sa al ac),.int .i64 pa.2.2.2.2] else (if k=3 then .pointer (some ⟨g,(k1+1) * 5+(i1+1) * 5,none⟩) else ys k),upd_ys (rep_ys (d:=3) (u:=.pointer (some ⟨g,(k1+1) * 5+(i1+1) * 5,none⟩)) (hys) rfl) rfl,(fun h=>h10 (by simpa using h)),(fun h=>h11 (by simpa using h)),FrE4.mk⟩
                · refine wpk fun K hK0=>?_
                  go_simp
                  exact hK0 _ _ ⟨hE,fun k=>if k=5 then (.slice (some ⟨g,(k1+1) * 5,none⟩) (n - (k1+1)) (cap - (k1+1))) else (ys k),upd_ys (hys) rfl,(fun h=>h10 (by simpa using h)),(fun h=>h11 (by simpa using h)),FrE4.mk⟩
                · refine wpk fun K hK0=>?_
                  go_simp
                  exact hK0 _ _ ⟨hE,fun k=>if k=6 then .int .i64 ((i1+1:Nat):Int) else (ys k),upd_ys (hys) rfl,(fun h=>h10 (by simpa using h)),(fun h=>h11 (by simpa using h)),FrE4.mk⟩
                · have e6:ys 6=.int .i64 ((i1+1:Nat):Int):=hys 6 (hed ⟨6,.data⟩ (by simp) rfl) (by omega)
                  simp only [e6]
                  refine wpk fun K hK0=>?_
                  go_simp
                  exact hK0 _ _ ⟨hE,fun k=>if k=7 then .int .i64 (i1:Int) else (if k=6 then .int .i64 ((i1+1:Nat):Int) else ys k),upd_ys (rep_ys (d:=6) (u:=.int .i64 ((i1+1:Nat):Int)) (hys) rfl) rfl,(fun h=>h10 (by simpa using h)),(fun h=>h11 (by simpa using h)),FrE4.mk⟩
                · have e5:ys 5=(.slice (some ⟨g,(k1+1) * 5,none⟩) (n - (k1+1)) (cap - (k1+1))):=hys 5 (hed ⟨5,.data⟩ (by simp) rfl) (by omega)
                  have e7:ys 7=.int .i64 (i1:Int):=hys 7 (hed ⟨7,.data⟩ (by simp) rfl) (by omega)
                  simp only [e5,e7]
                  refine wpk fun K hK0=>?_
                  go_simp
                  exact hK0 _ _ ⟨hE,fun k=>if k=8 then .pointer (some ⟨g,(k1+1) * 5+i1 * 5,none⟩) else (if k=7 then .int .i64 (i1:Int) else if k=5 then (.slice (some ⟨g,(k1+1) * 5,none⟩) (n - (k1+1)) (cap - (k1+1))) else ys k),upd_ys (rep_ys (d:=7) (u:=.int .i64 (i1:Int)) (rep_ys (d:=5) (u:=(.slice (some ⟨g,(k1+1) * 5,none⟩) (n - (k1+1)) (cap - (k1+1)))) (hys) rfl) rfl) rfl,(fun h=>h10 (by simpa using h)),(fun h=>h11 (by simpa using h)),FrE4.mk⟩
                · have e8:ys 8=.pointer (some ⟨g,(k1+1) * 5+i1 * 5,none⟩):=hys 8 (hed ⟨8,.data⟩ (by simp) rfl) (by omega)
                  simp only [e8]
                  have c5:=(hrg.ext hE).five hiq heq
                  rw [Nat.add_mul] at c5
                  obtain ⟨c0,c1,c2,c3,c4⟩:=c5
                  refine wpk fun K hK0=>?_
                  go_simp
                  exact hK0 _ _ ⟨hE,fun k=>if k=9 then .agg #[.int .i64 qa.1,.int .i64 qa.2.1,.int .i64 qa.2.2.1,(.slice sb bl bc),.int .i64 qa.2.2.2.2] else (if k=8 then .pointer (some ⟨g,(k1+1) * 5+i1 * 5,none⟩) else ys k),upd_ys (rep_ys (d:=8) (u:=.pointer (some ⟨g,(k1+1) * 5+i1 * 5,none⟩)) (hys) rfl) rfl,(fun h=>h10 (by simpa using h)),(fun h=>h11 (by simpa using h)),FrE4.mk⟩
                · have e0:ys 0=.func (.func 31) #[] #[]:=hys 0 (hed ⟨0,.data⟩ (by simp) rfl) (by omega)
                  have e4:ys 4=.agg #[.int .i64 pa.1,.int .i64 pa.2.1,.int .i64 pa.2.2.1,(.slice sa al ac),.int .i64 pa.2.2.2.2]:=hys 4 (hed ⟨4,.data⟩ (by simp) rfl) (by omega)
                  have e9:ys 9=.agg #[.int .i64 qa.1,.int .i64 qa.2.1,.int .i64 qa.2.2.1,(.slice sb bl bc),.int .i64 qa.2.2.2.2]:=hys 9 (hed ⟨9,.data⟩ (by simp) rfl) (by omega)
                  simp only [e0,e4,e9]
                  have cc:=eq_ok (hsp.ext hE) (hsq.ext hE)
                  refine wpk fun K hK0=>?_
                  go_simp
                  refine cc.mono ?_
                  rintro e w10 ⟨rfl,q10,os10,rfl⟩
                  exact hK0 _ _ ⟨hE.trans (ext_grow _ _ _),fun k=>if k=10 then .bool (decide (cmpA pa qa=0)) else (if k=9 then .agg #[.int .i64 qa.1,.int .i64 qa.2.1,.int .i64 qa.2.2.1,(.slice sb bl bc),.int .i64 qa.2.2.2.2] else if k=4 then .agg #[.int .i64 pa.1,.int .i64 pa.2.1,.int .i64 pa.2.2.1,(.slice sa al ac),.int .i64 pa.2.2.2.2] else if k=0 then .func (.func 31) #[] #[] else ys k),upd_no (rep_ys (d:=9) (u:=.agg #[.int .i64 qa.1,.int .i64 qa.2.1,.int .i64 qa.2.2.1,(.slice sb bl bc),.int .i64 qa.2.2.2.2]) (rep_ys (d:=4) (u:=.agg #[.int .i64 pa.1,.int .i64 pa.2.1,.int .i64 pa.2.2.1,(.slice sa al ac),.int .i64 pa.2.2.2.2]) (rep_ys (d:=0) (u:=.func (.func 31) #[] #[]) (hys) rfl) rfl) rfl) (Nat.le_refl _),(fun _=>rfl),(fun h=>h11 (by simpa using h)),FrE4.mk⟩
                · have e10:=h10 (hed ⟨10,.data⟩ (by simp) rfl)
                  simp only [e10]
                  refine wpk fun K hK0=>?_
                  go_simp
                  exact hK0 _ _ ⟨hE,fun k=>if k=11 then .bool (!decide (cmpA pa qa=0)) else if k=10 then .bool (decide (cmpA pa qa=0)) else ys k,upd_no (rep_no (d:=10) hys (by omega)) (by omega),(fun _=>rfl),(fun _=>rfl),FrE4.mk⟩
              case finB =>
                rintro D a' w9 hall ⟨hE,ys,hys,h10,h11,hfr⟩
                refine hfr.elim ?_
                intro x2 x3 x4 x8 x9 x10 x11 x12 x13 x14 x15 x16 x17 x18 x19 x20 x21 x22 x23 x24 x25 x26 x27 x28 x29 x30 x31 x32 x33 x34 x35 x36 x37 x50 x51 x52 x53 x54 x55 x56 x57 x58 x59 x60 x61 x62 x63 x64 x65 hfe
                subst hfe
                have e10:=h10 (hall 10 (by decide))
                have e11:=h11 (hall 11 (by decide))
                rw [e11]
                have hrg9:=hrg.ext hE
                clear hys h10 h11 hall
                have hrgk:=hkw.trans (Kx.of_ext hE)
                have hct2:cs.take k=compL (ps.take (k1+1+i1+1)):=hct
                by_cases hz2:cmpA pa qa=0
                · simp only [hz2,decide_true,Bool.not_true]
                  rw [if_pos hz2] at hcs2
                  gi_wp2
                  exact ⟨n - (k1+1) - (i1+1+1),by omega,i1+1,k,cs,by omega,rfl,hka,by omega,hcl,by rw [hcs2]; exact hct,hcd,hrg9,hrgk,FrE2.mk⟩
                · simp only [hz2,decide_false,Bool.not_false]
                  rw [if_neg hz2] at hcs2
                  have c5:=hrg9.five hip hep
                  rw [Nat.add_mul] at c5
                  obtain ⟨c0,c1,c2,c3,c4⟩:=c5
                  have hkl:k < cs.length:=by omega
                  have zb:=hrg9.frozen
                  have hok9:okE base w9 (pa,.slice sa al ac):=⟨hok.1.same fun b _ hb=>hE.block b hb,hok.2⟩
                  have hset:=hrg9.set hkl hok9
                  obtain ⟨⟨v0,d0⟩,⟨v1,d1⟩,⟨v2,d2⟩,⟨v3,d3⟩,⟨v4,d4⟩⟩:=five_some hrg9 hkl
                  gi_wp2
                  refine ⟨n - (k1+1) - (i1+1+1),by omega,i1+1,k+1,cs.set k (pa,.slice sa al ac),by omega,rfl,by omega,by omega,by rw [List.length_set]; exact hcl,?_,fun t ht=>?_,hset,hrgk.trans set5_kx,FrE2.mk⟩
                  · rw [set_take hkl,hcs2]
                    exact congrArg (·++[(pa,Value.slice sa al ac)]) hct
                  · rw [← hcd t (by omega),List.getD_eq_getElem?_getD,List.getElem?_set_ne (by omega),← List.getD_eq_getElem?_getD]
            · obtain ⟨hi2,hkn⟩:i1+1=n - (k1+1)∧k < cs.length:=by omega
              have hge':¬ ((i1+1:Nat):Int) < ((n - (k1+1):Nat):Int):=by omega
              have hkl:(k:Int)≤(n:Int):=by omega
              have hkc:¬ cap=k:=by omega
              have hkc2:¬ cap - k=0:=by omega
              obtain ⟨w7,hr7,hrg7,hk7⟩:=clear5 hrg hkn 0 (cap - k)
              rw [hcl] at hr7
              rw [show k1+1+i1+1=ps.length by omega,List.take_length] at hct
              have hlk:(compL ps).length=k:=by rw [← hct,List.length_take]; omega
              gi_wp2
              exact ⟨rfl,_,results_tmp (t:=4) rfl _ _ _,(by first | rfl | (rw [hlk]; rfl)),by rw [← hct]; exact hrg7.ag,hkw.trans hk7⟩
        · simp only [hz,decide_false]
          rw [if_neg hz,hck] at hcs
          gi_wp2
          refine ⟨n - (k1+1+1),by omega,k1+1,by omega,rfl,?_,hx8.trans hE,FrE1.mk⟩
          rw [hcs,← hep]
          exact (take_get ps d0E hip).symm
    · obtain rfl:n=k1+1:=by omega
      have hge':¬ ((k1+1:Nat):Int) < ((k1+1:Nat):Int):=by omega
      rw [← hn,List.take_length] at hck
      gi_wp2
      exact ⟨rfl,_,results_tmp (t:=4) rfl _ _ _,(by first | rfl | (rw [hck,hn]; rfl) | (rw [hck]; rfl) | (rw [hn]; rfl)),(by first | exact (hrg0.ext hx8).ag | (rw [hck]; exact (hrg0.ext hx8).ag)),Kx.of_ext hx8⟩
end Go.Proofs.Ytieoleabnjdkfaa
set_option linter.unusedSimpArgs false
set_option linter.unusedVariables false
open Go Go.Proofs Go.X
namespace Go.Proofs.Ytieoleabnjdkfaa
theorem d45_fit (c:Con) {gs:List Grp} (hg:GsOK gs):((d45 c.2.2.1 c gs (idL (min 7 c.2.1.length))).bind fun r=>some (decide (r=0)))=some (fitB c && pileB (c.2.1.length:Int) gs):=by
  obtain ⟨nm,cs,m,s,x1,dg,ti,x2,x3⟩:=c
  have g0:decide (m=m)=true:=by simp
  by_cases c1:m < 1
  · have c1':¬ 1≤m:=by omega
    simp only [d45,letJ,fitB,c1,c1',g0,decide_true,decide_false,Bool.not_true,Bool.not_false,cond_false,cond_true,Bool.false_and,Bool.and_false,Bool.true_and,Bool.and_true,Bool.cond_self,Option.bind_some,show ¬ (5:Int)=0 by omega,show ¬ (4:Int)=0 by omega]
  have c1':1≤m:=by omega
  by_cases c2:3 < m
  · have c2':¬ m≤3:=by omega
    simp only [d45,letJ,fitB,c1,c1',c2,c2',g0,decide_true,decide_false,Bool.not_true,Bool.not_false,cond_false,cond_true,Bool.false_and,Bool.and_false,Bool.true_and,Bool.and_true,Bool.cond_self,Option.bind_some,show ¬ (5:Int)=0 by omega,show ¬ (4:Int)=0 by omega]
  have c2':m≤3:=by omega
  by_cases c3:cs.length < 1
  · have c3':¬ 1≤cs.length:=by omega
    have c3'':(cs.length:Int) < 1:=by omega
    simp only [d45,letJ,fitB,c1,c1',c2,c2',c3',c3'',g0,decide_true,decide_false,Bool.not_true,Bool.not_false,cond_false,cond_true,Bool.false_and,Bool.and_false,Bool.true_and,Bool.and_true,Bool.cond_self,Option.bind_some,show ¬ (5:Int)=0 by omega,show ¬ (4:Int)=0 by omega]
  have c3':1≤cs.length:=by omega
  have c3'':¬ (cs.length:Int) < 1:=by omega
  by_cases c4:7 < cs.length
  · have c4':¬ cs.length≤7:=by omega
    have c4'':(7:Int) < (cs.length:Int):=by omega
    simp only [d45,letJ,fitB,c1,c1',c2,c2',c3',c3'',c4',c4'',g0,decide_true,decide_false,Bool.not_true,Bool.not_false,cond_false,cond_true,Bool.false_and,Bool.and_false,Bool.true_and,Bool.and_true,Bool.cond_self,Option.bind_some,show ¬ (5:Int)=0 by omega,show ¬ (4:Int)=0 by omega]
  have c4':cs.length≤7:=by omega
  have c4'':¬ (7:Int) < (cs.length:Int):=by omega
  by_cases c5:s < 1
  · have c5':¬ 1≤s:=by omega
    simp only [d45,letJ,fitB,c1,c1',c2,c2',c3',c3'',c4',c4'',c5,c5',g0,decide_true,decide_false,Bool.not_true,Bool.not_false,cond_false,cond_true,Bool.false_and,Bool.and_false,Bool.true_and,Bool.and_true,Bool.cond_self,Option.bind_some,show ¬ (5:Int)=0 by omega,show ¬ (4:Int)=0 by omega]
  have c5':1≤s:=by omega
  by_cases c6:5 < s
  · have c6':¬ s≤5:=by omega
    simp only [d45,letJ,fitB,c1,c1',c2,c2',c3',c3'',c4',c4'',c5,c5',c6,c6',g0,decide_true,decide_false,Bool.not_true,Bool.not_false,cond_false,cond_true,Bool.false_and,Bool.and_false,Bool.true_and,Bool.and_true,Bool.cond_self,Option.bind_some,show ¬ (5:Int)=0 by omega,show ¬ (4:Int)=0 by omega]
  have c6':s≤5:=by omega
  have h45:d40 (cs.length:Int) gs=some (goodP (cs.length:Int) gs):=d40_eq (by omega) hg.1 hg.2
  have hpb:pileB (cs.length:Int) gs=goodP (cs.length:Int) gs:=by unfold pileB; rw [decide_eq_true (by omega)]; rfl
  have h68:=d64_id c4'
  have ht1:decide (1≤ti)=!decide (ti < 1):=by rw [← decide_not]; exact decide_eq_decide.2 (by omega)
  have ht2:decide (ti≤3)=!decide (3 < ti):=by rw [← decide_not]; exact decide_eq_decide.2 (by omega)
  simp only [d45,letJ,fitB,hpb,c1,c1',c2,c2',c3',c3'',c4',c4'',c5,c5',c6,c6',h45,h68,ht1,ht2,Nat.min_eq_right c4',g0,decide_true,decide_false,Bool.not_true,Bool.not_false,cond_false,cond_true,Bool.false_and,Bool.and_false,Bool.true_and,Bool.and_true,Bool.cond_self,Option.bind_some,show ¬ (5:Int)=0 by omega,show ¬ (4:Int)=0 by omega,show ¬ (8:Int)=0 by omega]
  generalize decide (m=2)=b1
  generalize decide (1≤dg)=b2
  generalize decide (dg≤6)=b3
  generalize decide (dg=0)=b4
  generalize decide (m=1)=b5
  generalize decide (s=1)=b6
  generalize decide (ti < 1)=b7
  generalize decide (3 < ti)=b8
  generalize goodP (cs.length:Int) gs=b9
  clear h45 hpb h68 ht1 ht2 hg
  revert b1 b2 b3 b4 b5 b6 b7 b8 b9
  decide +kernel
def badW36 (n:Int) (ws:List Int) (i:Nat):Bool:=decide (ws.getD i 0 < 0) || (decide (n≤ws.getD i 0) || decide (ws.getD i 0∈ws.take i))
theorem isB_first {n:Int} {ws:List Int}:isB n ws↔∀ i,i < ws.length→badW36 n ws i=false:=by
  constructor
  · intro h i hi
    have hx:=h.2 (ws.getD i 0) (by rw [getD_get ws 0 hi]; exact List.getElem_mem hi)
    have hnd:ws.getD i 0 ∉ ws.take i:=by
      intro hm
      have h1:=h.1
      rw [← List.take_append_drop i ws] at h1
      have h2:=(List.nodup_append.1 h1).2.2 _ hm (ws.getD i 0) (by rw [List.drop_eq_getElem_cons hi,getD_get ws 0 hi]; exact List.mem_cons.2 (.inl rfl))
      exact h2 rfl
    unfold badW36
    rw [decide_eq_false (by omega),decide_eq_false (by omega),decide_eq_false hnd]
    rfl
  · intro h
    have hb:∀ i,i < ws.length→¬ ws.getD i 0 < 0∧¬ n≤ws.getD i 0∧ws.getD i 0 ∉ ws.take i:=fun i hi=>by
      have:=h i hi
      unfold badW36 at this
      simpa [Bool.or_eq_false_iff] using this
    refine ⟨?_,fun x hx=>?_⟩
    · rw [List.nodup_iff_pairwise_ne,List.pairwise_iff_getElem]
      intro i j hi hj hij he
      obtain ⟨_,_,h3⟩:=hb j hj
      rw [getD_get ws 0 hj,← he] at h3
      exact h3 (List.mem_take_iff_getElem.2 ⟨i,by omega,rfl⟩)
    · obtain ⟨i,hi,rfl⟩:=List.getElem_of_mem hx
      have:=hb i hi
      rw [getD_get ws 0 hi] at this
      omega
theorem d25_eq {c:Con} {gs:List Grp} {ws:List Int} (hc:c.2.1.length≤281474976710656) (hg:GsOK gs) (hw:ws.length≤281474976710656):d25 c gs ws=some ((fitB c && pileB (c.2.1.length:Int) gs) && decide (isB (c.2.1.length:Int) ws)):=by
  unfold d25
  have hmin:(bif (decide (7 < (c.2.1.length:Int))) then (7:Int) else (c.2.1.length:Int))=((min 7 c.2.1.length:Nat):Int):=by
    by_cases h:(7:Int) < (c.2.1.length:Int)
    · simp only [h,decide_true,cond_true]; omega
    · simp only [h,decide_false,cond_false]; omega
  rw [hmin]
  refine while_bind (b:=(gs,ws,c,(c.2.1.length:Int),idL (min 7 c.2.1.length))) (fun i=>(gs,ws,c,(c.2.1.length:Int),idL i,((min 7 c.2.1.length:Nat):Int),(i:Int))) (min 7 c.2.1.length) rfl (fun i hi=>?_) ?_ ?_
  · have e1:(i:Int) < ((min 7 c.2.1.length:Nat):Int):=by omega
    have e2:w ((i:Int)+1)=((i+1:Nat):Int):=by rw [w_id (by omega) (by omega)]; omega
    simp only [e1,e2,decide_true,cond_true,lim_small (idL i) (i:Int) (by rw [idL_len]; omega),idL_succ]
  · have:¬ (((min 7 c.2.1.length:Nat):Int) < ((min 7 c.2.1.length:Nat):Int)):=by omega
    simp only [this,decide_false,cond_false]
  · obtain ⟨r,hr1,hr2⟩:=bind_decide (d45_fit c hg)
    simp only [hr1,Option.bind_some]
    rw [hr2]
    cases hf:(fitB c && pileB (c.2.1.length:Int) gs)
    · rfl
    · simp only [Bool.not_true,cond_false,Bool.true_and]
      refine while_first (fun i=>(ws,(c.2.1.length:Int),ws,(ws.length:Int),(i:Int))) (badW36 (c.2.1.length:Int) ws) ws.length (fun _=>.inr false) (.inl ()) rfl (fun i hi=>?_) ?_ (fun i hi hp hj=>?_) (fun hall=>?_)
      · have h1:(i:Int) < (ws.length:Int):=by omega
        have h3:(0:Int)≤(i:Int):=by omega
        have hwi:w ((i:Int)+1)=((i+1:Nat):Int):=by rw [w_id (by omega) (by omega)]; omega
        have hct:=cutOK_take (i:=i) (n:=ws.length) (Nat.le_of_lt hi)
        simp only [h1,h3,hwi,hct,letJ,decide_true,cond_true,Bool.and_self,Int.toNat_natCast,List.drop_zero]
        unfold badW36
        by_cases g1:ws.getD i 0 < 0
        · simp only [g1,decide_true,Bool.not_true,cond_false,cond_true,Bool.true_or,if_true]
        · by_cases g2:(c.2.1.length:Int)≤ws.getD i 0
          · simp only [g1,g2,decide_true,decide_false,Bool.not_true,Bool.not_false,cond_false,cond_true,Bool.true_or,Bool.or_true,if_true]
          · have h58:=d46_eq (s:=ws.take i) (ws.getD i 0) (by rw [List.length_take]; omega)
            simp only [g1,g2,h58,Option.bind_some,decide_true,decide_false,Bool.not_true,Bool.not_false,cond_false,cond_true,Bool.false_or]
            by_cases g3:ws.getD i 0∈ws.take i
            · simp only [g3,decide_true,cond_true,if_true]
            · simp only [g3,decide_false,cond_false,Bool.false_eq_true,if_false]
      · have:¬ ((ws.length:Int) < (ws.length:Int)):=by omega
        simp only [this,decide_false,cond_false]
      · have:¬ isB (c.2.1.length:Int) ws:=fun h=>by have:=isB_first.1 h i hi; rw [this] at hp; cases hp
        rw [decide_eq_false this]
      · rw [decide_eq_true (isB_first.2 hall)]
end Go.Proofs.Ytieoleabnjdkfaa
set_option linter.unusedSimpArgs false
set_option linter.unusedVariables false
namespace Go.Proofs.Ytieoleabnjdkfaa
open Go Go.Proofs Go.RowKit Go.X
structure CA (F:Nat→Prop) (W:World) (cv:Value) (c:Con):Prop where
  rel:SR Try.prog y37 (stF F W) .bw (0,[]) c cv
  lt:∀ b,F b→b < W.heap.size
theorem CA.keep {X F:Nat→Prop} {W W':World} {cv:Value} {c:Con} (h:CA F W cv c) (hk:Kx X W W') (hx:∀ b,F b→¬ X b):CA F W' cv c :=
  ⟨⟨h.rel.1.fut (.inr rfl) ⟨fun b hb=>hb,fun b _ hb=>hb.elim,fun b hb=>hb.elim (fun hb=>hk.block b (h.lt b hb) (hx b hb)) fun hb=>hb.2.elim⟩ fun _ _=>rfl,h.rel.2⟩,fun b hb=>Nat.lt_of_lt_of_le (h.lt b hb) hk.size⟩
structure WA (F:Nat→Prop) (W:World) (wv:Value) (ws:List Int):Prop where
  rel:SR Try.prog y27 (stF F W) .bw (0,[]) ws wv
  lt:∀ b,F b→b < W.heap.size
theorem WA.keep {X F:Nat→Prop} {W W':World} {wv:Value} {ws:List Int} (h:WA F W wv ws) (hk:Kx X W W') (hx:∀ b,F b→¬ X b):WA F W' wv ws :=
  ⟨⟨h.rel.1.fut (.inr rfl) ⟨fun b hb=>hb,fun b _ hb=>hb.elim,fun b hb=>hb.elim (fun hb=>hk.block b (h.lt b hb) (hx b hb)) fun hb=>hb.2.elim⟩ fun _ _=>rfl,h.rel.2⟩,fun b hb=>Nat.lt_of_lt_of_le (h.lt b hb) hk.size⟩
theorem CA.shape {F:Nat→Prop} {W:World} {cv:Value} {c:Con} (h:CA F W cv c):c.2.1.length≤281474976710656∧∃ s ca cc,cv=.agg #[.string s,.slice ca c.2.1.length cc,.int .i64 c.2.2.1,.int .i64 c.2.2.2.1,.int .i64 c.2.2.2.2.1,.int .i64 c.2.2.2.2.2.1,.int .i64 c.2.2.2.2.2.2.1,.int .i64 c.2.2.2.2.2.2.2.1,.int .i64 c.2.2.2.2.2.2.2.2]:=by
  obtain ⟨⟨h0,h1,h2,h3,h4,h5,h6,h7,h8⟩,hagg⟩:=h.rel
  obtain ⟨cs,rfl,hsz⟩:=hagg rfl
  obtain ⟨s,q0,_⟩:=h0
  obtain ⟨hl,_,ca,len,cc,q1,rfl,_⟩:=h1
  have q2:=h2.1
  have q3:=h3.1
  have q4:=h4.1
  have q5:=h5.1
  have q6:=h6.1
  have q7:=h7.1
  have q8:=h8.1
  simp [vcells,Ty.agg,Ty.size] at q0 q1 q2 q3 q4 q5 q6 q7 q8 hsz
  refine ⟨hl,s,ca,cc,?_⟩
  congr 1
  apply Array.ext
  · simpa using hsz
  · intro i h1 h2
    have hi:i < 9:=by simpa using h2
    have key:∀ (j:Nat) (v:Value) (hj:j < cs.size),cs[j]? = some v→cs[j]=v:=fun j v hj h=>by rw [Array.getElem?_eq_getElem hj] at h; simpa using h
    match i,hi,h1,h2 with
    | 0,_,h1,_=>exact key 0 _ h1 q0
    | 1,_,h1,_=>exact key 1 _ h1 q1
    | 2,_,h1,_=>exact key 2 _ h1 q2
    | 3,_,h1,_=>exact key 3 _ h1 q3
    | 4,_,h1,_=>exact key 4 _ h1 q4
    | 5,_,h1,_=>exact key 5 _ h1 q5
    | 6,_,h1,_=>exact key 6 _ h1 q6
    | 7,_,h1,_=>exact key 7 _ h1 q7
    | 8,_,h1,_=>exact key 8 _ h1 q8
theorem WA.shape {F:Nat→Prop} {W:World} {wv:Value} {ws:List Int} (h:WA F W wv ws):ws.length≤281474976710656∧(∀ x∈ws,wI x)∧∃ A cc,wv=.slice A ws.length cc∧∀ i,i < ws.length→∃ b o,A=some ⟨b,o,none⟩∧F b∧W.cell? ⟨b,o+i,none⟩=some (.int .i64 (ws.getD i 0)):=by
  obtain ⟨hl,_,A,len,cc,q,rfl,_,hc⟩:=h.rel.1
  have q':wv=.slice A ws.length cc:=by simpa [vcells,Ty.agg] using q
  rcases hc with ⟨rfl,_⟩ | ⟨b,o,rfl,hb,hc⟩
  · exact ⟨hl,(fun x hx=>by cases hx),A,cc,q',fun i hi=>by simp at hi⟩
  · refine ⟨hl,fun x hx=>?_,_,cc,q',fun i hi=>⟨b,o,rfl,?_,?_⟩⟩
    · obtain ⟨i,hi,rfl⟩:=List.getElem_of_mem hx
      exact (hc i hi).2
    · have hne:ws ≠ []:=fun e=>by rw [e] at hi; simp at hi
      exact (hb hne).elim id fun h=>h.2.elim
    · have:=(hc i hi).1
      rw [getD_get ws 0 hi]
      simpa [blk,Ty.size,stF] using this
theorem con36 {F:Nat→Prop} {W:World} {cv gv wv:Value} {c:Con} {gs:List Grp} {ws:List Int} (hgs:GsOK gs) (hc:CA F W cv c) (hg:GA F W gv gs) (hw:WA F W wv ws) :
    Calls Try.prog 25 #[cv,gv,wv] W fun e w'=>e=.returned (.bool ((fitB c && pileB (c.2.1.length:Int) gs) && decide (isB (c.2.1.length:Int) ws)))∧Ext W w':=by
  have hwf:(stF F W).WF:=stF_wf hg.lt
  refine Calls.mono (sim25.2 (c,gs,ws,()) _ (d25_eq hc.shape.1 hgs hw.shape.1) (stF F W) hwf [cv,gv,wv] rfl fun i e he=>?_) fun e w' ⟨v,S',h1,h2,h3,h4,_⟩=>?_
  · match i,he with
    | 0,he=>cases he; exact ⟨_,rfl,hc.rel.1.fut (.inr rfl) ⟨fun b hb=>hb,fun b _ hb=>hb.elim,fun b hb=>rfl⟩ fun _ _=>rfl,hc.rel.2⟩
    | 1,he=>cases he; exact ⟨_,rfl,hg.sr fun b hb=>hb⟩
    | 2,he=>cases he; exact ⟨_,rfl,hw.rel.1.fut (.inr rfl) ⟨fun b hb=>hb,fun b _ hb=>hb.elim,fun b hb=>rfl⟩ fun _ _=>rfl,hw.rel.2⟩
    | i+3,he=>cases he
  · subst h1 h2
    have h5:SR Try.prog .bool S' .sh (0,[0]) ((fitB c && pileB (c.2.1.length:Int) gs) && decide (isB (c.2.1.length:Int) ws)) v:=h4
    have h6:=h5.1
    have h7:v=.bool ((fitB c && pileB (c.2.1.length:Int) gs) && decide (isB (c.2.1.length:Int) ws)):=by simpa [Rel,vcells,Ty.agg] using h6
    exact ⟨by rw [h7],frm_ext h3⟩
end Go.Proofs.Ytieoleabnjdkfaa
set_option linter.unusedSimpArgs false
set_option linter.unusedVariables false
namespace Go.Proofs.Ytieoleabnjdkfaa
open Go Go.Proofs Go.RowKit Go.X
theorem compA_ok:∀ (qs:List (Asn × Value)) (p:Asn × Value),(p::qs).Pairwise (fun x y=>¬ cmpA y.1 x.1 < 0)→ascA ((p::compA p qs).map (·.1))∧∀ a,a∈(p::compA p qs).map (·.1)↔a∈(p::qs).map (·.1)
  | [],p,_=>⟨List.pairwise_singleton _ _,fun a=>Iff.rfl⟩
  | q::r,p,h=>by
    obtain ⟨h1,h2⟩:=List.pairwise_cons.1 h
    obtain ⟨i1,i2⟩:=compA_ok r q h2
    by_cases hz:cmpA q.1 p.1=0
    · have e:q.1=p.1:=(cmpA_zero _ _).1 hz
      have ec:compA p (q::r)=compA q r:=by unfold compA; rw [if_pos hz]; cases r <;> rfl
      rw [ec]
      have e2:(p::compA q r).map (·.1)=(q::compA q r).map (·.1):=by rw [List.map_cons,List.map_cons,e]
      rw [e2]
      refine ⟨i1,fun a=>(i2 a).trans ?_⟩
      simp only [List.map_cons,List.mem_cons,e]
      exact ⟨fun h=>.inr h,fun h=>h.elim .inl id⟩
    · have ec:compA p (q::r)=q::compA q r:=by
        show (if cmpA q.1 p.1=0 then compA q r else q::compA q r)=_
        rw [if_neg hz]
      rw [ec]
      have hpq:cmpA p.1 q.1 < 0:=by
        have h3:=h1 q (by simp)
        have h4:=cmpA_anti p.1 q.1
        omega
      refine ⟨List.pairwise_cons.2 ⟨fun a ha=>?_,i1⟩,fun a=>?_⟩
      · rw [List.map_cons,List.mem_cons] at ha
        rcases ha with rfl | ha
        · exact hpq
        · exact cmpA_trans hpq ((List.pairwise_cons.1 i1).1 a ha)
      · have e1:∀ t:List (Asn × Value),a∈(p::t).map (·.1)↔a=p.1∨a∈t.map (·.1):=fun t=>by rw [List.map_cons,List.mem_cons]
        exact ((e1 _).trans (or_congr_right (i2 a))).trans (e1 _).symm
theorem comp_sorted {l:List Asn} {ps qs:List (Asn × Value)} (hl:l=ps.map (·.1)) (hp:qs.Perm ps) (hs:∀ i j,i < j→j < qs.length→¬ cmpA (qs.getD j (zA,undef)).1 (qs.getD i (zA,undef)).1 < 0):(compL qs).map (·.1)=sortedP l:=by
  have hpw:qs.Pairwise (fun x y=>¬ cmpA y.1 x.1 < 0):=by
    rw [List.pairwise_iff_getElem]
    intro i j hi hj hij
    have:=hs i j hij hj
    rw [List.getD_eq_getElem?_getD,List.getD_eq_getElem?_getD,List.getElem?_eq_getElem hi,List.getElem?_eq_getElem hj] at this
    exact this
  have hmem:∀ a,a∈qs.map (·.1)↔a∈l:=fun a=>by rw [hl]; exact (hp.map _).mem_iff
  have key:ascA ((compL qs).map (·.1))∧∀ a,a∈(compL qs).map (·.1)↔a∈qs.map (·.1):=by
    cases qs with
    | nil=>exact ⟨List.Pairwise.nil,fun a=>Iff.rfl⟩
    | cons q r=>exact compA_ok r q hpw
  exact ascA_uniq key.1 (sortedP_asc l) fun a=>((key.2 a).trans (hmem a)).trans sortedP_iff.symm
theorem AR.ag {base g n cap:Nat} {l:List Asn} {w:World} (h:AR base (.slice (some ⟨g,0,none⟩) n cap) l w):∃ ps:List (Asn × Value),l=ps.map (·.1)∧n=ps.length∧AG base g cap ps w:=by
  obtain ⟨ps,rfl,h1,h2⟩:=h
  have hn:n=ps.length:=by
    obtain ⟨_,h⟩:=h1
    rcases h with ⟨h,_⟩ | ⟨g',cap',cur,e,_⟩
    · cases h
    · simp at e; exact e.2.1
  subst hn
  exact ⟨ps,rfl,rfl,h1,h2⟩
theorem AG.ar {base g cap:Nat} {ps:List (Asn × Value)} {w:World} (h:AG base g cap ps w):AR base (.slice (some ⟨g,0,none⟩) ps.length cap) (ps.map (·.1)) w:=⟨ps,rfl,h.1,h.2⟩
end Go.Proofs.Ytieoleabnjdkfaa
set_option linter.unusedSimpArgs false
set_option linter.unusedVariables false
set_option linter.unnecessarySimpa false
namespace Go.Proofs.Ytieoleabnjdkfaa
open Go Go.Proofs Go.RowKit Go.X
attribute [local go_sem] Oper.semAt_some
def FrI1 (gv wv ov:Value) (B n i:Nat) (a:Act):Prop:=∃ v:Nat→Value,a={ tmps:=#[v 0,gv,wv,v 3,v 4,v 5,v 6,v 7,.int .i64 (n:Int),ov,.pointer (some ⟨B,0,none⟩),v 11,v 12,v 13,v 14,v 15,v 16,v 17,v 18,v 19,v 20,v 21,v 22,v 23,v 24,v 25,v 26,v 27,v 28,v 29,v 30,v 31,v 32,v 33,v 34,v 35,v 36,v 37,v 38,v 39,v 40,v 41,v 42,v 43,v 44,v 45,v 46,v 47,v 48,.int .i64 (n:Int),.int .i64 (i:Int),v 51,v 52,v 53,v 54,v 55,v 56,v 57,v 58,v 59,v 60,v 61,v 62,v 63,v 64,v 65,v 66,v 67,v 68,v 69,v 70,v 71,v 72,v 73,v 74,v 75,v 76,v 77,v 78,v 79,v 80,v 81,v 82,v 83,v 84,v 85,v 86,v 87,v 88,v 89],defers:=[] }
theorem FrI1.mk {gv wv ov:Value} {B n i:Nat} {x0 x3 x4 x5 x6 x7 x11 x12 x13 x14 x15 x16 x17 x18 x19 x20 x21 x22 x23 x24 x25 x26 x27 x28 x29 x30 x31 x32 x33 x34 x35 x36 x37 x38 x39 x40 x41 x42 x43 x44 x45 x46 x47 x48 x51 x52 x53 x54 x55 x56 x57 x58 x59 x60 x61 x62 x63 x64 x65 x66 x67 x68 x69 x70 x71 x72 x73 x74 x75 x76 x77 x78 x79 x80 x81 x82 x83 x84 x85 x86 x87 x88 x89:Value}:FrI1 gv wv ov B n i { tmps:=#[x0,gv,wv,x3,x4,x5,x6,x7,.int .i64 (n:Int),ov,.pointer (some ⟨B,0,none⟩),x11,x12,x13,x14,x15,x16,x17,x18,x19,x20,x21,x22,x23,x24,x25,x26,x27,x28,x29,x30,x31,x32,x33,x34,x35,x36,x37,x38,x39,x40,x41,x42,x43,x44,x45,x46,x47,x48,.int .i64 (n:Int),.int .i64 (i:Int),x51,x52,x53,x54,x55,x56,x57,x58,x59,x60,x61,x62,x63,x64,x65,x66,x67,x68,x69,x70,x71,x72,x73,x74,x75,x76,x77,x78,x79,x80,x81,x82,x83,x84,x85,x86,x87,x88,x89],defers:=[] }:=⟨fun k=>([x0,undef,undef,x3,x4,x5,x6,x7,undef,undef,undef,x11,x12,x13,x14,x15,x16,x17,x18,x19,x20,x21,x22,x23,x24,x25,x26,x27,x28,x29,x30,x31,x32,x33,x34,x35,x36,x37,x38,x39,x40,x41,x42,x43,x44,x45,x46,x47,x48,undef,undef,x51,x52,x53,x54,x55,x56,x57,x58,x59,x60,x61,x62,x63,x64,x65,x66,x67,x68,x69,x70,x71,x72,x73,x74,x75,x76,x77,x78,x79,x80,x81,x82,x83,x84,x85,x86,x87,x88,x89]:List Value).getD k undef,rfl⟩
theorem FrI1.elim {gv wv ov:Value} {B n i:Nat} {a:Act} {P:Prop} (h:FrI1 gv wv ov B n i a) (k:∀ v:Nat→Value,a={ tmps:=#[v 0,gv,wv,v 3,v 4,v 5,v 6,v 7,.int .i64 (n:Int),ov,.pointer (some ⟨B,0,none⟩),v 11,v 12,v 13,v 14,v 15,v 16,v 17,v 18,v 19,v 20,v 21,v 22,v 23,v 24,v 25,v 26,v 27,v 28,v 29,v 30,v 31,v 32,v 33,v 34,v 35,v 36,v 37,v 38,v 39,v 40,v 41,v 42,v 43,v 44,v 45,v 46,v 47,v 48,.int .i64 (n:Int),.int .i64 (i:Int),v 51,v 52,v 53,v 54,v 55,v 56,v 57,v 58,v 59,v 60,v 61,v 62,v 63,v 64,v 65,v 66,v 67,v 68,v 69,v 70,v 71,v 72,v 73,v 74,v 75,v 76,v 77,v 78,v 79,v 80,v 81,v 82,v 83,v 84,v 85,v 86,v 87,v 88,v 89],defers:=[] }→P):P:=match h with | ⟨v,e⟩=>k v e
def FrI2 (gv wv ov:Value) (B n ln i:Nat) (a:Act):Prop:=∃ v:Nat→Value,a={ tmps:=#[v 0,gv,wv,.pointer (some ⟨B,0,none⟩),v 4,v 5,v 6,v 7,.int .i64 (n:Int),ov,v 10,v 11,v 12,v 13,v 14,v 15,v 16,v 17,v 18,v 19,v 20,v 21,v 22,v 23,v 24,v 25,v 26,v 27,v 28,v 29,v 30,v 31,v 32,v 33,v 34,v 35,v 36,v 37,v 38,v 39,v 40,v 41,v 42,v 43,v 44,v 45,v 46,v 47,v 48,v 49,v 50,v 51,v 52,v 53,v 54,v 55,v 56,v 57,v 58,v 59,v 60,v 61,v 62,v 63,v 64,wv,.int .i64 (ln:Int),.int .i64 (i:Int),v 68,v 69,v 70,v 71,v 72,v 73,v 74,v 75,v 76,v 77,v 78,v 79,v 80,v 81,v 82,v 83,v 84,v 85,v 86,v 87,v 88,v 89],defers:=[] }
theorem FrI2.mk {gv wv ov:Value} {B n ln i:Nat} {x0 x4 x5 x6 x7 x10 x11 x12 x13 x14 x15 x16 x17 x18 x19 x20 x21 x22 x23 x24 x25 x26 x27 x28 x29 x30 x31 x32 x33 x34 x35 x36 x37 x38 x39 x40 x41 x42 x43 x44 x45 x46 x47 x48 x49 x50 x51 x52 x53 x54 x55 x56 x57 x58 x59 x60 x61 x62 x63 x64 x68 x69 x70 x71 x72 x73 x74 x75 x76 x77 x78 x79 x80 x81 x82 x83 x84 x85 x86 x87 x88 x89:Value}:FrI2 gv wv ov B n ln i { tmps:=#[x0,gv,wv,.pointer (some ⟨B,0,none⟩),x4,x5,x6,x7,.int .i64 (n:Int),ov,x10,x11,x12,x13,x14,x15,x16,x17,x18,x19,x20,x21,x22,x23,x24,x25,x26,x27,x28,x29,x30,x31,x32,x33,x34,x35,x36,x37,x38,x39,x40,x41,x42,x43,x44,x45,x46,x47,x48,x49,x50,x51,x52,x53,x54,x55,x56,x57,x58,x59,x60,x61,x62,x63,x64,wv,.int .i64 (ln:Int),.int .i64 (i:Int),x68,x69,x70,x71,x72,x73,x74,x75,x76,x77,x78,x79,x80,x81,x82,x83,x84,x85,x86,x87,x88,x89],defers:=[] }:=⟨fun k=>([x0,undef,undef,undef,x4,x5,x6,x7,undef,undef,x10,x11,x12,x13,x14,x15,x16,x17,x18,x19,x20,x21,x22,x23,x24,x25,x26,x27,x28,x29,x30,x31,x32,x33,x34,x35,x36,x37,x38,x39,x40,x41,x42,x43,x44,x45,x46,x47,x48,x49,x50,x51,x52,x53,x54,x55,x56,x57,x58,x59,x60,x61,x62,x63,x64,undef,undef,undef,x68,x69,x70,x71,x72,x73,x74,x75,x76,x77,x78,x79,x80,x81,x82,x83,x84,x85,x86,x87,x88,x89]:List Value).getD k undef,rfl⟩
theorem FrI2.elim {gv wv ov:Value} {B n ln i:Nat} {a:Act} {P:Prop} (h:FrI2 gv wv ov B n ln i a) (k:∀ v:Nat→Value,a={ tmps:=#[v 0,gv,wv,.pointer (some ⟨B,0,none⟩),v 4,v 5,v 6,v 7,.int .i64 (n:Int),ov,v 10,v 11,v 12,v 13,v 14,v 15,v 16,v 17,v 18,v 19,v 20,v 21,v 22,v 23,v 24,v 25,v 26,v 27,v 28,v 29,v 30,v 31,v 32,v 33,v 34,v 35,v 36,v 37,v 38,v 39,v 40,v 41,v 42,v 43,v 44,v 45,v 46,v 47,v 48,v 49,v 50,v 51,v 52,v 53,v 54,v 55,v 56,v 57,v 58,v 59,v 60,v 61,v 62,v 63,v 64,wv,.int .i64 (ln:Int),.int .i64 (i:Int),v 68,v 69,v 70,v 71,v 72,v 73,v 74,v 75,v 76,v 77,v 78,v 79,v 80,v 81,v 82,v 83,v 84,v 85,v 86,v 87,v 88,v 89],defers:=[] }→P):P:=match h with | ⟨v,e⟩=>k v e
set_option maxRecDepth 100000 in
set_option maxHeartbeats 8000000 in
theorem assert_bad {c:Con} {gs:List Grp} {ws:List Int} (hgs:GsOK gs) {F:Nat→Prop} {W:World} {cv gv wv:Value} (hc:CA F W cv c) (hg:GA F W gv gs) (hw:WA F W wv ws) (hb:((fitB c && pileB (c.2.1.length:Int) gs) && decide (isB (c.2.1.length:Int) ws))=false) :
    Calls Try.prog 13 #[cv,gv,wv] W fun e W'=>∃ v,e=.returned (.tuple #[v,.bool (derP c gs ws).2])∧AR W.heap.size v (derP c gs ws).1 W'∧Ext W W':=by
  have hder:derP c gs ws=([],false):=by
    unfold derP
    rw [if_neg fun h=>by rw [h.1,decide_eq_true h.2] at hb; cases hb]
  have hin:∀ c:Int,0≤c→c≤1000→IntKind.i64.wrap c=c:=fun c h0 h1=>w_id (by omega) (by omega)
  obtain ⟨hcl,s0,ca,cc,hcv⟩:=hc.shape
  obtain ⟨hwl,hww,wa,wc,hwv,hwc⟩:=hw.shape
  have hgv:∃ ga gl gc,gv=.slice ga gl gc:=by
    obtain ⟨_,_,a,len,cap,h,_⟩:=hg.rel.1
    exact ⟨a,len,cap,by simpa [vcells,Ty.agg] using h⟩
  obtain ⟨ga,gl,gc,rfl⟩:=hgv
  refine (callsIn_wide (n:=0)).1 (callsIn_of_wp Try.func13 rfl trivial ?_ rfl)
  simp only [Try.ntmps13,List.size_toArray,List.length_cons,List.length_nil,Nat.reduceAdd,Nat.reduceSub,Array.replicate_succ,Array.replicate_zero,List.push_toArray,List.append_toArray,List.nil_append,List.cons_append]
  have fd:Fence.wide.depth=none:=rfl
  have f36:Fence.wide.fn 25:=trivial
  have f18:Fence.wide.fn 11:=trivial
  have f37:Fence.wide.fn 21:=trivial
  have f38:Fence.wide.fn 26:=trivial
  have f23:Fence.wide.fn 27:=trivial
  have f39:Fence.wide.fn 28:=trivial
  have f41:Fence.wide.fn 30:=trivial
  subst hcv hwv
  have e1:=Ext.alloc W (.cells #[.string s0,.slice ca c.2.1.length cc,.int .i64 c.2.2.1,.int .i64 c.2.2.2.1,.int .i64 c.2.2.2.2.1,.int .i64 c.2.2.2.2.2.1,.int .i64 c.2.2.2.2.2.2.1,.int .i64 c.2.2.2.2.2.2.2.1,.int .i64 c.2.2.2.2.2.2.2.2] 38)
  have n1:=own_new W #[.string s0,.slice ca c.2.1.length cc,.int .i64 c.2.2.1,.int .i64 c.2.2.2.1,.int .i64 c.2.2.2.2.1,.int .i64 c.2.2.2.2.2.1,.int .i64 c.2.2.2.2.2.2.1,.int .i64 c.2.2.2.2.2.2.2.1,.int .i64 c.2.2.2.2.2.2.2.2] 38
  obtain ⟨w1,hw1⟩:∃ w1,W.alloc (.cells #[.string s0,.slice ca c.2.1.length cc,.int .i64 c.2.2.1,.int .i64 c.2.2.2.1,.int .i64 c.2.2.2.2.1,.int .i64 c.2.2.2.2.2.1,.int .i64 c.2.2.2.2.2.2.1,.int .i64 c.2.2.2.2.2.2.2.1,.int .i64 c.2.2.2.2.2.2.2.2] 38)=w1:=⟨_,rfl⟩
  rw [hw1] at e1 n1
  have a0:=n1.cell (i:=0) (by simp)
  have a1:=n1.cell (i:=1) (by simp)
  have a2:=n1.cell (i:=2) (by simp)
  have a3:=n1.cell (i:=3) (by simp)
  have a4:=n1.cell (i:=4) (by simp)
  have a5:=n1.cell (i:=5) (by simp)
  have a6:=n1.cell (i:=6) (by simp)
  have a7:=n1.cell (i:=7) (by simp)
  have a8:=n1.cell (i:=8) (by simp)
  simp at a0 a1 a2 a3 a4 a5 a6 a7 a8
  have kA:Kx (fun _=>False) W w1:=Kx.of_ext e1
  have c36:=con36 hgs (hc.keep kA fun _ _ h=>h) (hg.keep kA fun _ _ h=>h) (hw.keep kA fun _ _ h=>h)
  rw [hb] at c36
  clear hb
  gi_wp2_with (first
    | (gi_at_call 25; refine (callsIn_wide.2 c36).mono ?_; rintro e w2 ⟨rfl,he2⟩
       have n2:=n1.ext he2
       have b1:=n2.cell (i:=1) (by simp)
       have b2:=n2.cell (i:=2) (by simp)
       have b3:=n2.cell (i:=3) (by simp)
       simp at b1 b2 b3))
  exact ⟨rfl,_,results_tmp2 (t:=6) (u:=7) rfl _ _ _,_,by (first | rfl | (rw [hder]; rfl)),(by rw [hder]; exact AR.nil _ _),e1.trans he2⟩
end Go.Proofs.Ytieoleabnjdkfaa
set_option linter.unusedSimpArgs false
set_option linter.unusedVariables false
set_option linter.unnecessarySimpa false
namespace Go.Proofs.Ytieoleabnjdkfaa
open Go Go.Proofs Go.RowKit Go.X
attribute [local go_sem] Oper.semAt_some
set_option maxRecDepth 100000 in
set_option maxHeartbeats 8000000 in
theorem assert_few {c:Con} {gs:List Grp} {ws:List Int} (hgs:GsOK gs) {F:Nat→Prop} {W:World} {cv gv wv:Value} (hc:CA F W cv c) (hg:GA F W gv gs) (hw:WA F W wv ws) (hb:((fitB c && pileB (c.2.1.length:Int) gs) && decide (isB (c.2.1.length:Int) ws))=true) (hns:(c.2.1.length:Int)≤c.2.2.2.1) :
    Calls Try.prog 13 #[cv,gv,wv] W fun e W'=>∃ v,e=.returned (.tuple #[v,.bool (derP c gs ws).2])∧AR W.heap.size v (derP c gs ws).1 W'∧Ext W W':=by
  have hcond:(fitB c && pileB (c.2.1.length:Int) gs)=true∧isB (c.2.1.length:Int) ws:=by
    obtain ⟨h1,h2⟩:=(Bool.and_eq_true _ _).mp hb
    exact ⟨h1,of_decide_eq_true h2⟩
  have hder:derP c gs ws=([],decide ((ws.length:Int)=(c.2.1.length:Int))):=by
    unfold derP
    rw [if_pos hcond,if_pos hns]
  have hin:∀ c:Int,0≤c→c≤1000→IntKind.i64.wrap c=c:=fun c h0 h1=>w_id (by omega) (by omega)
  obtain ⟨hcl,s0,ca,cc,hcv⟩:=hc.shape
  obtain ⟨hwl,hww,wa,wc,hwv,hwc⟩:=hw.shape
  have hgv:∃ ga gl gc,gv=.slice ga gl gc:=by
    obtain ⟨_,_,a,len,cap,h,_⟩:=hg.rel.1
    exact ⟨a,len,cap,by simpa [vcells,Ty.agg] using h⟩
  obtain ⟨ga,gl,gc,rfl⟩:=hgv
  refine (callsIn_wide (n:=0)).1 (callsIn_of_wp Try.func13 rfl trivial ?_ rfl)
  simp only [Try.ntmps13,List.size_toArray,List.length_cons,List.length_nil,Nat.reduceAdd,Nat.reduceSub,Array.replicate_succ,Array.replicate_zero,List.push_toArray,List.append_toArray,List.nil_append,List.cons_append]
  have fd:Fence.wide.depth=none:=rfl
  have f36:Fence.wide.fn 25:=trivial
  have f18:Fence.wide.fn 11:=trivial
  have f37:Fence.wide.fn 21:=trivial
  have f38:Fence.wide.fn 26:=trivial
  have f23:Fence.wide.fn 27:=trivial
  have f39:Fence.wide.fn 28:=trivial
  have f41:Fence.wide.fn 30:=trivial
  subst hcv hwv
  have e1:=Ext.alloc W (.cells #[.string s0,.slice ca c.2.1.length cc,.int .i64 c.2.2.1,.int .i64 c.2.2.2.1,.int .i64 c.2.2.2.2.1,.int .i64 c.2.2.2.2.2.1,.int .i64 c.2.2.2.2.2.2.1,.int .i64 c.2.2.2.2.2.2.2.1,.int .i64 c.2.2.2.2.2.2.2.2] 38)
  have n1:=own_new W #[.string s0,.slice ca c.2.1.length cc,.int .i64 c.2.2.1,.int .i64 c.2.2.2.1,.int .i64 c.2.2.2.2.1,.int .i64 c.2.2.2.2.2.1,.int .i64 c.2.2.2.2.2.2.1,.int .i64 c.2.2.2.2.2.2.2.1,.int .i64 c.2.2.2.2.2.2.2.2] 38
  obtain ⟨w1,hw1⟩:∃ w1,W.alloc (.cells #[.string s0,.slice ca c.2.1.length cc,.int .i64 c.2.2.1,.int .i64 c.2.2.2.1,.int .i64 c.2.2.2.2.1,.int .i64 c.2.2.2.2.2.1,.int .i64 c.2.2.2.2.2.2.1,.int .i64 c.2.2.2.2.2.2.2.1,.int .i64 c.2.2.2.2.2.2.2.2] 38)=w1:=⟨_,rfl⟩
  rw [hw1] at e1 n1
  have a0:=n1.cell (i:=0) (by simp)
  have a1:=n1.cell (i:=1) (by simp)
  have a2:=n1.cell (i:=2) (by simp)
  have a3:=n1.cell (i:=3) (by simp)
  have a4:=n1.cell (i:=4) (by simp)
  have a5:=n1.cell (i:=5) (by simp)
  have a6:=n1.cell (i:=6) (by simp)
  have a7:=n1.cell (i:=7) (by simp)
  have a8:=n1.cell (i:=8) (by simp)
  simp at a0 a1 a2 a3 a4 a5 a6 a7 a8
  have kA:Kx (fun _=>False) W w1:=Kx.of_ext e1
  have c36:=con36 hgs (hc.keep kA fun _ _ h=>h) (hg.keep kA fun _ _ h=>h) (hw.keep kA fun _ _ h=>h)
  rw [hb] at c36
  clear hb hcond
  gi_wp2_with (first
    | (gi_at_call 25; refine (callsIn_wide.2 c36).mono ?_; rintro e w2 ⟨rfl,he2⟩
       have n2:=n1.ext he2
       have b1:=n2.cell (i:=1) (by simp)
       have b2:=n2.cell (i:=2) (by simp)
       have b3:=n2.cell (i:=3) (by simp)
       simp at b1 b2 b3))
  exact ⟨rfl,_,results_tmp2 (t:=6) (u:=7) rfl _ _ _,_,by (first | rfl | (rw [hder]; rfl)),(by rw [hder]; exact AR.nil _ _),e1.trans he2⟩
end Go.Proofs.Ytieoleabnjdkfaa
set_option linter.unusedSimpArgs false
set_option linter.unusedVariables false
set_option linter.unnecessarySimpa false
namespace Go.Proofs.Ytieoleabnjdkfaa
open Go Go.Proofs Go.RowKit Go.X
attribute [local go_sem] Oper.semAt_some
set_option maxRecDepth 100000 in
set_option maxHeartbeats 8000000 in
theorem assert_len {c:Con} {gs:List Grp} {ws:List Int} (hgs:GsOK gs) {F:Nat→Prop} {W:World} {cv gv wv:Value} (hc:CA F W cv c) (hg:GA F W gv gs) (hw:WA F W wv ws) (hb:((fitB c && pileB (c.2.1.length:Int) gs) && decide (isB (c.2.1.length:Int) ws))=true) (hns:¬ (c.2.1.length:Int)≤c.2.2.2.1) (hws:¬ (ws.length:Int)=c.2.2.2.1) :
    Calls Try.prog 13 #[cv,gv,wv] W fun e W'=>∃ v,e=.returned (.tuple #[v,.bool (derP c gs ws).2])∧AR W.heap.size v (derP c gs ws).1 W'∧Ext W W':=by
  have hcond:(fitB c && pileB (c.2.1.length:Int) gs)=true∧isB (c.2.1.length:Int) ws:=by
    obtain ⟨h1,h2⟩:=(Bool.and_eq_true _ _).mp hb
    exact ⟨h1,of_decide_eq_true h2⟩
  have hder:derP c gs ws=([],false):=by
    unfold derP
    rw [if_pos hcond,if_neg hns,if_neg hws]
  have hin:∀ c:Int,0≤c→c≤1000→IntKind.i64.wrap c=c:=fun c h0 h1=>w_id (by omega) (by omega)
  obtain ⟨hcl,s0,ca,cc,hcv⟩:=hc.shape
  obtain ⟨hwl,hww,wa,wc,hwv,hwc⟩:=hw.shape
  have hgv:∃ ga gl gc,gv=.slice ga gl gc:=by
    obtain ⟨_,_,a,len,cap,h,_⟩:=hg.rel.1
    exact ⟨a,len,cap,by simpa [vcells,Ty.agg] using h⟩
  obtain ⟨ga,gl,gc,rfl⟩:=hgv
  refine (callsIn_wide (n:=0)).1 (callsIn_of_wp Try.func13 rfl trivial ?_ rfl)
  simp only [Try.ntmps13,List.size_toArray,List.length_cons,List.length_nil,Nat.reduceAdd,Nat.reduceSub,Array.replicate_succ,Array.replicate_zero,List.push_toArray,List.append_toArray,List.nil_append,List.cons_append]
  have fd:Fence.wide.depth=none:=rfl
  have f36:Fence.wide.fn 25:=trivial
  have f18:Fence.wide.fn 11:=trivial
  have f37:Fence.wide.fn 21:=trivial
  have f38:Fence.wide.fn 26:=trivial
  have f23:Fence.wide.fn 27:=trivial
  have f39:Fence.wide.fn 28:=trivial
  have f41:Fence.wide.fn 30:=trivial
  subst hcv hwv
  have e1:=Ext.alloc W (.cells #[.string s0,.slice ca c.2.1.length cc,.int .i64 c.2.2.1,.int .i64 c.2.2.2.1,.int .i64 c.2.2.2.2.1,.int .i64 c.2.2.2.2.2.1,.int .i64 c.2.2.2.2.2.2.1,.int .i64 c.2.2.2.2.2.2.2.1,.int .i64 c.2.2.2.2.2.2.2.2] 38)
  have n1:=own_new W #[.string s0,.slice ca c.2.1.length cc,.int .i64 c.2.2.1,.int .i64 c.2.2.2.1,.int .i64 c.2.2.2.2.1,.int .i64 c.2.2.2.2.2.1,.int .i64 c.2.2.2.2.2.2.1,.int .i64 c.2.2.2.2.2.2.2.1,.int .i64 c.2.2.2.2.2.2.2.2] 38
  obtain ⟨w1,hw1⟩:∃ w1,W.alloc (.cells #[.string s0,.slice ca c.2.1.length cc,.int .i64 c.2.2.1,.int .i64 c.2.2.2.1,.int .i64 c.2.2.2.2.1,.int .i64 c.2.2.2.2.2.1,.int .i64 c.2.2.2.2.2.2.1,.int .i64 c.2.2.2.2.2.2.2.1,.int .i64 c.2.2.2.2.2.2.2.2] 38)=w1:=⟨_,rfl⟩
  rw [hw1] at e1 n1
  have a0:=n1.cell (i:=0) (by simp)
  have a1:=n1.cell (i:=1) (by simp)
  have a2:=n1.cell (i:=2) (by simp)
  have a3:=n1.cell (i:=3) (by simp)
  have a4:=n1.cell (i:=4) (by simp)
  have a5:=n1.cell (i:=5) (by simp)
  have a6:=n1.cell (i:=6) (by simp)
  have a7:=n1.cell (i:=7) (by simp)
  have a8:=n1.cell (i:=8) (by simp)
  simp at a0 a1 a2 a3 a4 a5 a6 a7 a8
  have kA:Kx (fun _=>False) W w1:=Kx.of_ext e1
  have c36:=con36 hgs (hc.keep kA fun _ _ h=>h) (hg.keep kA fun _ _ h=>h) (hw.keep kA fun _ _ h=>h)
  rw [hb] at c36
  clear hb hcond
  gi_wp2_with (first
    | (gi_at_call 25; refine (callsIn_wide.2 c36).mono ?_; rintro e w2 ⟨rfl,he2⟩
       have n2:=n1.ext he2
       have b1:=n2.cell (i:=1) (by simp)
       have b2:=n2.cell (i:=2) (by simp)
       have b3:=n2.cell (i:=3) (by simp)
       simp at b1 b2 b3))
  exact ⟨rfl,_,results_tmp2 (t:=6) (u:=7) rfl _ _ _,_,by (first | rfl | (rw [hder]; rfl)),(by rw [hder]; exact AR.nil _ _),e1.trans he2⟩
end Go.Proofs.Ytieoleabnjdkfaa
set_option linter.unusedSimpArgs false
set_option linter.unusedVariables false
set_option linter.unnecessarySimpa false
namespace Go.Proofs.Ytieoleabnjdkfaa
open Go Go.Proofs Go.RowKit Go.X
attribute [local go_sem] Oper.semAt_some
set_option maxRecDepth 100000 in
set_option maxHeartbeats 8000000 in
theorem assert_zero {c:Con} {gs:List Grp} {ws:List Int} (hgs:GsOK gs) {F:Nat→Prop} {W:World} {cv gv wv:Value} (hc:CA F W cv c) (hg:GA F W gv gs) (hw:WA F W wv ws) (hb:((fitB c && pileB (c.2.1.length:Int) gs) && decide (isB (c.2.1.length:Int) ws))=true) (hns:¬ (c.2.1.length:Int)≤c.2.2.2.1) (hws:(ws.length:Int)=c.2.2.2.1) (hm:c.2.2.1=1) (hb0:(setP c.2.1.length gs (ws.getD 0 0)).1=0) :
    Calls Try.prog 13 #[cv,gv,wv] W fun e W'=>∃ v,e=.returned (.tuple #[v,.bool (derP c gs ws).2])∧AR W.heap.size v (derP c gs ws).1 W'∧Ext W W':=by
  obtain ⟨nm,cs,m,s,z1,z2,z3,z4,z5⟩:=c
  dsimp only at hb hns hws hm hb0 hc
  subst hws
  subst hm
  have hcond:(fitB (nm,cs,1,(ws.length:Int),z1,z2,z3,z4,z5) && pileB (cs.length:Int) gs)=true∧isB (cs.length:Int) ws:=by
    obtain ⟨h1,h2⟩:=(Bool.and_eq_true _ _).mp hb
    exact ⟨h1,of_decide_eq_true h2⟩
  have hws1:ws.length=1:=by
    obtain ⟨hfit,hpb⟩:=(Bool.and_eq_true _ _).mp hcond.1
    obtain ⟨_,_,_,_,_,_,hirv⟩:=fit_n hfit
    have:=hirv rfl
    dsimp only at this
    omega
  have hder:derP (nm,cs,1,(ws.length:Int),z1,z2,z3,z4,z5) gs ws=([],false):=by
    unfold derP
    rw [if_pos hcond,if_neg hns,if_pos rfl,if_pos rfl,if_pos (by dsimp only; omega)]
  have hbest:=hb0
  have hwn:wI (cs.length:Int):=by
    obtain ⟨hfit,hpb⟩:=(Bool.and_eq_true _ _).mp hcond.1
    obtain ⟨hn1,hn7,_⟩:=fit_n hfit
    dsimp only at hn1 hn7
    exact w_id (by omega) (by omega)
  have hin:∀ c:Int,0≤c→c≤1000→IntKind.i64.wrap c=c:=fun c h0 h1=>w_id (by omega) (by omega)
  obtain ⟨hcl,s0,ca,cc,hcv⟩:=hc.shape
  try dsimp only at hcv
  obtain ⟨hwl,hww,wa,wc,hwv,hwc⟩:=hw.shape
  have hgv:∃ ga gl gc,gv=.slice ga gl gc:=by
    obtain ⟨_,_,a,len,cap,h,_⟩:=hg.rel.1
    exact ⟨a,len,cap,by simpa [vcells,Ty.agg] using h⟩
  obtain ⟨ga,gl,gc,rfl⟩:=hgv
  refine (callsIn_wide (n:=0)).1 (callsIn_of_wp Try.func13 rfl trivial ?_ rfl)
  simp only [Try.ntmps13,List.size_toArray,List.length_cons,List.length_nil,Nat.reduceAdd,Nat.reduceSub,Array.replicate_succ,Array.replicate_zero,List.push_toArray,List.append_toArray,List.nil_append,List.cons_append]
  have fd:Fence.wide.depth=none:=rfl
  have f36:Fence.wide.fn 25:=trivial
  have f18:Fence.wide.fn 11:=trivial
  have f37:Fence.wide.fn 21:=trivial
  have f38:Fence.wide.fn 26:=trivial
  have f23:Fence.wide.fn 27:=trivial
  have f39:Fence.wide.fn 28:=trivial
  have f41:Fence.wide.fn 30:=trivial
  subst hcv hwv
  have e1:=Ext.alloc W (.cells #[.string s0,.slice ca cs.length cc,.int .i64 1,.int .i64 (ws.length:Int),.int .i64 z1,.int .i64 z2,.int .i64 z3,.int .i64 z4,.int .i64 z5] 38)
  have n1:=own_new W #[.string s0,.slice ca cs.length cc,.int .i64 1,.int .i64 (ws.length:Int),.int .i64 z1,.int .i64 z2,.int .i64 z3,.int .i64 z4,.int .i64 z5] 38
  obtain ⟨w1,hw1⟩:∃ w1,W.alloc (.cells #[.string s0,.slice ca cs.length cc,.int .i64 1,.int .i64 (ws.length:Int),.int .i64 z1,.int .i64 z2,.int .i64 z3,.int .i64 z4,.int .i64 z5] 38)=w1:=⟨_,rfl⟩
  rw [hw1] at e1 n1
  have a0:=n1.cell (i:=0) (by simp)
  have a1:=n1.cell (i:=1) (by simp)
  have a2:=n1.cell (i:=2) (by simp)
  have a3:=n1.cell (i:=3) (by simp)
  have a4:=n1.cell (i:=4) (by simp)
  have a5:=n1.cell (i:=5) (by simp)
  have a6:=n1.cell (i:=6) (by simp)
  have a7:=n1.cell (i:=7) (by simp)
  have a8:=n1.cell (i:=8) (by simp)
  simp at a0 a1 a2 a3 a4 a5 a6 a7 a8
  have kA:Kx (fun _=>False) W w1:=Kx.of_ext e1
  have c36:=con36 hgs (hc.keep kA fun _ _ h=>h) (hg.keep kA fun _ _ h=>h) (hw.keep kA fun _ _ h=>h)
  try dsimp only at c36
  rw [hb] at c36
  obtain ⟨wb,wo,rfl,hwF,hwcell⟩:=hwc 0 (by omega)
  rw [Nat.add_zero] at hwcell
  have hwlt:wb < W.heap.size:=hw.lt wb hwF
  have hgt:(0:Int) < (ws.length:Int):=by omega
  generalize hw0:ws.getD 0 0=w0 at hwcell hbest hb0 hder
  have c18:=fun (w2:World) (he:Ext W w2)=>best_ok hwn hgs (hg.keep (Kx.of_ext (X:=fun _=>False) he) fun _ _ h=>h) (wn:=w0)
  clear hb hcond hwc hb0 hws1 hw0
  gi_wp2_with (first
    | (gi_at_call 25; refine (callsIn_wide.2 c36).mono ?_; rintro e w2 ⟨rfl,he2⟩
       have n2:=n1.ext he2
       have b1:=n2.cell (i:=1) (by simp)
       have b2:=n2.cell (i:=2) (by simp)
       have b3:=n2.cell (i:=3) (by simp)
       simp at b1 b2 b3
       have d0:w2.cell? ⟨wb,wo,none⟩=some (.int .i64 w0):=(World.cell?_of_block (w:=W) (a:=⟨wb,wo,none⟩) ((e1.trans he2).block wb hwlt)).trans hwcell
       have c18':=c18 w2 (e1.trans he2)
       rw [Int.toNat_natCast,hbest] at c18')
    | (gi_at_call 11; refine (callsIn_wide.2 c18').mono ?_; rintro e w3 ⟨rfl,he3⟩))
  exact ⟨rfl,_,results_tmp2 (t:=6) (u:=7) rfl _ _ _,_,by (first | rfl | (rw [hder]; rfl)),(by rw [hder]; exact AR.nil _ _),(e1.trans he2).trans he3⟩
end Go.Proofs.Ytieoleabnjdkfaa
set_option linter.unusedSimpArgs false
set_option linter.unusedVariables false
set_option linter.unnecessarySimpa false
namespace Go.Proofs.Ytieoleabnjdkfaa
open Go Go.Proofs Go.RowKit Go.X
open Go.Maps (Keyed)
attribute [local go_sem] Oper.semAt_some
def FrL1 (B:Nat) (tv ov cv:Value) (ln i:Nat) (a:Act):Prop:=∃ (x2 x3 x4 x5 x6 x8 x9 x10 x11 x12 x13 x14 x15 x16 x17 x18 x19 x20 x21 x22 x23 x24 x28 x29 x30 x31 x32 x33 x34 x35 x36 x37:Value),a={ tmps:=#[.pointer (some ⟨B,0,none⟩),tv,x2,x3,x4,x5,x6,ov,x8,x9,x10,x11,x12,x13,x14,x15,x16,x17,x18,x19,x20,x21,x22,x23,x24,cv,.int .i64 (ln:Int),.int .i64 (i:Int),x28,x29,x30,x31,x32,x33,x34,x35,x36,x37],defers:=[] }
theorem FrL1.mk {B:Nat} {tv ov cv:Value} {ln i:Nat} {x2 x3 x4 x5 x6 x8 x9 x10 x11 x12 x13 x14 x15 x16 x17 x18 x19 x20 x21 x22 x23 x24 x28 x29 x30 x31 x32 x33 x34 x35 x36 x37:Value}:FrL1 B tv ov cv ln i { tmps:=#[.pointer (some ⟨B,0,none⟩),tv,x2,x3,x4,x5,x6,ov,x8,x9,x10,x11,x12,x13,x14,x15,x16,x17,x18,x19,x20,x21,x22,x23,x24,cv,.int .i64 (ln:Int),.int .i64 (i:Int),x28,x29,x30,x31,x32,x33,x34,x35,x36,x37],defers:=[] }:=⟨x2,x3,x4,x5,x6,x8,x9,x10,x11,x12,x13,x14,x15,x16,x17,x18,x19,x20,x21,x22,x23,x24,x28,x29,x30,x31,x32,x33,x34,x35,x36,x37,rfl⟩
theorem FrL1.elim {B:Nat} {tv ov cv:Value} {ln i:Nat} {a:Act} {P:Prop} (h:FrL1 B tv ov cv ln i a) (k:∀ (x2 x3 x4 x5 x6 x8 x9 x10 x11 x12 x13 x14 x15 x16 x17 x18 x19 x20 x21 x22 x23 x24 x28 x29 x30 x31 x32 x33 x34 x35 x36 x37:Value),a={ tmps:=#[.pointer (some ⟨B,0,none⟩),tv,x2,x3,x4,x5,x6,ov,x8,x9,x10,x11,x12,x13,x14,x15,x16,x17,x18,x19,x20,x21,x22,x23,x24,cv,.int .i64 (ln:Int),.int .i64 (i:Int),x28,x29,x30,x31,x32,x33,x34,x35,x36,x37],defers:=[] }→P):P:=by
  obtain ⟨x2,x3,x4,x5,x6,x8,x9,x10,x11,x12,x13,x14,x15,x16,x17,x18,x19,x20,x21,x22,x23,x24,x28,x29,x30,x31,x32,x33,x34,x35,x36,x37,e⟩:=h
  exact k x2 x3 x4 x5 x6 x8 x9 x10 x11 x12 x13 x14 x15 x16 x17 x18 x19 x20 x21 x22 x23 x24 x28 x29 x30 x31 x32 x33 x34 x35 x36 x37 e
def lTs (n:Nat) (gs:List Grp) (t:List Int) (l:List Int):List Asn:=l.flatMap fun c=>lT n gs (c::t)
theorem lTs_snoc (n:Nat) (gs:List Grp) (t:List Int) (l:List Int) (c:Int):lTs n gs t (l++[c])=lTs n gs t l++lT n gs (c::t):=by
  unfold lTs
  rw [List.flatMap_append,List.flatMap_singleton]
theorem lTs_len {n:Nat} (hn:n≤7) (gs:List Grp) (t:List Int):∀ (l:List Int),(∀ c∈l,isB n (c::t))→(lTs n gs t l).length≤l.length * 823543
  | [],_=>by simp [lTs]
  | c::l,h=>by
    have ih:=lTs_len hn gs t l fun c hc=>h c (List.mem_cons_of_mem _ hc)
    have h1:=lT_len hn gs (h c (by simp))
    unfold lTs at ih ⊢
    rw [List.flatMap_cons,List.length_append,List.length_cons,Nat.succ_mul]
    omega
set_option maxRecDepth 100000 in
set_option maxHeartbeats 8000000 in
theorem listW_ok {n:Nat} (hn:2≤n∧n≤7) {gs:List Grp} {N:Int} (hp:PileOK (n:Int) gs N) {F:Nat→Prop} {B Mv Mw:Nat}:∀ (k:Nat) (t:List Int),isB n t→0 < t.length→n < k+t.length→k≤8→∀ {nv nw:Nat} (hnv:nv+16 ^ k≤1099511627776) (hnw:nw+16 ^ k≤1099511627776) {X:Nat→Prop} {W:World} (hs:SX X n gs F B Mv Mw nv nw W) (hXl:∀ b,X b→b < W.heap.size) {tv:Value} {tb:Nat} (hti:SI W tv t tb) (hx:¬ Xm Mv Mw tb),
    Calls Try.prog 26 #[.pointer (some ⟨B,0,none⟩),tv] W fun e W'=>∃ v,e=.returned v∧AR W.heap.size v (lT n gs t) W'∧SX X n gs F B Mv Mw (nv+16 ^ k) (nw+16 ^ k) W'∧Kx (Xm Mv Mw) W W':=by
  intro k
  induction k with
  | zero=>intro t ht h0 hk; have:=isB_le ht; omega
  | succ k ih =>
    intro t ht h0 hk hk8 nv nw hnv hnw X W hs hXl tv tb hti hx
    obtain ⟨A,hA1,hA⟩:∃ A,1≤A∧16 ^ k=A:=⟨_,Nat.pow_pos (by omega),rfl⟩
    rw [Nat.pow_succ,hA] at hnv hnw ⊢
    simp only [hA] at ih
    have hV8:∃ V8,V8≤A * 8∧8 ^ (k+1)=V8:=⟨_,by rw [Nat.pow_succ,← hA]; exact Nat.mul_le_mul_right _ (Nat.pow_le_pow_left (by omega) k),rfl⟩
    obtain ⟨V8,hV8,hV⟩:=hV8
    clear hA
    have htl:t.length≤7:=isB_len ht (by omega)
    have hin:∀ c:Int,0≤c→c≤1000→IntKind.i64.wrap c=c:=fun c h0 h1=>w_id (by omega) (by omega)
    obtain ⟨t0,r,rfl⟩:∃ t0 r,t=t0::r:=by
      match t,h0 with
      | t0::r,_=>exact ⟨t0,r,rfl⟩
    obtain ⟨_,_,htb,off,tc,rfl,htc,hcell⟩:=id hti
    refine (callsIn_wide (n:=0)).1 (callsIn_of_wp Try.func26 rfl trivial ?_ rfl)
    simp only [Try.ntmps26,List.size_toArray,List.length_cons,List.length_nil,Nat.reduceAdd,Nat.reduceSub,Array.replicate_succ,Array.replicate_zero,List.push_toArray,List.append_toArray,List.nil_append,List.cons_append]
    have fd:Fence.wide.depth=none:=rfl
    have f65:Fence.wide.fn 43:=trivial
    have f66:Fence.wide.fn 44:=trivial
    have f48:Fence.wide.fn 22:=trivial
    have f38:Fence.wide.fn 26:=trivial
    have hMv:=hs.votes.lt
    have hMw:=hs.vals.lt
    have c65:=own_ok (t0:=t0) (r:=r) ⟨by omega,hn.2⟩ hp (show nv < 1099511627776 by omega) hs hXl ht hti hx
    have hlt:=lT_eq gs hn.2 ht
    have hvalue:∀ (W1:World),SX X n gs F B Mv Mw (nv+1) nw W1→(∀ b,X b→b < W1.heap.size)→SI W1 (.slice (some ⟨tb,off,none⟩) (r.length+1) tc) (t0::r) tb→Calls Try.prog 22 #[.pointer (some ⟨B,0,none⟩),(.slice (some ⟨tb,off,none⟩) (r.length+1) tc)] W1 fun e W'=>e=.returned (.int .i64 (vT n gs (t0::r)))∧SX X n gs F B Mv Mw (nv+1+V8) (nw+V8) W'∧Kx (Xm Mv Mw) W1 W':=by
      intro W1 hs1 hX1 ht1
      rw [← hV]
      exact value_ok hn hp (k+1) (t0::r) ht (by simp) (by omega) (nv:=nv+1) (nw:=nw) (by omega) (by omega) hs1 hX1 ht1 hx
    clear hV
    by_cases hov:ov n gs (t0::r)=vT n gs (t0::r)
    · rw [if_pos hov] at hlt
      have hov':(ownP n gs (t0::r)).2.1=vT n gs (t0::r):=hov
      generalize vT n gs (t0::r)=vv at hov' hvalue
      gi_wp2_with (first
        | (gi_at_call 43; refine (callsIn_wide.2 c65).mono ?_; rintro e w2 ⟨av,rfl,hav,hs2,hk2⟩
           obtain ⟨sv,rfl,hsl,haw⟩:=hav
           obtain ⟨sa,sl,sc,rfl⟩:∃ sa sl sc,sv=.slice sa sl sc:=hsl.slice
           have ex5:=own_store5 (w:=w2) (v0:=.int .i64 (ownP n gs (t0::r)).1.1) (v1:=.int .i64 (ownP n gs (t0::r)).1.2.1) (v2:=.int .i64 (ownP n gs (t0::r)).1.2.2.1) (v3:=.slice sa sl sc) (v4:=.int .i64 (ownP n gs (t0::r)).1.2.2.2.2)
           have nA:=own_new w2 #[.int .i64 0,.int .i64 0,.int .i64 0,.slice none 0 0,.int .i64 0] 50
           simp only at ex5
           obtain ⟨wA,hwA⟩:∃ wA,w2.alloc (.cells #[.int .i64 0,.int .i64 0,.int .i64 0,.slice none 0 0,.int .i64 0] 50)=wA:=⟨_,rfl⟩
           rw [hwA] at ex5 nA
           have n5:=own_set5 (u0:=.int .i64 (ownP n gs (t0::r)).1.1) (u1:=.int .i64 (ownP n gs (t0::r)).1.2.1) (u2:=.int .i64 (ownP n gs (t0::r)).1.2.2.1) (u3:=.slice sa sl sc) (u4:=.int .i64 (ownP n gs (t0::r)).1.2.2.2.2) nA
           have a0:=nA.cell (i:=0) (by simp)
           have a1:=nA.cell (i:=1) (by simp)
           have a2:=nA.cell (i:=2) (by simp)
           have a3:=nA.cell (i:=3) (by simp)
           have a4:=nA.cell (i:=4) (by simp)
           simp at a0 a1 a2 a3 a4
           have az:=nA.frozen
           have hti2:=hti.keep hk2 hx
           obtain ⟨gv2,bv2,hB2,_,_⟩:=id hs2.cell
           have hBlt2:B < w2.heap.size:=(Array.getElem?_eq_some_iff.1 hB2).1
           have hMv2:=hs2.votes.lt
           have hMw2:=hs2.vals.lt)
        | (gi_at_call 22; refine (callsIn_wide.2 (hvalue _ (hs2.ext ex5) (fun b h=>Nat.lt_of_lt_of_le (hXl b h) (Nat.le_trans hk2.size ex5.size)) (hti2.keep (Kx.of_ext (X:=fun _=>False) ex5) id))).mono ?_; rintro e w4 ⟨rfl,hs4,hk4⟩
           have n6:=n5.same (hk4.block _ n5.lt (by rintro (h | h) <;> omega))
           have d0:=n6.cell (i:=0) (by simp)
           have d1:=n6.cell (i:=1) (by simp)
           have d2:=n6.cell (i:=2) (by simp)
           have d3:=n6.cell (i:=3) (by simp)
           have d4:=n6.cell (i:=4) (by simp)
           simp at d0 d1 d2 d3 d4))
      have hk24:Kx (Xm Mv Mw) w2 w4:=(Kx.of_ext ex5).trans hk4
      have hk04:=hk2.trans hk24
      have hsl4:SL (fun b=>b < W.heap.size) w4 (.slice sa sl sc) (ownP n gs (t0::r)).1.2.2.2.1:=hsl.keep (kx_sub hk24 fun b h=>by rcases h with h | h <;> omega)
      have hone:=AR.one (a:=(ownP n gs (t0::r)).1) hsl4 haw hk04.size
      have e9:=Ext.alloc w4 (.cells #[.int .i64 (ownP n gs (t0::r)).1.1,.int .i64 (ownP n gs (t0::r)).1.2.1,.int .i64 (ownP n gs (t0::r)).1.2.2.1,.slice sa sl sc,.int .i64 (ownP n gs (t0::r)).1.2.2.2.2] 50)
      exact ⟨rfl,_,results_tmp (t:=4) rfl _ _ _,_,rfl,by rw [hlt]; exact hone,(hs4.ext e9).mono (by omega) (by omega),hk04.trans (Kx.of_ext e9)⟩
    · rw [if_neg hov] at hlt
      have hov':¬ (ownP n gs (t0::r)).2.1=vT n gs (t0::r):=hov
      have hch:chL n (t0::r) ≠ []:=fun h=>by
        have:=vT_eq gs hn.2 ht
        rw [if_pos h] at this
        exact hov this.symm
      generalize vT n gs (t0::r)=vv at hov' hvalue
      clear hov
      obtain ⟨c0,cs,hcs⟩:∃ c0 cs,chL n (t0::r)=c0::cs:=by
        cases h:chL n (t0::r) with
        | nil=>exact absurd h hch
        | cons a b=>exact ⟨a,b,rfl⟩
      have hcl:(c0::cs).length≤7:=by
        have:=chT_len (t0::r) n
        have h2:(chT (t0::r) n).length=(chL n (t0::r)).length:=List.length_map ..
        rw [h2,hcs] at this
        omega
      rw [hcs] at hlt
      have hkid:∀ c∈c0::cs,isB n (c::t0::r):=fun c hc=>isB_kid ht (by rw [hcs]; exact hc)
      have hc0:0 < (c0::cs).length:=by simp
      generalize c0::cs=L at hcs hcl hlt hkid hc0
      have hL:(L.map (·::t0::r)).length=L.length:=by simp
      gi_wp2_with (first
        | (gi_at_call 43; refine (callsIn_wide.2 c65).mono ?_; rintro e w2 ⟨av,rfl,hav,hs2,hk2⟩
           obtain ⟨sv,rfl,hsl,haw⟩:=hav
           obtain ⟨sa,sl,sc,rfl⟩:∃ sa sl sc,sv=.slice sa sl sc:=hsl.slice
           have ex5:=own_store5 (w:=w2) (v0:=.int .i64 (ownP n gs (t0::r)).1.1) (v1:=.int .i64 (ownP n gs (t0::r)).1.2.1) (v2:=.int .i64 (ownP n gs (t0::r)).1.2.2.1) (v3:=.slice sa sl sc) (v4:=.int .i64 (ownP n gs (t0::r)).1.2.2.2.2)
           have nA:=own_new w2 #[.int .i64 0,.int .i64 0,.int .i64 0,.slice none 0 0,.int .i64 0] 50
           simp only at ex5
           obtain ⟨wA,hwA⟩:∃ wA,w2.alloc (.cells #[.int .i64 0,.int .i64 0,.int .i64 0,.slice none 0 0,.int .i64 0] 50)=wA:=⟨_,rfl⟩
           rw [hwA] at ex5 nA
           have n5:=own_set5 (u0:=.int .i64 (ownP n gs (t0::r)).1.1) (u1:=.int .i64 (ownP n gs (t0::r)).1.2.1) (u2:=.int .i64 (ownP n gs (t0::r)).1.2.2.1) (u3:=.slice sa sl sc) (u4:=.int .i64 (ownP n gs (t0::r)).1.2.2.2.2) nA
           have a0:=nA.cell (i:=0) (by simp)
           have a1:=nA.cell (i:=1) (by simp)
           have a2:=nA.cell (i:=2) (by simp)
           have a3:=nA.cell (i:=3) (by simp)
           have a4:=nA.cell (i:=4) (by simp)
           simp at a0 a1 a2 a3 a4
           have az:=nA.frozen
           have hti2:=hti.keep hk2 hx
           obtain ⟨gv2,bv2,hB2,_,_⟩:=id hs2.cell
           have hBlt2:B < w2.heap.size:=(Array.getElem?_eq_some_iff.1 hB2).1
           have hMv2:=hs2.votes.lt
           have hMw2:=hs2.vals.lt)
        | (gi_at_call 22; refine (callsIn_wide.2 (hvalue _ (hs2.ext ex5) (fun b h=>Nat.lt_of_lt_of_le (hXl b h) (Nat.le_trans hk2.size ex5.size)) (hti2.keep (Kx.of_ext (X:=fun _=>False) ex5) id))).mono ?_; rintro e w4 ⟨rfl,hs4,hk4⟩
           obtain ⟨gv4,bv4,hB4,_,_⟩:=id hs4.cell
           have hk24:Kx (Xm Mv Mw) w2 w4:=(Kx.of_ext ex5).trans hk4
           have hk04:=hk2.trans hk24
           have hti4:=hti2.keep hk24 hx
           have hMv4:=hs4.votes.lt
           have hMw4:=hs4.vals.lt)
        | (gi_at_call 44; refine (callsIn_wide.2 (children_ok ⟨by omega,hn.2⟩ hB4 ht hti4)).mono ?_; rintro e w5 ⟨ov,rfl,hll,he5⟩
           rw [hcs] at hll
           obtain ⟨g,cap,rfl,hg1,hcap,hget⟩:=hll.get hL hc0
           have hs5:=hs4.ext he5))
      refine wpIn_wide.2 (loop_inv (R:=fun m a w=>∃ (i:Nat) (ov:Value),i≤L.length∧m=L.length - i∧(∃ Y:Nat→Prop,(∀ b,b < W.heap.size→Y b→X b)∧(∀ b,X b→Y b)∧(∀ b,Y b→b < w.heap.size)∧(∀ b,ov.ownBlock=some b→Y b)∧SX Y n gs F B Mv Mw (nv+1+V8+A * i) (nw+V8+A * i) w)∧Kx (Xm Mv Mw) W w∧LL w4.heap.size (.slice (some ⟨g,0,none⟩) L.length cap) (L.map (·::t0::r)) w∧AR W.heap.size ov (lTs n gs (t0::r) (L.take i)) w∧FrL1 B (.slice (some ⟨tb,off,none⟩) (r.length+1) tc) ov (.slice (some ⟨g,0,none⟩) L.length cap) L.length i a) (m:=L.length) ?step1 ?init1)
      case init1=>exact ⟨0,_,by omega,by omega,⟨X,fun _ _ h=>h,fun _ h=>h,fun b h=>Nat.lt_of_lt_of_le (hXl b h) (Nat.le_trans hk04.size he5.size),(fun b h=>by cases h),hs5.mono (by omega) (by omega)⟩,hk04.trans (Kx.of_ext he5),hll,AR.nil _ _,FrL1.mk⟩
      case step1 =>
        rintro m a w ⟨i,ov,hi,rfl,⟨Y,hYX,hXY,hYl,hYo,hsw⟩,hkW,hllw,har,hfr⟩
        refine hfr.elim ?_
        intro x2 x3 x4 x5 x6 x8 x9 x10 x11 x12 x13 x14 x15 x16 x17 x18 x19 x20 x21 x22 x23 x24 x28 x29 x30 x31 x32 x33 x34 x35 x36 x37 hfe
        subst hfe
        refine (wpIn_wide (n:=0)).1 ?_
        rcases Nat.lt_or_ge i L.length with hlt2 | hge
        · have hlt':(i:Int) < (L.length:Int):=by omega
          have hwi:IntKind.i64.wrap ((i:Int)+1)=((i+1:Nat):Int):=by rw [hin _ (by omega) (by omega)]; omega
          obtain ⟨cv,cb,hc,hkv,hbv⟩:=hget w hllw i (by rw [hL]; omega)
          rw [List.getElem_map] at hkv
          have hxv:¬ Xm Mv Mw cb:=by rintro (h | h) <;> omega
          have hkb:=hkid _ (List.getElem_mem hlt2)
          have hm7:A * i≤A * 6:=Nat.mul_le_mul_left _ (by omega)
          have hms:A * (i+1)=A * i+A:=Nat.mul_succ _ _
          have c38:=ih (L[i]::t0::r) hkb (by simp) (by rw [List.length_cons]; omega) (by omega) (nv:=nv+1+V8+A * i) (nw:=nw+V8+A * i) (by omega) (by omega) hsw hYl hkv.si hxv
          have hlen1:=lTs_len hn.2 gs (t0::r) (L.take i) fun c hc=>hkid c (List.mem_of_mem_take hc)
          have hlen2:=lT_len hn.2 gs hkb
          have hne:=lT_ne gs hn.2 8 (L[i]::t0::r) hkb (by rw [List.length_cons,List.length_cons]; omega)
          have htk:L.take (i+1)=L.take i++[L[i]]:=(List.take_append_getElem hlt2).symm
          have hsn:=lTs_snoc n gs (t0::r) (L.take i) L[i]
          rw [← htk] at hsn
          rw [List.length_take,Nat.min_eq_left hi] at hlen1
          have hlen3:(lTs n gs (t0::r) (L.take i)).length≤7 * 823543:=Nat.le_trans hlen1 (Nat.mul_le_mul_right _ (by omega))
          gi_wp2_with (first
            | (gi_at_call 26; refine (callsIn_wide.2 c38).mono ?_; rintro e w7 ⟨nv7,rfl,har7,hs7,hk7⟩
               obtain ⟨g7,cap7,rfl,hg7,_⟩:=har7.row hne
               have harw:=har.keep hk7 fun b h=>by rcases h with h | h <;> omega
               obtain ⟨v8,w8,hr8,har8,hgr8,hob8⟩:=AR.append harw har7 hkW.size (Nat.le_trans hkW.size hk7.size) (by omega))
            | (gi_at_builtin; refine wpListIn_append_known rfl _ _ 33 rfl rfl rfl hr8 ?_))
          have hWw:W.heap.size≤w.heap.size:=hkW.size
          have hllw7:LL w4.heap.size (.slice (some ⟨g,0,none⟩) L.length cap) (L.map (·::t0::r)) w7:=hllw.keep hk7 fun b h=>by rcases h with h | h <;> omega
          have hown8:∀ b,ov.ownBlock=some b→W.heap.size≤b:=fun b e=>by
            obtain ⟨_,_,hro,_⟩:=harw
            exact (hro.lt b e).1
          have hll8:LL w4.heap.size (.slice (some ⟨g,0,none⟩) L.length cap) (L.map (·::t0::r)) w8:=by
            obtain ⟨_,_,hro,_⟩:=harw
            exact hllw7.grown hro hgr8
          have hZ:Kx (fun b=>ov.ownBlock=some b) w7 w8:=⟨hgr8.os,hgr8.tape,hgr8.output,hgr8.size,fun b hb hx=>hgr8.block b hb fun e=>hx e.symm⟩
          have hZm:∀ b,Xm Mv Mw b→¬ ov.ownBlock=some b:=fun b h e=>by
            have:=hown8 b e
            rcases h with h | h <;> omega
          have hs8:∃ Y8:Nat→Prop,(∀ b,b < W.heap.size→Y8 b→X b)∧(∀ b,X b→Y8 b)∧(∀ b,Y8 b→b < w8.heap.size)∧(∀ b,v8.ownBlock=some b→Y8 b)∧SX Y8 n gs F B Mv Mw (nv+1+V8+A * i+A) (nw+V8+A * i+A) w8:=by
            rcases hob8 with e | e
            · exact ⟨Y,hYX,hXY,fun b h=>Nat.lt_of_lt_of_le (hYl b h) (Nat.le_trans hk7.size hgr8.size),fun b h=>hYo b (e ▸ h),hs7.keep hZ hYo hZm⟩
            · have hlt8:w7.heap.size < w8.heap.size:=by
                obtain ⟨_,_,hro,_⟩:=har8
                exact (hro.lt _ e).2
              refine ⟨fun b=>Y b∨b=w7.heap.size,fun b hb h=>?_,fun b h=>.inl (hXY b h),fun b h=>?_,fun b h=>?_,?_⟩
              · rcases h with h | h
                · exact hYX b hb h
                · have:=hk7.size; omega
              · rcases h with h | h
                · exact Nat.lt_of_lt_of_le (hYl b h) (Nat.le_trans hk7.size hgr8.size)
                · omega
              · rw [e] at h
                exact .inr (Option.some.inj h).symm
              · exact (hs7.weak (Y:=fun b=>Y b∨b=w7.heap.size) (fun b hb h1 h2=>by rcases h2 with h2 | h2; exact h1 h2; omega) fun b h=>.inl (hs7.xm b h)).keep hZ (fun b h=>.inl (hYo b h)) hZm
          obtain ⟨Y8,y1,y2,y3,y4,y5⟩:=hs8
          refine ⟨L.length - (i+1),by omega,i+1,v8,by omega,rfl,⟨Y8,y1,y2,y3,y4,y5.mono (by omega) (by omega)⟩,kx_grow (hkW.trans hk7) hgr8 hown8,hll8,by rw [hsn]; exact har8,FrL1.mk⟩
        · obtain rfl:i=L.length:=by omega
          have hge':¬ ((L.length:Nat):Int) < (L.length:Int):=by omega
          have hm7:A * L.length≤A * 7:=Nat.mul_le_mul_left _ (by omega)
          rw [List.take_length] at har
          gi_wp2
          exact ⟨rfl,_,results_tmp (t:=4) rfl _ _ _,_,rfl,(by first | exact har | (rw [hlt]; exact har)),(hsw.weak (fun b hb h1 h2=>h1 (hXY b h2)) hs.xm).mono (by omega) (by omega),hkW⟩
end Go.Proofs.Ytieoleabnjdkfaa
set_option linter.unusedSimpArgs false
set_option linter.unusedVariables false
set_option linter.unnecessarySimpa false
namespace Go.Proofs.Ytieoleabnjdkfaa
open Go Go.Proofs Go.RowKit Go.X
attribute [local go_sem] Oper.semAt_some
def RI (n:Nat) (gs:List Grp) (F:Nat→Prop) (w0:Int) (gv wv:Value) (M:Nat) (w4:World) (m:Nat) (a:Act) (w:World):Prop:=∃ (i:Nat) (ov:Value),i≤n∧m=n - i∧(∃ Y:Nat→Prop,(∀ b,Xm M (M+1) b→Y b)∧(∀ b,Y b→b < w.heap.size)∧(∀ b,ov.ownBlock=some b→Y b)∧SX Y n gs F (M+2) M (M+1) (268435456 * i) (268435456 * i) w)∧Kx (Xm M (M+1)) w4 w∧AR w4.heap.size ov (setTo n gs w0 i).2 w∧FrI1 gv wv ov (M+2) n i a
theorem setTo_ne {n:Nat} (hn:n≤7) (h2:2≤n) (gs:List Grp) {wn:Int}:(setTo n gs wn n).2 ≠ []:=by
  have hc:∃ c:Nat,c < n∧(c:Int) ≠ wn:=by
    by_cases h:(0:Int)=wn
    · exact ⟨1,by omega,by omega⟩
    · exact ⟨0,by omega,h⟩
  obtain ⟨c,hcn,hcw⟩:=hc
  have hne:=lT_ne gs hn 8 [(c:Int)] (isB_one hcn) (by simp; omega)
  obtain ⟨a,ha⟩:∃ a,a∈lT n gs [(c:Int)]:=by
    cases h:lT n gs [(c:Int)] with
    | nil=>exact absurd h hne
    | cons x y=>exact ⟨x,by simp⟩
  have:=(setTo_list gs wn (a:=a) n).2 ⟨c,hcn,hcw,ha⟩
  intro h
  rw [h] at this
  cases this
set_option maxRecDepth 100000 in
set_option maxHeartbeats 8000000 in
theorem assert_irv {c:Con} {gs:List Grp} {ws:List Int} (hgs:GsOK gs) {F:Nat→Prop} {W:World} {cv gv wv:Value} (hc:CA F W cv c) (hg:GA F W gv gs) (hw:WA F W wv ws) (hb:((fitB c && pileB (c.2.1.length:Int) gs) && decide (isB (c.2.1.length:Int) ws))=true) (hns:¬ (c.2.1.length:Int)≤c.2.2.2.1) (hws:(ws.length:Int)=c.2.2.2.1) (hm:c.2.2.1=1) (hb0:¬ (setP c.2.1.length gs (ws.getD 0 0)).1=0) :
    Calls Try.prog 13 #[cv,gv,wv] W fun e W'=>∃ v,e=.returned (.tuple #[v,.bool (derP c gs ws).2])∧AR W.heap.size v (derP c gs ws).1 W'∧Ext W W':=by
  obtain ⟨nm,cs,m,s,z1,z2,z3,z4,z5⟩:=c
  dsimp only at hb hns hws hm hb0 hc
  subst hws
  subst hm
  have hcond:(fitB (nm,cs,1,(ws.length:Int),z1,z2,z3,z4,z5) && pileB (cs.length:Int) gs)=true∧isB (cs.length:Int) ws:=by
    obtain ⟨h1,h2⟩:=(Bool.and_eq_true _ _).mp hb
    exact ⟨h1,of_decide_eq_true h2⟩
  have hws1:ws.length=1:=by
    obtain ⟨hfit,hpb⟩:=(Bool.and_eq_true _ _).mp hcond.1
    obtain ⟨_,_,_,_,_,_,hirv⟩:=fit_n hfit
    have:=hirv rfl
    dsimp only at this
    omega
  obtain ⟨hn1,hn7⟩:2≤cs.length∧cs.length≤7:=by
    obtain ⟨hfit,hpb⟩:=(Bool.and_eq_true _ _).mp hcond.1
    obtain ⟨_,hn7,hs1,_⟩:=fit_n hfit
    dsimp only at hn7 hs1
    omega
  have hp:PileOK (cs.length:Int) gs _:=(pileB_ok ((Bool.and_eq_true _ _).mp hcond.1).2).2.2
  have hder:derP (nm,cs,1,(ws.length:Int),z1,z2,z3,z4,z5) gs ws=(sortedP (setTo cs.length gs (ws.getD 0 0) cs.length).2,true):=by
    have hwb:=hcond.2.2 (ws.getD 0 0) (by rw [getD_get ws 0 (by omega)]; exact List.getElem_mem _)
    have hsp:(setP cs.length gs (ws.getD 0 0)).2=(setTo cs.length gs (ws.getD 0 0) cs.length).2:=by
      unfold setP
      rw [if_pos ⟨((Bool.and_eq_true _ _).mp hcond.1).2,hwb⟩]
    have hbd:=setP_bounds (n:=cs.length) gs (ws.getD 0 0)
    unfold derP
    rw [if_pos hcond,if_neg hns,if_pos rfl,if_pos rfl,if_neg (by dsimp only; omega)]
    dsimp only
    rw [hsp]
  have hbest:=(rfl:(setP cs.length gs (ws.getD 0 0)).1=(setP cs.length gs (ws.getD 0 0)).1)
  have hwn:wI (cs.length:Int):=w_id (by omega) (by omega)
  have hin:∀ c:Int,0≤c→c≤1000→IntKind.i64.wrap c=c:=fun c h0 h1=>w_id (by omega) (by omega)
  obtain ⟨hcl,s0,ca,cc,hcv⟩:=hc.shape
  try dsimp only at hcv
  obtain ⟨hwl,hww,wa,wc,hwv,hwc⟩:=hw.shape
  have hgv:∃ ga gl gc,gv=.slice ga gl gc:=by
    obtain ⟨_,_,a,len,cap,h,_⟩:=hg.rel.1
    exact ⟨a,len,cap,by simpa [vcells,Ty.agg] using h⟩
  obtain ⟨ga,gl,gc,rfl⟩:=hgv
  refine (callsIn_wide (n:=0)).1 (callsIn_of_wp Try.func13 rfl trivial ?_ rfl)
  simp only [Try.ntmps13,List.size_toArray,List.length_cons,List.length_nil,Nat.reduceAdd,Nat.reduceSub,Array.replicate_succ,Array.replicate_zero,List.push_toArray,List.append_toArray,List.nil_append,List.cons_append]
  have fd:Fence.wide.depth=none:=rfl
  have f36:Fence.wide.fn 25:=trivial
  have f18:Fence.wide.fn 11:=trivial
  have f37:Fence.wide.fn 21:=trivial
  have f38:Fence.wide.fn 26:=trivial
  have f23:Fence.wide.fn 27:=trivial
  have f39:Fence.wide.fn 28:=trivial
  have f41:Fence.wide.fn 30:=trivial
  subst hcv hwv
  have e1:=Ext.alloc W (.cells #[.string s0,.slice ca cs.length cc,.int .i64 1,.int .i64 (ws.length:Int),.int .i64 z1,.int .i64 z2,.int .i64 z3,.int .i64 z4,.int .i64 z5] 38)
  have n1:=own_new W #[.string s0,.slice ca cs.length cc,.int .i64 1,.int .i64 (ws.length:Int),.int .i64 z1,.int .i64 z2,.int .i64 z3,.int .i64 z4,.int .i64 z5] 38
  obtain ⟨w1,hw1⟩:∃ w1,W.alloc (.cells #[.string s0,.slice ca cs.length cc,.int .i64 1,.int .i64 (ws.length:Int),.int .i64 z1,.int .i64 z2,.int .i64 z3,.int .i64 z4,.int .i64 z5] 38)=w1:=⟨_,rfl⟩
  rw [hw1] at e1 n1
  have a0:=n1.cell (i:=0) (by simp)
  have a1:=n1.cell (i:=1) (by simp)
  have a2:=n1.cell (i:=2) (by simp)
  have a3:=n1.cell (i:=3) (by simp)
  have a4:=n1.cell (i:=4) (by simp)
  have a5:=n1.cell (i:=5) (by simp)
  have a6:=n1.cell (i:=6) (by simp)
  have a7:=n1.cell (i:=7) (by simp)
  have a8:=n1.cell (i:=8) (by simp)
  simp at a0 a1 a2 a3 a4 a5 a6 a7 a8
  have kA:Kx (fun _=>False) W w1:=Kx.of_ext e1
  have c36:=con36 hgs (hc.keep kA fun _ _ h=>h) (hg.keep kA fun _ _ h=>h) (hw.keep kA fun _ _ h=>h)
  try dsimp only at c36
  rw [hb] at c36
  obtain ⟨wb,wo,rfl,hwF,hwcell⟩:=hwc 0 (by omega)
  rw [Nat.add_zero] at hwcell
  have hwlt:wb < W.heap.size:=hw.lt wb hwF
  have hgt:(0:Int) < (ws.length:Int):=by omega
  generalize hw0:ws.getD 0 0=w0 at hwcell hbest hb0 hder
  have c18:=fun (w2:World) (he:Ext W w2)=>best_ok hwn hgs (hg.keep (Kx.of_ext (X:=fun _=>False) he) fun _ _ h=>h) (wn:=w0)
  generalize hbst:(setP cs.length gs w0).1=bst at hbest hb0
  have hbest:=hbst
  clear hbst
  clear hb hcond hwc hws1 hw0
  generalize hnn:cs.length=n at *
  gi_wp2_with (first
    | (gi_at_call 25; refine (callsIn_wide.2 c36).mono ?_; rintro e w2 ⟨rfl,he2⟩
       have n2:=n1.ext he2
       have b1:=n2.cell (i:=1) (by simp)
       have b2:=n2.cell (i:=2) (by simp)
       have b3:=n2.cell (i:=3) (by simp)
       simp at b1 b2 b3
       have d0:w2.cell? ⟨wb,wo,none⟩=some (.int .i64 w0):=(World.cell?_of_block (w:=W) (a:=⟨wb,wo,none⟩) ((e1.trans he2).block wb hwlt)).trans hwcell
       have c18':=c18 w2 (e1.trans he2)
       rw [Int.toNat_natCast,hbest] at c18')
    | (gi_at_call 11; refine (callsIn_wide.2 c18').mono ?_; rintro e w3 ⟨rfl,he3⟩
       have c37:=newSearch_ok (n:=n) ⟨by omega,by omega⟩ hgs (hg.keep (Kx.of_ext (X:=fun _=>False) ((e1.trans he2).trans he3)) fun _ _ h=>h))
    | (gi_at_call 21; refine (callsIn_wide.2 c37).mono ?_; rintro e w4 ⟨rfl,hs4,he4⟩))
  have e4:=((e1.trans he2).trans he3).trans he4
  have hs3:W.heap.size≤w3.heap.size:=((e1.trans he2).trans he3).size
  generalize hM:w3.heap.size=M at hs4 hs3
  refine wpIn_wide.2 (loop_inv (R:=RI n gs F w0 (.slice ga gl gc) (.slice (some ⟨wb,wo,none⟩) ws.length wc) M w4) (m:=n) ?step1 ?init1)
  case init1 =>
    refine ⟨0,_,by omega,by omega,⟨Xm M (M+1),fun _ h=>h,fun b h=>?_,(fun b h=>by cases h),hs4⟩,Kx.refl _ _,AR.nil _ _,FrI1.mk⟩
    rcases h with h | h
    · rw [h]; exact hs4.votes.lt
    · rw [h]; exact hs4.vals.lt
  case step1 =>
    clear n1 n2 a0 a1 a2 a3 a4 a5 a6 a7 a8 b1 b2 b3 c36 c37 c18 c18' hc hg hw kA hgs
    rintro m a w ⟨i,ov,hi,rfl,⟨Y,hXY,hYl,hYo,hsw⟩,hkw,har,hfr⟩
    refine hfr.elim ?_
    intro v hfe
    subst hfe
    refine (wpIn_wide (n:=0)).1 ?_
    have hMw:=hsw.votes.lt
    have hMw2:=hsw.vals.lt
    rcases Nat.lt_or_ge i n with hlt | hge
    · have hlt':(i:Int) < (n:Int):=by omega
      have hwi:IntKind.i64.wrap ((i:Int)+1)=((i+1:Nat):Int):=by rw [hin _ (by omega) (by omega)]; omega
      have dw:w.cell? ⟨wb,wo,none⟩=some (.int .i64 w0):=(World.cell?_of_block (w:=W) (a:=⟨wb,wo,none⟩) ((hkw.block wb (Nat.lt_of_lt_of_le hwlt e4.size) (by rintro (h | h) <;> omega)).trans (e4.block wb hwlt))).trans hwcell
      have hst:=setTo_succ n gs w0 i
      unfold setStep at hst
      by_cases hiw:(i:Int)=w0
      · subst hiw
        rw [if_pos rfl] at hst
        gi_wp2
        exact ⟨n - (i+1),by omega,i+1,ov,by omega,rfl,⟨Y,hXY,hYl,hYo,hsw.mono (by omega) (by omega)⟩,hkw,by rw [hst]; exact har,FrI1.mk⟩
      · rw [if_neg hiw] at hst
        have eA:=Ext.alloc w (.cells #[.int .i64 (i:Int)] 3)
        have hki:KI (w.alloc (.cells #[.int .i64 (i:Int)] 3)) (.slice (some ⟨w.heap.size,0,none⟩) 1 1) [(i:Int)] w.heap.size :=
          ⟨by simp,fun x hx=>by rw [List.mem_singleton.1 hx]; exact hin _ (by omega) (by omega),1,_,rfl,Nat.le_refl _,World.alloc_heap_new _ _,fun j hj=>by have:j=0:=(by simpa using hj); subst this; rfl⟩
        have c38:=listW_ok (n:=n) ⟨by omega,by omega⟩ hp 7 [(i:Int)] (isB_one hlt) (by simp) (by simp; omega) (by omega) (nv:=268435456 * i) (nw:=268435456 * i) (by omega) (by omega) (hsw.ext eA) (fun b h=>Nat.lt_of_lt_of_le (hYl b h) eA.size) hki.si (by rintro (h | h) <;> omega)
        have hlen1:=setTo_len hn7 gs w0 i (by omega)
        have hlen2:=lT_len hn7 gs (isB_one hlt)
        have hne:=lT_ne gs hn7 8 [(i:Int)] (isB_one hlt) (by simp; omega)
        have hlen3:(setTo n gs w0 i).2.length≤7 * 823543:=Nat.le_trans hlen1 (Nat.mul_le_mul_right _ (by omega))
        have hM4:M+1 < w4.heap.size:=hs4.vals.lt
        have harA:=har.ext eA
        have hkA:=hkw.trans (Kx.of_ext (X:=Xm M (M+1)) eA)
        have hbase:w4.heap.size≤(w.alloc (.cells #[.int .i64 (i:Int)] 3)).heap.size:=hkA.size
        clear hlen1 har hbest hb0 hns hder
        gi_wp2_with (first
          | (gi_at_call 26; refine (callsIn_wide.2 c38).mono ?_; rintro e w7 ⟨nv7,rfl,har7,hs7,hk7⟩
             obtain ⟨g7,cap7,rfl,hg7,_⟩:=har7.row hne
             have harw:=harA.keep hk7 fun b h=>by rcases h with h | h <;> omega
             obtain ⟨v8,w8,hr8,har8,hgr8,hob8⟩:=AR.append harw har7 hbase (Nat.le_trans hbase hk7.size) (by omega))
          | (gi_at_builtin; refine wpListIn_append_known rfl _ _ 33 rfl rfl rfl hr8 ?_))
        have hown8:∀ b,ov.ownBlock=some b→w4.heap.size≤b:=fun b e=>by
          obtain ⟨_,_,hro,_⟩:=harw
          exact (hro.lt b e).1
        have hZ:Kx (fun b=>ov.ownBlock=some b) w7 w8:=⟨hgr8.os,hgr8.tape,hgr8.output,hgr8.size,fun b hb hx=>hgr8.block b hb fun e=>hx e.symm⟩
        have hZm:∀ b,Xm M (M+1) b→¬ ov.ownBlock=some b:=fun b h e=>by
          have:=hown8 b e
          rcases h with h | h <;> omega
        have hYl7:∀ b,Y b→b < w7.heap.size:=fun b h=>Nat.lt_of_lt_of_le (hYl b h) (Nat.le_trans eA.size hk7.size)
        have hs8:∃ Y8:Nat→Prop,(∀ b,Xm M (M+1) b→Y8 b)∧(∀ b,Y8 b→b < w8.heap.size)∧(∀ b,v8.ownBlock=some b→Y8 b)∧SX Y8 n gs F (M+2) M (M+1) (268435456 * i+16 ^ 7) (268435456 * i+16 ^ 7) w8:=by
          rcases hob8 with e | e
          · exact ⟨Y,hXY,fun b h=>Nat.lt_of_lt_of_le (hYl7 b h) hgr8.size,fun b h=>hYo b (e ▸ h),hs7.keep hZ hYo hZm⟩
          · have hlt8:w7.heap.size < w8.heap.size:=by
              obtain ⟨_,_,hro,_⟩:=har8
              exact (hro.lt _ e).2
            refine ⟨fun b=>Y b∨b=w7.heap.size,fun b h=>.inl (hXY b h),fun b h=>?_,fun b h=>?_,?_⟩
            · rcases h with h | h
              · exact Nat.lt_of_lt_of_le (hYl7 b h) hgr8.size
              · omega
            · rw [e] at h
              exact .inr (Option.some.inj h).symm
            · exact (hs7.weak (Y:=fun b=>Y b∨b=w7.heap.size) (fun b hb h1 h2=>by rcases h2 with h2 | h2; exact h1 h2; omega) fun b h=>.inl (hs7.xm b h)).keep hZ (fun b h=>.inl (hYo b h)) hZm
        obtain ⟨Y8,y1,y2,y3,y4⟩:=hs8
        refine ⟨n - (i+1),by omega,i+1,v8,by omega,rfl,⟨Y8,y1,y2,y3,y4.mono (by omega) (by omega)⟩,kx_grow (hkA.trans hk7) hgr8 hown8,by rw [hst]; exact har8,FrI1.mk⟩
    · obtain rfl:i=n:=by omega
      have hge':¬ ((i:Nat):Int) < (i:Int):=by omega
      have hneF:=setTo_ne hn7 hn1 gs (wn:=w0)
      have hlbF:(setTo i gs w0 i).2.length≤7 * 823543:=Nat.le_trans (setTo_len hn7 gs w0 i (Nat.le_refl _)) (Nat.mul_le_mul_right _ (by omega))
      clear hbest hb0 hns hsw hYo
      generalize (setTo i gs w0 i).2=LL at har hneF hlbF hder
      obtain ⟨gF,capF,rfl,hgF,hgFl⟩:=har.row hneF
      obtain ⟨psF,hpsF,hplF,hagF⟩:=har.ag
      clear hplF har hneF
      subst hpsF
      simp only [List.length_map]
      rw [List.length_map] at hlbF
      have c39:=sort_ok hagF (by omega)
      gi_wp2_with (first
        | (gi_at_call 28; refine (callsIn_wide.2 c39).mono ?_; rintro e w8 ⟨rfl,qs,hperm,hsort,hag8,hk8⟩
           have c41:=compact_ok hag8 (by rw [hperm.length_eq]; omega)
           rw [hperm.length_eq] at c41)
        | (gi_at_call 30; refine (callsIn_wide.2 c41).mono ?_; rintro e w9 ⟨rfl,hag9,hk9⟩))
      have hcs:=comp_sorted rfl hperm (by first | exact hsort | exact fun i j a b=>Int.not_lt.2 (hsort i j a b))
      have hbl:W.heap.size≤w4.heap.size:=e4.size
      refine ⟨rfl,_,results_tmp2 (t:=6) (u:=7) rfl _ _ _,_,by (first | rfl | (rw [hder]; rfl)),?_,(ext_kx (ext_kx (ext_kx e4 hkw fun b h=>by rcases h with h | h <;> omega) hk8 fun b h=>by subst h; omega) hk9 fun b h=>by subst h; omega)⟩
      rw [hder,← hcs]
      exact hag9.ar.lower hbl
end Go.Proofs.Ytieoleabnjdkfaa
set_option linter.unusedSimpArgs false
set_option linter.unusedVariables false
set_option linter.unnecessarySimpa false
namespace Go.Proofs.Ytieoleabnjdkfaa
open Go Go.Proofs Go.RowKit Go.X
attribute [local go_sem] Oper.semAt_some
theorem con23 {n:Int} {gs:List Grp} (hgs:GsOK gs) {F:Nat→Prop} {W:World} {gv:Value} {x s:Int} (hn:wI n) (hx:wI x) (hs:wI (s+1)) (hg:GA F W gv gs) :
    Calls Try.prog 27 #[.int .i64 n,gv,.agg #[.int .i64 3,.int .i64 x,.int .i64 0,.slice none 0 0,.int .i64 (s+1)]] W fun e w'=>e=.returned (.bool (decide (1≤mrg n gs (quotaA x s))))∧Ext W w':=by
  have hwf:(stF F W).WF:=stF_wf hg.lt
  obtain ⟨a,ha'⟩:∃ a,a=quotaA x s:=⟨_,rfl⟩
  have hl:a.2.2.2.1=[]:=by rw [ha']; rfl
  obtain ⟨av,hav⟩:∃ av:Value,av=.agg #[.int .i64 3,.int .i64 x,.int .i64 0,.slice none 0 0,.int .i64 (s+1)]:=⟨_,rfl⟩
  have ha:AV (fun _=>False) W av a:=by rw [ha',hav]; exact ⟨_,rfl,.inl ⟨rfl,rfl⟩,(by decide:wI 3),hx,(by decide:wI 0),hs⟩
  have hno:∀ b,¬ AF av b:=fun b ⟨_,_,_,_,_,_,_,h⟩=>by rw [hav] at h; simp at h
  rw [← ha',← hav]
  refine Calls.mono (sim27.2 (n,gs,a,()) _ (d27_eq hgs (by rw [hl]; simp)) (stF F W) hwf [.int .i64 n,gv,av] rfl fun i e he=>?_) fun e w' ⟨v,S',h1,h2,h3,h4,_⟩=>?_
  · match i,he with
    | 0,he=>cases he; exact ⟨_,rfl,sr_int (.inl rfl) hn⟩
    | 1,he=>cases he; exact ⟨_,rfl,hg.sr fun b hb=>hb⟩
    | 2,he=>cases he; exact ⟨_,rfl,sr_av (S:=stF F W) ha fun b hb=>absurd hb (hno b)⟩
    | i+3,he=>cases he
  · subst h1 h2
    have h5:SR Try.prog .bool S' .sh (0,[0]) (decide ((tal n gs a).2 < (tal n gs a).1)) v:=h4
    have h6:=h5.1
    have h7:v=.bool (decide ((tal n gs a).2 < (tal n gs a).1)):=by simpa [Rel,vcells,Ty.agg] using h6
    have h8:decide ((tal n gs a).2 < (tal n gs a).1)=decide (1≤mrg n gs a):=by unfold mrg; exact decide_eq_decide.2 (by omega)
    exact ⟨by rw [h7,h8],frm_ext h3⟩
def RQ (k:Nat) (gs:List Grp) (ws:List Int) (gv wv:Value) (B:Nat) (w2:World) (m:Nat) (a:Act) (w:World):Prop:=∃ (i:Nat) (ov:Value),i≤ws.length∧m=ws.length - i∧Ext w2 w∧AR w2.heap.size ov ((ws.take i).map fun x=>quotaA x (ws.length:Int)) w∧((ws.take i).all fun x=>decide (1≤mrg (k:Int) gs (quotaA x (ws.length:Int))))=true∧FrI2 gv wv ov B k ws.length i a
set_option maxRecDepth 100000 in
set_option maxHeartbeats 8000000 in
theorem assert_quota {c:Con} {gs:List Grp} {ws:List Int} (hgs:GsOK gs) {F:Nat→Prop} {W:World} {cv gv wv:Value} (hc:CA F W cv c) (hg:GA F W gv gs) (hw:WA F W wv ws) (hb:((fitB c && pileB (c.2.1.length:Int) gs) && decide (isB (c.2.1.length:Int) ws))=true) (hns:¬ (c.2.1.length:Int)≤c.2.2.2.1) (hws:(ws.length:Int)=c.2.2.2.1) (hm:¬ c.2.2.1=1) :
    Calls Try.prog 13 #[cv,gv,wv] W fun e W'=>∃ v,e=.returned (.tuple #[v,.bool (derP c gs ws).2])∧AR W.heap.size v (derP c gs ws).1 W'∧Ext W W':=by
  obtain ⟨nm,cs,m,s,z1,z2,z3,z4,z5⟩:=c
  dsimp only at hb hns hws hm  hc
  subst hws
  have hcond:(fitB (nm,cs,m,(ws.length:Int),z1,z2,z3,z4,z5) && pileB (cs.length:Int) gs)=true∧isB (cs.length:Int) ws:=by
    obtain ⟨h1,h2⟩:=(Bool.and_eq_true _ _).mp hb
    exact ⟨h1,of_decide_eq_true h2⟩
  obtain ⟨hn1,hn7,hs1,hs5⟩:1≤cs.length∧cs.length≤7∧1≤(ws.length:Int)∧(ws.length:Int)≤5:=by
    obtain ⟨hfit,hpb⟩:=(Bool.and_eq_true _ _).mp hcond.1
    obtain ⟨h1,h2,h3,h4,_⟩:=fit_n hfit
    dsimp only at h1 h2 h3 h4
    exact ⟨h1,h2,h3,h4⟩
  have hwn:wI (cs.length:Int):=w_id (by omega) (by omega)
  have hder0:derP (nm,cs,m,(ws.length:Int),z1,z2,z3,z4,z5) gs ws=if (ws.all fun x=>decide (1≤mrg (cs.length:Int) gs (quotaA x (ws.length:Int))))=true then (sortedP (ws.map fun x=>quotaA x (ws.length:Int)),true) else ([],false):=by
    unfold derP
    rw [if_pos hcond,if_neg hns,if_pos rfl,if_neg hm]
  have hin:∀ c:Int,0≤c→c≤1000→IntKind.i64.wrap c=c:=fun c h0 h1=>w_id (by omega) (by omega)
  obtain ⟨hcl,s0,ca,cc,hcv⟩:=hc.shape
  try dsimp only at hcv
  obtain ⟨hwl,hww,wa,wc,hwv,hwc⟩:=hw.shape
  have hgv:∃ ga gl gc,gv=.slice ga gl gc:=by
    obtain ⟨_,_,a,len,cap,h,_⟩:=hg.rel.1
    exact ⟨a,len,cap,by simpa [vcells,Ty.agg] using h⟩
  obtain ⟨ga,gl,gc,rfl⟩:=hgv
  refine (callsIn_wide (n:=0)).1 (callsIn_of_wp Try.func13 rfl trivial ?_ rfl)
  simp only [Try.ntmps13,List.size_toArray,List.length_cons,List.length_nil,Nat.reduceAdd,Nat.reduceSub,Array.replicate_succ,Array.replicate_zero,List.push_toArray,List.append_toArray,List.nil_append,List.cons_append]
  have fd:Fence.wide.depth=none:=rfl
  have f36:Fence.wide.fn 25:=trivial
  have f18:Fence.wide.fn 11:=trivial
  have f37:Fence.wide.fn 21:=trivial
  have f38:Fence.wide.fn 26:=trivial
  have f23:Fence.wide.fn 27:=trivial
  have f39:Fence.wide.fn 28:=trivial
  have f41:Fence.wide.fn 30:=trivial
  subst hcv hwv
  have e1:=Ext.alloc W (.cells #[.string s0,.slice ca cs.length cc,.int .i64 m,.int .i64 (ws.length:Int),.int .i64 z1,.int .i64 z2,.int .i64 z3,.int .i64 z4,.int .i64 z5] 38)
  have n1:=own_new W #[.string s0,.slice ca cs.length cc,.int .i64 m,.int .i64 (ws.length:Int),.int .i64 z1,.int .i64 z2,.int .i64 z3,.int .i64 z4,.int .i64 z5] 38
  obtain ⟨w1,hw1⟩:∃ w1,W.alloc (.cells #[.string s0,.slice ca cs.length cc,.int .i64 m,.int .i64 (ws.length:Int),.int .i64 z1,.int .i64 z2,.int .i64 z3,.int .i64 z4,.int .i64 z5] 38)=w1:=⟨_,rfl⟩
  rw [hw1] at e1 n1
  have a0:=n1.cell (i:=0) (by simp)
  have a1:=n1.cell (i:=1) (by simp)
  have a2:=n1.cell (i:=2) (by simp)
  have a3:=n1.cell (i:=3) (by simp)
  have a4:=n1.cell (i:=4) (by simp)
  have a5:=n1.cell (i:=5) (by simp)
  have a6:=n1.cell (i:=6) (by simp)
  have a7:=n1.cell (i:=7) (by simp)
  have a8:=n1.cell (i:=8) (by simp)
  simp at a0 a1 a2 a3 a4 a5 a6 a7 a8
  have kA:Kx (fun _=>False) W w1:=Kx.of_ext e1
  have c36:=con36 hgs (hc.keep kA fun _ _ h=>h) (hg.keep kA fun _ _ h=>h) (hw.keep kA fun _ _ h=>h)
  try dsimp only at c36
  rw [hb] at c36
  have hwI:∀ i,i < ws.length→wI (ws.getD i 0):=fun i hi=>hww _ (by rw [getD_get ws 0 hi]; exact List.getElem_mem hi)
  clear hb hcond
  gi_wp2_with (first
    | (gi_at_call 25; refine (callsIn_wide.2 c36).mono ?_; rintro e w2 ⟨rfl,he2⟩
       have n2:=n1.ext he2
       have b1:=n2.cell (i:=1) (by simp)
       have b2:=n2.cell (i:=2) (by simp)
       have b3:=n2.cell (i:=3) (by simp)
       simp at b1 b2 b3))
  have e4:=e1.trans he2
  refine wpIn_wide.2 (loop_inv (R:=RQ cs.length gs ws (.slice ga gl gc) (.slice wa ws.length wc) W.heap.size w2) (m:=ws.length) ?step1 ?init1)
  case init1=>exact ⟨0,_,by omega,by omega,Ext.refl _,AR.nil _ _,rfl,FrI2.mk⟩
  case step1 =>
    clear a0 a1 a2 a3 a4 a5 a6 a7 a8 n1 kA c36 hc hm hns b1 b2 b3
    rintro m a w ⟨i,ov,hi,rfl,hew,har,hall,hfr⟩
    refine hfr.elim ?_
    intro v hfe
    subst hfe
    refine (wpIn_wide (n:=0)).1 ?_
    have hwz:w2.heap.size≤w.heap.size:=hew.size
    have hW2:W.heap.size≤w2.heap.size:=e4.size
    rcases Nat.lt_or_ge i ws.length with hlt | hge
    · have hlt':(i:Int) < (ws.length:Int):=by omega
      have hwi:IntKind.i64.wrap ((i:Int)+1)=((i+1:Nat):Int):=by rw [hin _ (by omega) (by omega)]; omega
      have hsq:IntKind.i64.wrap ((ws.length:Int)+1)=(ws.length:Int)+1:=hin _ (by omega) (by omega)
      obtain ⟨wb,wo,rfl,hwF,hwcell⟩:=hwc i hlt
      have hwlt:wb < W.heap.size:=hw.lt wb hwF
      have dw:w.cell? ⟨wb,wo+i,none⟩=some (.int .i64 (ws.getD i 0)):=(World.cell?_of_block (w:=W) (a:=⟨wb,wo+i,none⟩) ((hew.block wb (Nat.lt_of_lt_of_le hwlt hW2)).trans (e4.block wb hwlt))).trans hwcell
      have nB:=n2.ext hew
      have b3:=nB.cell (i:=3) (by simp)
      simp at b3
      have hxw:=hwI i hlt
      have htk:ws.take (i+1)=ws.take i++[ws.getD i 0]:=by rw [getD_get ws 0 hlt]; exact (List.take_append_getElem hlt).symm
      generalize hx:ws.getD i 0=x at dw hxw htk
      have ex5:=own_store5 (w:=w) (v0:=.int .i64 3) (v1:=.int .i64 x) (v2:=.int .i64 0) (v3:=.slice none 0 0) (v4:=.int .i64 ((ws.length:Int)+1))
      have nA:=own_new w #[.int .i64 0,.int .i64 0,.int .i64 0,.slice none 0 0,.int .i64 0] 50
      simp only at ex5
      obtain ⟨wA,hwA⟩:∃ wA,w.alloc (.cells #[.int .i64 0,.int .i64 0,.int .i64 0,.slice none 0 0,.int .i64 0] 50)=wA:=⟨_,rfl⟩
      rw [hwA] at ex5 nA
      have n5:=own_set5 (u0:=.int .i64 3) (u1:=.int .i64 x) (u2:=.int .i64 0) (u3:=.slice none 0 0) (u4:=.int .i64 ((ws.length:Int)+1)) nA
      have a0:=nA.cell (i:=0) (by simp)
      have a1:=nA.cell (i:=1) (by simp)
      have a2:=nA.cell (i:=2) (by simp)
      have a3:=nA.cell (i:=3) (by simp)
      have a4:=nA.cell (i:=4) (by simp)
      simp at a0 a1 a2 a3 a4
      have az:=nA.frozen
      have c23:=con23 (n:=(cs.length:Int)) (x:=x) (s:=(ws.length:Int)) hgs hwn hxw hsq (hg.keep (Kx.of_ext (X:=fun _=>False) ((e4.trans hew).trans ex5)) fun _ _ h=>h)
      have haw:AW (quotaA x (ws.length:Int)):=by unfold AW quotaA; exact ⟨(by decide:wI 3),hxw,(by decide:wI 0),hsq⟩
      by_cases hho:1≤mrg (cs.length:Int) gs (quotaA x (ws.length:Int))
      · rw [decide_eq_true hho] at c23
        gi_wp2_with (first
          | (gi_at_call 27; refine (callsIn_wide.2 c23).mono ?_; rintro e w6 ⟨rfl,he6⟩
             have n6:=n5.ext he6
             have d0:=n6.cell (i:=0) (by simp)
             have d1:=n6.cell (i:=1) (by simp)
             have d2:=n6.cell (i:=2) (by simp)
             have d3:=n6.cell (i:=3) (by simp)
             have d4:=n6.cell (i:=4) (by simp)
             simp at d0 d1 d2 d3 d4
             have he06:Ext w w6:=ex5.trans he6
             have hone:=AR.one (base:=w2.heap.size) (a:=quotaA x (ws.length:Int)) (sv:=.slice none 0 0) (w:=w6) (.inl ⟨rfl,rfl⟩) haw (Nat.le_trans hwz he06.size)
             have eB:=Ext.alloc w6 (.cells #[.int .i64 (quotaA x (ws.length:Int)).1,.int .i64 (quotaA x (ws.length:Int)).2.1,.int .i64 (quotaA x (ws.length:Int)).2.2.1,.slice none 0 0,.int .i64 (quotaA x (ws.length:Int)).2.2.2.2] 50)
             obtain ⟨v8,w8,hr8,har8,hgr8,hob8⟩:=AR.append ((har.ext he06).ext eB) hone (Nat.le_refl _) (Nat.le_trans hwz (he06.trans eB).size) (by simp; omega))
          | (gi_at_builtin; refine wpListIn_append_known rfl _ _ 33 rfl rfl rfl hr8 ?_))
        have hown8:∀ b,ov.ownBlock=some b→w2.heap.size≤b:=fun b e=>by
          obtain ⟨_,_,hro,_⟩:=har
          exact (hro.lt b e).1
        refine ⟨ws.length - (i+1),by omega,i+1,v8,by omega,rfl,ext_of_grown (hew.trans (he06.trans eB)) hgr8 hown8,by rw [htk,List.map_append]; exact har8,?_,FrI2.mk⟩
        rw [htk,List.all_append,hall,List.all_cons,List.all_nil,decide_eq_true hho]
        rfl
      · rw [decide_eq_false hho] at c23
        have hder:derP (nm,cs,m,(ws.length:Int),z1,z2,z3,z4,z5) gs ws=([],false):=by
          rw [hder0,if_neg]
          intro h
          have:=List.all_eq_true.1 h x (by rw [← hx,getD_get ws 0 hlt]; exact List.getElem_mem hlt)
          exact hho (of_decide_eq_true this)
        gi_wp2_with (first
          | (gi_at_call 27; refine (callsIn_wide.2 c23).mono ?_; rintro e w6 ⟨rfl,he6⟩))
        exact ⟨rfl,_,results_tmp2 (t:=6) (u:=7) rfl _ _ _,_,by (first | rfl | (rw [hder]; rfl)),(by rw [hder]; exact AR.nil _ _),(e4.trans hew).trans (ex5.trans he6)⟩
    · obtain rfl:i=ws.length:=by omega
      have hge':¬ ((ws.length:Nat):Int) < (ws.length:Int):=by omega
      rw [List.take_length] at har hall
      have hder:derP (nm,cs,m,(ws.length:Int),z1,z2,z3,z4,z5) gs ws=(sortedP (ws.map fun x=>quotaA x (ws.length:Int)),true):=by rw [hder0,if_pos hall]
      have hneF:(ws.map fun x=>quotaA x (ws.length:Int)) ≠ []:=by
        intro h
        have:=congrArg List.length h
        rw [List.length_map,List.length_nil] at this
        omega
      have hlbF:(ws.map fun x=>quotaA x (ws.length:Int)).length≤1000:=by simp; omega
      clear hall hder0
      obtain ⟨w4,hw4⟩:∃ w4,w2=w4:=⟨_,rfl⟩
      rw [hw4] at hew har hwz hW2 e4
      generalize (ws.map fun x=>quotaA x (ws.length:Int))=LL at har hneF hlbF hder
      obtain ⟨gF,capF,rfl,hgF,hgFl⟩:=har.row hneF
      obtain ⟨psF,hpsF,hplF,hagF⟩:=har.ag
      clear hplF har hneF
      subst hpsF
      simp only [List.length_map]
      rw [List.length_map] at hlbF
      have c39:=sort_ok hagF (by omega)
      gi_wp2_with (first
        | (gi_at_call 28; refine (callsIn_wide.2 c39).mono ?_; rintro e w8 ⟨rfl,qs,hperm,hsort,hag8,hk8⟩
           have c41:=compact_ok hag8 (by rw [hperm.length_eq]; omega)
           rw [hperm.length_eq] at c41)
        | (gi_at_call 30; refine (callsIn_wide.2 c41).mono ?_; rintro e w9 ⟨rfl,hag9,hk9⟩))
      have hcs:=comp_sorted rfl hperm (by first | exact hsort | exact fun i j a b=>Int.not_lt.2 (hsort i j a b))
      have hbl:W.heap.size≤w4.heap.size:=e4.size
      refine ⟨rfl,_,results_tmp2 (t:=6) (u:=7) rfl _ _ _,_,by (first | rfl | (rw [hder]; rfl)),?_,(ext_kx (ext_kx (e4.trans hew) hk8 fun b h=>by subst h; omega) hk9 fun b h=>by subst h; omega)⟩
      rw [hder,← hcs]
      exact hag9.ar.lower hbl
end Go.Proofs.Ytieoleabnjdkfaa
namespace Go.Proofs.Ytieoleabnjdkfaa
open Go Go.Proofs Go.RowKit Go.X
theorem assert_ok {c:Con} {gs:List Grp} {ws:List Int} (hgs:GsOK gs) {F:Nat→Prop} {W:World} {cv gv wv:Value} (hc:CA F W cv c) (hg:GA F W gv gs) (hw:WA F W wv ws) :
    Calls Try.prog 13 #[cv,gv,wv] W fun e W'=>∃ v,e=.returned (.tuple #[v,.bool (derP c gs ws).2])∧AR W.heap.size v (derP c gs ws).1 W'∧Ext W W':=by
  cases hb:((fitB c && pileB (c.2.1.length:Int) gs) && decide (isB (c.2.1.length:Int) ws)) with
  | false=>exact assert_bad hgs hc hg hw hb
  | true =>
    by_cases hns:(c.2.1.length:Int)≤c.2.2.2.1
    · exact assert_few hgs hc hg hw hb hns
    by_cases hws:(ws.length:Int)=c.2.2.2.1
    rotate_left
    · exact assert_len hgs hc hg hw hb hns hws
    by_cases hm:c.2.2.1=1
    · by_cases hb0:(setP c.2.1.length gs (ws.getD 0 0)).1=0
      · exact assert_zero hgs hc hg hw hb hns hws hm hb0
      · exact assert_irv hgs hc hg hw hb hns hws hm hb0
    · exact assert_quota hgs hc hg hw hb hns hws hm
end Go.Proofs.Ytieoleabnjdkfaa
set_option linter.unusedSimpArgs false
set_option linter.unusedVariables false
set_option linter.unnecessarySimpa false
namespace Go.Proofs.Ytieoleabnjdkfaa
open Go Go.Proofs Go.RowKit Go.X
theorem rel_asn {S:St} {p:X.Place} {a:Asn} {sv:Value} {cs:Cs} {base:Nat} (h0:cs 0=some (.int .i64 a.1)) (h1:cs 1=some (.int .i64 a.2.1)) (h2:cs 2=some (.int .i64 a.2.2.1)) (h3:cs 3=some sv) (h4:cs 4=some (.int .i64 a.2.2.2.2))
    (hs:SL (fun b=>b < base) S.w sv a.2.2.2.1) (hw:AW a) (hF:∀ b,base≤b→b < S.w.heap.size→(∃ cur,S.w.heap[b]? = some (.cells cur 3 (0,0)))→S.F b):Rel Try.prog y50 S .sh p a cs:=by
  obtain ⟨w0,w1,w2,w4⟩:=hw
  refine ⟨⟨h0,w0⟩,⟨h1,w1⟩,⟨h2,w2⟩,?_,⟨h4,w4⟩⟩
  rcases hs with ⟨rfl,e⟩ | ⟨b,hk,hb⟩
  · rw [e]
    exact ⟨by simp [maxL],by simp [Ty.size],none,0,0,h3,rfl,Nat.le_refl _,.inl ⟨rfl,rfl⟩⟩
  · have hlt:=hk.lt
    obtain ⟨k1,k2,k3⟩:=(sr_si (S:=S) (p:=p) (m:=.sh) (.inl rfl) hk.si (hF b (by omega) hlt (by obtain ⟨_,_,_,cur,_,_,hc,_⟩:=hk; exact ⟨cur,hc⟩))).1
    obtain ⟨A,l,c,k4,k5,k6,k7⟩:=k3
    refine ⟨k1,k2,A,l,c,?_,k5,k6,?_⟩
    · have:some sv=some (Value.slice A l c):=by simpa [vcells,Ty.agg] using k4
      rw [← this]; exact h3
    · exact k7.imp id fun ⟨b',o,e,h,k⟩=>⟨b',o,e,h,fun i hi=>(k i hi).fut (.inl rfl) ⟨fun _ h=>h,fun _ h _=>(by cases h),fun _ _=>rfl⟩ fun _ _=>rfl⟩
theorem sr_ar {S:St} {p:X.Place} {l:List Asn} {v:Value} {base:Nat} (h:AR base v l S.w) (hl:l.length≤10000000) (hv:S.hv p=v) (ho:∀ g,v.ownBlock=some g→S.own g=some p) (hF:∀ b,base≤b→b < S.w.heap.size→v.ownBlock ≠ some b→S.F b):SR Try.prog y33 S (.own 50 .sh) p l v:=by
  obtain ⟨ps,e,⟨hlen,hr⟩,hel⟩:=id h
  refine ⟨⟨Nat.le_trans hl (by decide),by simp [Ty.size],by rw [hv]; simp [vcells,Ty.agg],?_⟩,fun h=>by cases h⟩
  rcases hr with ⟨rfl,hz⟩ | ⟨g,cap,cur,rfl,r2,r3,r4,r5,r6,r7⟩
  · have:ps=[]:=List.length_eq_zero_iff.1 hz
    subst this
    exact .inl ⟨hv,e⟩
  · have hag:AG base g cap ps S.w:=⟨⟨hlen,.inr ⟨g,cap,cur,rfl,r2,r3,r4,r5,r6,r7⟩⟩,hel⟩
    have hrg:=hag.rg
    have hll:l.length=ps.length:=by rw [e,List.length_map]
    refine .inr ⟨g,cap,cur,by rw [hv,hll],ho g rfl,r3,by omega,r5,by rw [r6]; rfl,fun i hi=>?_⟩
    have hi':i < ps.length:=by omega
    have hel2:l[i]=(ps.getD i d0E).1:=by
      have:l[i]? = (ps.map (·.1))[i]?:=by rw [e]
      rw [List.getElem?_eq_getElem hi,List.getElem?_map,List.getElem?_eq_getElem hi'] at this
      rw [Option.some.inj this,List.getD_eq_getElem?_getD,List.getElem?_eq_getElem hi']
      rfl
    have hok:okE base S.w (ps.getD i d0E):=hrg.2.2 _ (by rw [List.getD_eq_getElem?_getD,List.getElem?_eq_getElem hi']; exact List.getElem_mem hi')
    rw [hel2]
    have hc:∀ j,j < 5→cur[i * 5+j]? = (AC (ps.getD i d0E).1 (ps.getD i d0E).2)[j]?:=fun j hj=>by
      have:=hrg.cell hi' (j:=j) hj
      rw [World.cell?,r3] at this
      simpa using this
    have h0:=hc 0 (by omega)
    have h1:=hc 1 (by omega)
    have h2:=hc 2 (by omega)
    have h3:=hc 3 (by omega)
    have h4:=hc 4 (by omega)
    refine rel_asn (base:=base) (sv:=(ps.getD i d0E).2) ?_ ?_ ?_ ?_ ?_ hok.1 hok.2 fun b q1 q2 q3=>hF b q1 q2 fun hb=>?_
    · simpa [Ty.size,AC] using h0
    · simpa [Ty.size,AC] using h1
    · simpa [Ty.size,AC] using h2
    · simpa [Ty.size,AC] using h3
    · simpa [Ty.size,AC] using h4
    · obtain ⟨cc,hcc⟩:=q3
      have:g=b:=by simpa [Value.ownBlock] using hb
      subst this
      rw [r3] at hcc
      simp at hcc
theorem frm_of_ext {S:St} (hS:S.WF) {w':World} (hx:Ext S.w w'):Frm S { S with w:=w',F:=fun c=>S.F c∨(S.w.heap.size≤c∧c < w'.heap.size) }:=by
  have hown:∀ b,S.w.heap.size≤b→S.own b=none:=fun b hbb=>by
    cases h:S.own b with
    | none=>rfl
    | some p=>have:=hS.owned b p h; omega
  refine ⟨fun _ h=>.inl h,rfl,fun c hc=>?_,fun c hc=>(hS.borrowed c hc).1,fun c p hc=>⟨Nat.lt_of_lt_of_le (hS.owned c p hc) hx.size,.inr (by rw [show S.own c=some p from hc]; simp)⟩,hx.os,hx.tape,hx.output,hx.size,fun c hc _=>hx.block c hc⟩
  rcases hc with hc | hc
  · exact ⟨(hS.shared c hc).1,Nat.lt_of_lt_of_le (hS.shared c hc).2 hx.size,.inl hc⟩
  · exact ⟨hown c hc.1,hc.2,.inr (.inl hc.1)⟩
open Classical in
noncomputable def d11 (n:Int) (gs:List Grp) (wn:Int):Option Int:=if GsOK gs then some (setP n.toNat gs wn).1 else none
def sg11:Sig:=⟨[(y2,.sh),(y24,.bw),(y2,.sh)],[(y2,.sh)]⟩
theorem ent11:Enters Try.prog 11:=enters_of Try.func11 (by kernel_rfl) rfl
theorem sim11:Sim Try.prog 11 sg11 d11:=by
  refine ⟨ent11,fun xs y hy S hS vs hvs hargs=>?_⟩
  obtain ⟨n,gs,wn,u⟩:=xs
  have hy0:d11 n gs wn=some y:=hy
  have hl:vs.length=3:=hvs
  obtain ⟨v0,v1,v2,rfl⟩:∃ v0 v1 v2,vs=[v0,v1,v2]:=by
    match vs,hl with
    | [a,b,c],_=>exact ⟨a,b,c,rfl⟩
  obtain ⟨q0,e0,r0⟩:=hargs 0 ⟨.int .i64,.sh,n⟩ rfl
  obtain ⟨q1,e1,r1⟩:=hargs 1 ⟨y24,.bw,gs⟩ rfl
  obtain ⟨q2,e2,r2⟩:=hargs 2 ⟨.int .i64,.sh,wn⟩ rfl
  obtain rfl:v0=q0:=by simpa using e0
  obtain rfl:v1=q1:=by simpa using e1
  obtain rfl:v2=q2:=by simpa using e2
  dsimp only at r0 r1 r2
  obtain ⟨h0,hn⟩:=r0.1
  obtain ⟨h2,hw⟩:=r2.1
  obtain rfl:v0=.int .i64 n:=by simpa [vcells,Ty.agg] using h0
  obtain rfl:v2=.int .i64 wn:=by simpa [vcells,Ty.agg] using h2
  unfold d11 at hy0
  split at hy0
  · rename_i hgs
    have hyy:(setP n.toNat gs wn).1=y:=Option.some.inj hy0
    have hga:GA (fun b=>S.F b∨S.B b) S.w v1 gs:=⟨⟨r1.1.fut (.inr rfl) ⟨fun b hb=>.inl hb,fun b _ hb=>.inl (.inr hb),fun b _=>rfl⟩ fun _ _=>rfl,r1.2⟩,fun b hb=>hb.elim (fun h=>(hS.shared b h).2) fun h=>(hS.borrowed b h).2⟩
    refine Calls.mono (best_ok hn hgs hga (wn:=wn)) fun e w' ⟨he,hx⟩=>?_
    have hbd:=setP_bounds (n:=n.toNat) gs wn
    subst hyy
    refine ⟨_,{ S with w:=w',F:=fun c=>S.F c∨(S.w.heap.size≤c∧c < w'.heap.size) },he,rfl,frm_of_ext hS hx,?_,fun q e hq=>by cases hq⟩
    show SR Try.prog (.int .i64) _ .sh (0,[0]) (setP n.toNat gs wn).1 _
    exact ⟨⟨by simp [vcells,Ty.agg],w_id (by omega) (by omega)⟩,fun h=>by cases h⟩
  · cases hy0
noncomputable def E11:FnE Try.prog:=⟨11,sg11,d11,sim11⟩
open Classical in
noncomputable def d13 (c:Con) (gs:List Grp) (ws:List Int):Option (List Asn × Bool):=if GsOK gs then some (derP c gs ws) else none
def sg13:Sig:=⟨[(y37,.bw),(y24,.bw),(y27,.bw)],[(y33,.own 50 .sh),(y4,.sh)]⟩
theorem ent13:Enters Try.prog 13:=enters_of Try.func13 (by kernel_rfl) rfl
theorem sim13:Sim Try.prog 13 sg13 d13:=by
  refine ⟨ent13,fun xs y hy S hS vs hvs hargs=>?_⟩
  obtain ⟨c,gs,ws,u⟩:=xs
  have hy0:d13 c gs ws=some y:=hy
  have hl:vs.length=3:=hvs
  obtain ⟨v0,v1,v2,rfl⟩:∃ v0 v1 v2,vs=[v0,v1,v2]:=by
    match vs,hl with
    | [a,b,c],_=>exact ⟨a,b,c,rfl⟩
  obtain ⟨q0,e0,r0⟩:=hargs 0 ⟨y37,.bw,c⟩ rfl
  obtain ⟨q1,e1,r1⟩:=hargs 1 ⟨y24,.bw,gs⟩ rfl
  obtain ⟨q2,e2,r2⟩:=hargs 2 ⟨y27,.bw,ws⟩ rfl
  obtain rfl:v0=q0:=by simpa using e0
  obtain rfl:v1=q1:=by simpa using e1
  obtain rfl:v2=q2:=by simpa using e2
  dsimp only at r0 r1 r2
  unfold d13 at hy0
  split at hy0
  · rename_i hgs
    have hyy:derP c gs ws=y:=Option.some.inj hy0
    have hlt:∀ b,S.F b∨S.B b→b < S.w.heap.size:=fun b hb=>hb.elim (fun h=>(hS.shared b h).2) fun h=>(hS.borrowed b h).2
    have hca:CA (fun b=>S.F b∨S.B b) S.w v0 c:=⟨⟨r0.1.fut (.inr rfl) ⟨fun b hb=>.inl hb,fun b _ hb=>.inl (.inr hb),fun b _=>rfl⟩ fun _ _=>rfl,r0.2⟩,hlt⟩
    have hga:GA (fun b=>S.F b∨S.B b) S.w v1 gs:=⟨⟨r1.1.fut (.inr rfl) ⟨fun b hb=>.inl hb,fun b _ hb=>.inl (.inr hb),fun b _=>rfl⟩ fun _ _=>rfl,r1.2⟩,hlt⟩
    have hwa:WA (fun b=>S.F b∨S.B b) S.w v2 ws:=⟨⟨r2.1.fut (.inr rfl) ⟨fun b hb=>.inl hb,fun b _ hb=>.inl (.inr hb),fun b _=>rfl⟩ fun _ _=>rfl,r2.2⟩,hlt⟩
    refine Calls.mono (assert_ok hgs hca hga hwa) fun e w' ⟨v,he,har,hx⟩=>?_
    have hdl:=derP_len c gs ws
    generalize derP c gs ws=dd at he har hdl hyy
    obtain ⟨dl,dok⟩:=dd
    subst hyy
    dsimp only at he har hdl
    have hnew:∀ b,v.ownBlock=some b→S.w.heap.size≤b∧b < w'.heap.size:=fun b hb=>by
      obtain ⟨_,_,hro,_⟩:=har
      exact hro.lt b hb
    have hown:∀ b,S.w.heap.size≤b→S.own b=none:=fun b hbb=>by
      cases h:S.own b with
      | none=>rfl
      | some p=>have:=hS.owned b p h; omega
    refine ⟨_,{ S with w:=w',F:=fun c=>S.F c∨(S.w.heap.size≤c∧c < w'.heap.size∧v.ownBlock ≠ some c),own:=fun b=>if v.ownBlock=some b then some (0,[0]) else S.own b,hv:=fun q=>if q=(0,[0]) then v else S.hv q },he,rfl,?_,⟨_,rfl,rfl,fun k e hk=>?_⟩,fun q e hq=>by cases hq⟩
    · refine ⟨fun _ h=>.inl h,rfl,fun c hc=>?_,fun c hc=>?_,fun c p hc=>?_,hx.os,hx.tape,hx.output,hx.size,fun c hc _=>hx.block c hc⟩
      · rcases hc with hc | ⟨h1,h2,h3⟩
        · have:=hS.shared c hc
          refine ⟨?_,Nat.lt_of_lt_of_le this.2 hx.size,.inl hc⟩
          show (if v.ownBlock=some c then some (0,[0]) else S.own c)=none
          rw [if_neg fun h=>by have:=(hnew c h).1; omega]
          exact this.1
        · refine ⟨?_,h2,.inr (.inl h1)⟩
          show (if v.ownBlock=some c then some (0,[0]) else S.own c)=none
          rw [if_neg h3]
          exact hown c h1
      · have:=hS.borrowed c hc
        show (if v.ownBlock=some c then some (0,[0]) else S.own c)=none
        rw [if_neg fun h=>by have:=(hnew c h).1; omega]
        exact this.1
      · have hc':(if v.ownBlock=some c then some (0,[0]) else S.own c)=some p:=hc
        by_cases h:v.ownBlock=some c
        · exact ⟨(hnew c h).2,.inl (hnew c h).1⟩
        · rw [if_neg h] at hc'
          exact ⟨Nat.lt_of_lt_of_le (hS.owned c p hc') hx.size,.inr (by rw [hc']; simp)⟩
    match k,hk with
    | 0,hk =>
      cases hk
      refine ⟨_,rfl,?_⟩
      show SR Try.prog y33 _ (.own 50 .sh) (0,[0]) dl v
      exact sr_ar (base:=S.w.heap.size) har (by omega) (by show (if ((0,[0]):X.Place)=(0,[0]) then v else S.hv (0,[0]))=v; exact if_pos rfl) (fun g hg=>by show (if v.ownBlock=some g then some ((0,[0]):X.Place) else S.own g)=some (0,[0]); exact if_pos hg) fun b h1 h2 h3=>.inr ⟨h1,h2,h3⟩
    | 1,hk =>
      cases hk
      refine ⟨_,rfl,?_⟩
      show SR Try.prog .bool _ .sh _ dok _
      exact ⟨by simp [Rel,vcells,Ty.agg],fun h=>by cases h⟩
    | k+2,hk=>cases hk
  · cases hy0
noncomputable def E13:FnE Try.prog:=⟨13,sg13,d13,sim13⟩
end Go.Proofs.Ytieoleabnjdkfaa
open Go Go.Proofs Go.X
namespace Go.Proofs.Ytieoleabnjdkfaa
set_option linter.unusedVariables false
set_option maxRecDepth 100000
noncomputable def d9 (n:Int) (code_:Int):Option (List Int) :=
 (whileO (β:=(List Int)) (fun ((n_1,code__1,out,i):Int × Int × (List Int) × Int) =>
   bif (decide (i < n_1)) then
    (d6 code__1 (w (i+1))).bind fun r =>
    bif (!decide ((w (i+1))=0)) then
     bif (cutOK 0 r out.length) then
      bif (decide ((([]:List Int).length:Int)+((List.drop 0 (List.take (Int.toNat r) out)).length:Int)≤LIM)) then
       bif (decide (((List.drop 0 (List.take (Int.toNat r) out)).length:Int)+(([i]:List Int).length:Int)≤LIM)) then
        bif (cutOK r (out.length:Int) out.length) then
         bif (decide ((((List.drop 0 (List.take (Int.toNat r) out))++[i]).length:Int)+((List.drop (Int.toNat r) (List.take (Int.toNat (out.length:Int)) out)).length:Int)≤LIM)) then
          some (Sum.inl (n_1,(w (Int.tdiv code__1 (w (i+1)))),(((List.drop 0 (List.take (Int.toNat r) out))++[i])++(List.drop (Int.toNat r) (List.take (Int.toNat (out.length:Int)) out))),(w (i+1))))
         else none
        else none
       else none
      else none
     else none
    else none
   else
    some (Sum.inr out)) (n,code_,[],0)).bind fun (out_1:List Int) =>
 some out_1
def sg9:Sig:=⟨[(y2,.sh),(y2,.sh)],[(y27,(.own 3 .sh))]⟩
def plan9:Plan:=(.seq (.reg [] []) (.seq (.reg [] [{ fl:=2 }]) (.seq (.seq (.reg [] []) (.block (.loop [(0,.v y2 .sh),(1,.v y2 .sh),(5,.v y27 (.own 3 .sh)),(6,.v y2 .sh)] [(.brk 0,[(5,.v y27 (.own 3 .sh))])] (.seq (.seq (.reg [] []) (.cond .nil .nil)) (.seq (.block (.seq (.reg [] []) (.seq (.reg [] []) (.reg [(5,[])] [])))) (.reg [] [])))))) (.seq (.reg [] []) .nil))))
theorem ev9 (xs:Vals (ptys sg9.ps)):evF (P:=Try.prog) tab [.fn E6] sg9 Try.f9.results.toList (code Try.f9) plan9 xs=d9 xs.1 xs.2.1:=by kernel_rfl
theorem sim9:Sim Try.prog 9 sg9 d9:=sim_ev mixd tabOK Try.func9 (code_of rfl) Try.call9 (Nat.le_of_ble_eq_true (by kernel_rfl)) (by kernel_rfl) plan9 _ fun xs y h=>(ev9 xs).trans h
noncomputable def E9:FnE Try.prog:=⟨9,sg9,d9,sim9⟩
noncomputable def d10:Option Bool :=
 (d18 2 [[0,1],[0,1],[0,1],[1,0],[1,0]]).bind fun r =>
 (d14 0 2 0 0 0).bind fun r_1 =>
 (d13 r_1 r.1 [0]).bind fun r_2 =>
 (d11 2 r.1 0).bind fun r_3 =>
 bif (decide (r_3=1)) then
  bif r_2.2 then
   bif (decide ((r_2.1.length:Int)=1)) then
    bif (decide (0≤0) && decide (0 < (r_2.1.length:Int))) then
     bif (decide ((List.getD r_2.1 0 (0,0,0,[],0)).1=1)) then
      bif (decide (0≤0) && decide (0 < (r_2.1.length:Int))) then
       bif (decide (((List.getD r_2.1 0 (0,0,0,[],0)).2).1=0)) then
        bif (decide (0≤0) && decide (0 < (r_2.1.length:Int))) then
         some (decide ((((List.getD r_2.1 0 (0,0,0,[],0)).2).2).1=1))
        else none
       else
        some false
      else none
     else
      some false
    else none
   else
    some false
  else
   some false
 else
  some false
def sg10:Sig:=⟨[],[(y4,.sh)]⟩
def plan10:Plan:=(.seq (.reg [] []) (.seq (.reg [] [{},{},{},{},{},{ frz:=[(6,[]),(7,[]),(8,[]),(9,[]),(10,[])] },{},{ fl:=1 }]) (.seq (.reg [] [{},{},{},{},{ fl:=1 }]) (.seq (.reg [] []) .nil))))
theorem ev10 (xs:Vals (ptys sg10.ps)):evF (P:=Try.prog) tab [.fn E18,.fn E14,.fn E13,.fn E11] sg10 Try.f10.results.toList (code Try.f10) plan10 xs=d10  := by kernel_rfl
theorem sim10:Sim Try.prog 10 sg10 d10:=sim_ev mixd tabOK Try.func10 (code_of rfl) Try.call10 (Nat.le_of_ble_eq_true (by kernel_rfl)) (by kernel_rfl) plan10 _ fun xs y h=>(ev10 xs).trans h
noncomputable def E10:FnE Try.prog:=⟨10,sg10,d10,sim10⟩
noncomputable def d24 (l:List Int) (to:List Int):Option (List Int) :=
 (whileO (β:=(List Int)) (fun ((l_1,to_1,out,i):(List Int) × (List Int) × (List Int) × Int) =>
   bif (decide (i < (l_1.length:Int))) then
    bif (decide (0≤i) && decide (i < (l_1.length:Int))) then
     bif (decide (0≤(List.getD l_1 (Int.toNat i) 0)) && decide ((List.getD l_1 (Int.toNat i) 0) < (to_1.length:Int))) then
      bif (decide ((out.length:Int)+(([(List.getD to_1 (Int.toNat (List.getD l_1 (Int.toNat i) 0)) 0)]:List Int).length:Int)≤LIM)) then
       some (Sum.inl (l_1,to_1,(out++[(List.getD to_1 (Int.toNat (List.getD l_1 (Int.toNat i) 0)) 0)]),(w (i+1))))
      else none
     else none
    else none
   else
    some (Sum.inr out)) (l,to,[],0)).bind fun (out_1:List Int) =>
 some out_1
def sg24:Sig:=⟨[(y27,.bw),(y27,.bw)],[(y27,(.own 3 .sh))]⟩
def plan24:Plan:=(.seq (.reg [] []) (.seq (.reg [] [{ fl:=2 }]) (.seq (.seq (.reg [] []) (.block (.loop [(0,.v y27 .bw),(1,.v y27 .bw),(5,.v y27 (.own 3 .sh)),(6,.v y2 .sh)] [(.brk 0,[(5,.v y27 (.own 3 .sh))])] (.seq (.seq (.reg [] []) (.cond .nil .nil)) (.seq (.block (.reg [] [])) (.reg [] [])))))) (.seq (.reg [] []) .nil))))
theorem ev24 (xs:Vals (ptys sg24.ps)):evF (P:=Try.prog) tab [] sg24 Try.f24.results.toList (code Try.f24) plan24 xs=d24 xs.1 xs.2.1:=by kernel_rfl
theorem sim24:Sim Try.prog 24 sg24 d24:=sim_ev mixd tabOK Try.func24 (code_of rfl) Try.call24 (Nat.le_of_ble_eq_true (by kernel_rfl)) (by kernel_rfl) plan24 _ fun xs y h=>(ev24 xs).trans h
noncomputable def E24:FnE Try.prog:=⟨24,sg24,d24,sim24⟩
noncomputable def d12 (gs:List (List Int × Int)) (to:List Int):Option (List (List Int × Int)) :=
 (whileO (β:=(List (List Int × Int))) (fun ((gs_1,to_1,out,i):(List (List Int × Int)) × (List Int) × (List (List Int × Int)) × Int) =>
   bif (decide (i < (gs_1.length:Int))) then
    bif (decide (0≤i) && decide (i < (gs_1.length:Int))) then
     (d24 ((List.getD gs_1 (Int.toNat i) ([],0)).1) to_1).bind fun r =>
     bif (decide (0≤i) && decide (i < (gs_1.length:Int))) then
      (d23 out r ((List.getD gs_1 (Int.toNat i) ([],0)).2)).bind fun r_1 =>
      some (Sum.inl (gs_1,to_1,r_1,(w (i+1))))
     else none
    else none
   else
    some (Sum.inr out)) (gs,to,[],0)).bind fun (out_1:List (List Int × Int)) =>
 some out_1
def sg12:Sig:=⟨[(y24,.bw),(y27,.bw)],[(y24,(.own 58 .sh))]⟩
def plan12:Plan:=(.seq (.reg [] []) (.seq (.reg [] [{ fl:=2 }]) (.seq (.seq (.reg [] []) (.block (.loop [(0,.v y24 .bw),(1,.v y27 .bw),(5,.v y24 (.own 58 .sh)),(6,.v y2 .sh)] [(.brk 0,[(5,.v y24 (.own 58 .sh))])] (.seq (.seq (.reg [] []) (.cond .nil .nil)) (.seq (.block (.reg [(5,[])] [{},{},{},{},{},{},{},{},{},{},{},{},{},{ frz:=[(20,[])] }])) (.reg [] [])))))) (.seq (.reg [] []) .nil))))
theorem ev12 (xs:Vals (ptys sg12.ps)):evF (P:=Try.prog) tab [.fn E24,.fn E23] sg12 Try.f12.results.toList (code Try.f12) plan12 xs=d12 xs.1 xs.2.1:=by kernel_rfl
theorem sim12:Sim Try.prog 12 sg12 d12:=sim_ev mixd tabOK Try.func12 (code_of rfl) Try.call12 (Nat.le_of_ble_eq_true (by kernel_rfl)) (by kernel_rfl) plan12 _ fun xs y h=>(ev12 xs).trans h
noncomputable def E12:FnE Try.prog:=⟨12,sg12,d12,sim12⟩
noncomputable def d3 (n:Int) (x:List (List Int)) (winner:Int) (names:Int):Option Bool :=
 (d6 n 4).bind fun r =>
 (d8 x 24).bind fun r_1 =>
 (d7 (w (1+r)) r_1 24).bind fun r_2 =>
 (d9 (w (1+r)) names).bind fun r_3 =>
 (d6 winner (w (1+r))).bind fun r_4 =>
 (d10).bind fun r_5 =>
 bif r_5 then
  (d11 (w (1+r)) r_2 r_4).bind fun r_6 =>
  (d12 r_2 r_3).bind fun r_7 =>
  bif (decide (0≤r_4) && decide (r_4 < (r_3.length:Int))) then
   (d11 (w (1+r)) r_7 (List.getD r_3 (Int.toNat r_4) 0)).bind fun r_8 =>
   some (decide (r_6=r_8))
  else none
 else
  some false
def sg3:Sig:=⟨[(y2,.sh),(y22,.sh),(y2,.sh),(y2,.sh)],[(y4,.sh)]⟩
def plan3:Plan:=(.seq (.reg [] []) (.seq (.reg [] []) (.seq (.reg [] []) (.seq (.reg [] []) (.seq (.reg [] []) (.seq (.reg [] []) .nil))))))
theorem ev3 (xs:Vals (ptys sg3.ps)):evF (P:=Try.prog) tab [.fn E6,.fn E8,.fn E7,.fn E9,.fn E10,.fn E11,.fn E12] sg3 Try.f3.results.toList (code Try.f3) plan3 xs=d3 xs.1 xs.2.1 xs.2.2.1 xs.2.2.2.1:=by kernel_rfl
theorem sim3:Sim Try.prog 3 sg3 d3:=sim_ev mixd tabOK Try.func3 (code_of rfl) Try.call3 (Nat.le_of_ble_eq_true (by kernel_rfl)) (by kernel_rfl) plan3 _ fun xs y h=>(ev3 xs).trans h
noncomputable def E3:FnE Try.prog:=⟨3,sg3,d3,sim3⟩
noncomputable def d4 (n:Int) (ties:Int) (x:List (List Int)) (winner:Int):Option Bool :=
 (d6 n 4).bind fun r =>
 (d8 x 24).bind fun r_1 =>
 (d7 (w (1+r)) r_1 24).bind fun r_2 =>
 (d6 winner (w (1+r))).bind fun r_3 =>
 (d14 0 (w (1+r)) 0 0 ties).bind fun r_4 =>
 (d13 r_4 r_2 [r_3]).bind fun r_5 =>
 (d10).bind fun r_6 =>
 bif r_6 then
  (d16 (w (1+r)) r_2).bind fun r_7 =>
  (d15 r_7 [r_3]).bind fun r_8 =>
  some (r_5.2 == r_8)
 else
  some false
def sg4:Sig:=⟨[(y2,.sh),(y2,.sh),(y22,.sh),(y2,.sh)],[(y4,.sh)]⟩
def plan4:Plan:=(.seq (.reg [] []) (.seq (.reg [] []) (.seq (.reg [] []) (.seq (.reg [] []) (.seq (.reg [] [{},{},{},{},{},{},{},{ fl:=1 }]) (.seq (.reg [] []) .nil))))))
theorem ev4 (xs:Vals (ptys sg4.ps)):evF (P:=Try.prog) tab [.fn E6,.fn E8,.fn E7,.fn E14,.fn E13,.fn E10,.fn E16,.fn E15] sg4 Try.f4.results.toList (code Try.f4) plan4 xs=d4 xs.1 xs.2.1 xs.2.2.1 xs.2.2.2.1:=by kernel_rfl
theorem sim4:Sim Try.prog 4 sg4 d4:=sim_ev mixd tabOK Try.func4 (code_of rfl) Try.call4 (Nat.le_of_ble_eq_true (by kernel_rfl)) (by kernel_rfl) plan4 _ fun xs y h=>(ev4 xs).trans h
noncomputable def d37 (gs:List (List Int × Int)) (p:List Int):Option Int :=
 (whileO (β:=Unit ⊕ Int) (fun ((gs_1,p_1,i):(List (List Int × Int)) × (List Int) × Int) =>
   bif (decide (i < (gs_1.length:Int))) then
    bif (decide (0≤i) && decide (i < (gs_1.length:Int))) then
     (d15 ((List.getD gs_1 (Int.toNat i) ([],0)).1) p_1).bind fun r =>
     bif r then
      bif (decide (0≤i) && decide (i < (gs_1.length:Int))) then
       some (Sum.inr (Sum.inr ((List.getD gs_1 (Int.toNat i) ([],0)).2)))
      else none
     else
      some (Sum.inl (gs_1,p_1,(w (i+1))))
    else none
   else
    some (Sum.inr (Sum.inl ()))) (gs,p,0)).bind fun
 | Sum.inl _ =>
  some 0
 | Sum.inr t4 =>
  some t4
def sg37:Sig:=⟨[(y24,.bw),(y27,.bw)],[(y2,.sh)]⟩
def plan37:Plan:=(.seq (.reg [] []) (.seq (.seq (.reg [] []) (.block (.loop [(0,.v y24 .bw),(1,.v y27 .bw),(5,.v y2 .sh)] [(.brk 0,[]),(.ret,[(4,.v y2 .sh)])] (.seq (.seq (.reg [] []) (.cond .nil .nil)) (.seq (.block (.seq (.reg [] []) (.cond (.seq (.reg [] []) .nil) .nil))) (.reg [] [])))))) (.seq (.reg [] []) .nil)))
theorem ev37 (xs:Vals (ptys sg37.ps)):evF (P:=Try.prog) tab [.fn E15] sg37 Try.f37.results.toList (code Try.f37) plan37 xs=d37 xs.1 xs.2.1:=by kernel_rfl
theorem sim37:Sim Try.prog 37 sg37 d37:=sim_ev mixd tabOK Try.func37 (code_of rfl) Try.call37 (Nat.le_of_ble_eq_true (by kernel_rfl)) (by kernel_rfl) plan37 _ fun xs y h=>(ev37 xs).trans h
noncomputable def E37:FnE Try.prog:=⟨37,sg37,d37,sim37⟩
noncomputable def d17 (a:List (List Int × Int)) (b:List (List Int × Int)):Option Int :=
 letJ (fun ((a_1,b_1,t21):(List (List Int × Int)) × (List (List Int × Int)) × Bool) =>
   bif t21 then
    some (-1)
   else
    (d36 a_1).bind fun r_4 =>
    (whileO (β:=Int) (fun ((a_2,b_2,n,i):(List (List Int × Int)) × (List (List Int × Int)) × Int × Int) =>
      bif (decide (i < (a_2.length:Int))) then
       bif (decide (0≤i) && decide (i < (a_2.length:Int))) then
        bif (decide (0≤i) && decide (i < (a_2.length:Int))) then
         (d37 b_2 ((List.getD a_2 (Int.toNat i) ([],0)).1)).bind fun r_5 =>
         some (Sum.inl (a_2,b_2,(w (n - (bif (decide (r_5 < (List.getD a_2 (Int.toNat i) ([],0)).2)) then r_5 else (List.getD a_2 (Int.toNat i) ([],0)).2))),(w (i+1))))
        else none
       else none
      else
       some (Sum.inr n)) (a_1,b_1,r_4,0)).bind fun (n_1:Int) =>
    some n_1) fun j_ =>
 (d35 a).bind fun r =>
 bif !(!r) then
  (d35 b).bind fun r_1 =>
  bif !(!r_1) then
   (d36 a).bind fun r_2 =>
   (d36 b).bind fun r_3 =>
   j_ (a,b,!(decide (r_2=r_3)))
  else
   j_ (a,b,true)
 else
  j_ (a,b,true)
def sg17:Sig:=⟨[(y24,.bw),(y24,.bw)],[(y2,.sh)]⟩
def plan17:Plan:=(.seq (.reg [] []) (.seq (.join (.reg [] []) [(0,.v y24 .bw),(1,.v y24 .bw),(21,.v y4 .sh)] (.cond (.seq (.reg [] []) .nil) .nil)) (.seq (.reg [] []) (.seq (.seq (.reg [] []) (.block (.loop [(0,.v y24 .bw),(1,.v y24 .bw),(5,.v y2 .sh),(6,.v y2 .sh)] [(.brk 0,[(5,.v y2 .sh)])] (.seq (.seq (.reg [] []) (.cond .nil .nil)) (.seq (.block (.reg [] [])) (.reg [] [])))))) (.seq (.reg [] []) .nil)))))
theorem ev17 (xs:Vals (ptys sg17.ps)):evF (P:=Try.prog) tab [.fn E35,.fn E36,.fn E37] sg17 Try.f17.results.toList (code Try.f17) plan17 xs=d17 xs.1 xs.2.1:=by kernel_rfl
theorem sim17:Sim Try.prog 17 sg17 d17:=sim_ev mixd tabOK Try.func17 (code_of rfl) Try.call17 (Nat.le_of_ble_eq_true (by kernel_rfl)) (by kernel_rfl) plan17 _ fun xs y h=>(ev17 xs).trans h
noncomputable def E17:FnE Try.prog:=⟨17,sg17,d17,sim17⟩
noncomputable def d5 (p0:Int) (p1:List (List Int)) (p2:List (List Int)) (p3:Int):Option Bool :=
 (d6 p0 3).bind fun r =>
 (d8 p1 24).bind fun r_1 =>
 (d8 p2 24).bind fun r_2 =>
 (d7 (w (2+r)) r_1 (bif (decide ((r_2.length:Int) < (r_1.length:Int))) then (r_2.length:Int) else (r_1.length:Int))).bind fun r_3 =>
 (d7 (w (2+r)) r_2 (bif (decide ((r_2.length:Int) < (r_1.length:Int))) then (r_2.length:Int) else (r_1.length:Int))).bind fun r_4 =>
 (d6 p3 (w (2+r))).bind fun r_5 =>
 (d11 (w (2+r)) r_3 r_5).bind fun r_6 =>
 (d16 (w (2+r)) r_4).bind fun r_7 =>
 (d10).bind fun r_8 =>
 bif r_8 then
  bif (decide (0≤r_6)) then
   bif (decide (0 < (r_7.length:Int))) then
    (d15 r_7 [r_5]).bind fun r_9 =>
    bif !r_9 then
     (d17 r_3 r_4).bind fun r_10 =>
     some (decide (r_6≤(w (2 * r_10))))
    else
     some true
   else
    some false
  else
   some false
 else
  some false
def sg5:Sig:=⟨[(y2,.sh),(y22,.sh),(y22,.sh),(y2,.sh)],[(y4,.sh)]⟩
def plan5:Plan:=(.seq (.reg [] []) (.seq (.reg [] []) (.seq (.reg [] []) (.seq (.reg [] []) (.seq (.reg [] []) (.seq (.reg [] []) (.seq (.reg [] []) (.seq (.reg [] []) (.seq (.reg [] []) .nil)))))))))
theorem ev5 (xs:Vals (ptys sg5.ps)):evF (P:=Try.prog) tab [.fn E6,.fn E8,.fn E7,.fn E11,.fn E16,.fn E10,.fn E15,.fn E17] sg5 Try.f5.results.toList (code Try.f5) plan5 xs=d5 xs.1 xs.2.1 xs.2.2.1 xs.2.2.2.1:=by kernel_rfl
theorem sim5:Sim Try.prog 5 sg5 d5:=sim_ev mixd tabOK Try.func5 (code_of rfl) Try.call5 (Nat.le_of_ble_eq_true (by kernel_rfl)) (by kernel_rfl) plan5 _ fun xs y h=>(ev5 xs).trans h
end Go.Proofs.Ytieoleabnjdkfaa
set_option linter.unusedSimpArgs false
set_option linter.unusedVariables false
open Go Go.Proofs Go.X
namespace Go.Proofs.Ytieoleabnjdkfaa
theorem d13_eq' {c:Con} {gs:List Grp} {ws:List Int} (hg:GsOK gs):d13 c gs ws=some (derP c gs ws):=by unfold d13; exact if_pos hg
theorem d11_eq' {n wn:Int} {gs:List Grp} (hg:GsOK gs):d11 n gs wn=some (setP n.toNat gs wn).1:=by unfold d11; exact if_pos hg
theorem pile_at {n:Int} (h1:1≤n) (hn:n≤7) {x:List (List Int)} (hx:x.length≤281474976710656) (hw:∀ y∈x,WT (.slice (.int .i64)) y) {k:Nat} (hk:k≤100):∃ (gs:List Grp) (N:Int),(∀ {β:Type} (f:List Grp→Option β),((d8 x (k:Int)).bind fun r=>(d7 n r (k:Int)).bind f)=f gs)∧PileOK n gs N∧N≤k∧GsOK gs:=by
  have e12:d8 x (k:Int)=some (cuts x k):=d8_eq hx hw hk
  obtain ⟨cl,cw⟩:=cuts_wt (k:=k) hw
  have e11:d7 n (cuts x k) (k:Int)=some (pileOf (bals n (cuts x k) k)):=d7_eq (n:=n) h1 hn (by omega) cw (most:=k) hk
  have hbl:=bals_len (n:=n) (l:=cuts x k) (most:=k)
  have hbb:=bals_isB (n:=n) (by omega) (l:=cuts x k) (most:=k)
  have hp:=(pileOf_ok (bals n (cuts x k) k) hbb (by omega)).1
  refine ⟨_,_,fun f=>?_,hp,by omega,hp.gs hn⟩
  rw [e12,Option.bind_some,e11,Option.bind_some]
theorem d10_eq:d10=some true:=by
  have hb:∀ b∈[[(0:Int),1],[0,1],[0,1],[1,0],[1,0]],isB 2 b:=by decide
  have hgs:=((pileOf_ok _ hb (by decide)).1).gs (by decide)
  have e2:=d14_eq (m:=0) (s:=0) (dg:=0) (ti:=0) (n:=2) (by omega) (wt_small (by omega)) (wt_small (by omega)) (wt_small (by omega)) (wt_small (by omega))
  have e3:derP (conB 0 2 0 0 0) (pileOf [[0,1],[0,1],[0,1],[1,0],[1,0]]) [0]=([(1,0,1,[],0)],true):=by kernel_rfl
  have e4:(setP (Int.toNat 2) (pileOf [[0,1],[0,1],[0,1],[1,0],[1,0]]) 0).1=1:=by decide +kernel
  unfold d10
  rw [d18_eq (n:=2) (by omega) (by omega) hb (by decide),Option.bind_some,show (2:Int)=((2:Nat):Int) from rfl,e2,Option.bind_some]
  simp only
  rw [d13_eq' hgs,Option.bind_some,d11_eq' hgs,Option.bind_some,show ((2:Nat):Int)=2 from rfl,e3,e4]
  rfl
def gf (a:Asn) (p:List Int):Int:=if a.1=1 then isFirst a.2.1 p - isBefore a.2.2.1 a.2.1 p else isTopM a.2.2.2.1 a.2.1 p - isTopM a.2.2.2.1 a.2.2.1 p
theorem mrg_sum {n:Int} {gs:List Grp} {N:Int} (h:PileOK n gs N) (h1:1≤n) (hn:n≤7) {a:Asn} (hv:validB n a=true) (hk:a.1=1∨a.1=2):mrg n gs a=wsum (gf a) gs:=by
  unfold mrg tal
  rw [h.pileB h1 hn,hv]
  simp only [Bool.and_self,if_true]
  unfold fav
  by_cases k1:a.1=1
  · rw [if_pos k1,show gf a=fun p=>isFirst a.2.1 p - isBefore a.2.2.1 a.2.1 p from funext fun p=>by unfold gf; rw [if_pos k1]]
    have:=wsum_sub (isFirst a.2.1) (isBefore a.2.2.1 a.2.1) gs
    exact this.symm
  · have k2:a.1=2:=by omega
    rw [if_neg k1,if_pos k2,show gf a=fun p=>isTopM a.2.2.2.1 a.2.1 p - isTopM a.2.2.2.1 a.2.2.1 p from funext fun p=>by unfold gf; rw [if_neg k1]]
    have:=wsum_sub (isTopM a.2.2.2.1 a.2.1) (isTopM a.2.2.2.1 a.2.2.1) gs
    exact this.symm
theorem own_kind (t:List Int) (x:Int):(ownA t x).1=1∨(ownA t x).1=2:=by unfold ownA; split <;> simp
theorem ov_le {n:Nat} (h2:2≤n) (gs:List Grp) (t:List Int) (v:Int):ov n gs t≤v↔∀ x,(0≤x∧x < (n:Int))→x ≠ t.getD 0 0→mrg n gs (ownA t x)≤v:=by
  constructor
  · intro h x hx hne
    exact Int.le_trans (ov_ge gs hx hne) h
  · intro h
    obtain ⟨x,hx,hne,_,e⟩:=ov_at h2 gs t
    rw [e]
    exact h x hx hne
end Go.Proofs.Ytieoleabnjdkfaa
set_option linter.unusedSimpArgs false
set_option linter.unusedVariables false
open Go Go.Proofs Go.X
namespace Go.Proofs.Ytieoleabnjdkfaa
def perS (st:List Int × Int) (i:Nat):List Int × Int:=((st.1.take (st.2 % ((i:Int)+1)).toNat++[(i:Int)])++st.1.drop (st.2 % ((i:Int)+1)).toNat,Int.tdiv st.2 ((i:Int)+1))
def perT (code:Int):Nat→List Int × Int
  | 0=>([],code)
  | i+1=>perS (perT code i) i
theorem perT_ok {code:Int} (hc:WT (.int .i64) code):∀ i,i≤100→(perT code i).1.length=i∧isB (i:Int) (perT code i).1∧WT (.int .i64) (perT code i).2
  | 0,_=>⟨rfl,⟨by simp [perT],by simp [perT]⟩,hc⟩
  | i+1,hi=>by
    obtain ⟨h1,⟨h2,h3⟩,h4⟩:=perT_ok hc i (by omega)
    have hb:=mod_bounds (perT code i).2 (n:=(i:Int)+1) (by omega)
    show (perS (perT code i) i).1.length=i+1∧isB ((i+1:Nat):Int) (perS (perT code i) i).1∧WT (.int .i64) (perS (perT code i) i).2
    unfold perS
    generalize hk:((perT code i).2 % ((i:Int)+1)).toNat=k
    have hki:k≤i:=by omega
    generalize (perT code i).1=l at h1 h2 h3 ⊢
    refine ⟨by simp; omega,⟨?_,fun x hx=>?_⟩,?_⟩
    · have hp:((l.take k++[(i:Int)])++l.drop k).Perm ((i:Int)::l):=by
        have:(l.take k++([(i:Int)]++l.drop k)).Perm ([(i:Int)]++(l.take k++l.drop k)):=by
          rw [← List.append_assoc,← List.append_assoc]
          exact (List.perm_append_comm).append_right _
        rw [List.take_append_drop] at this
        rw [List.append_assoc]
        exact this
      refine hp.nodup_iff.2 (List.nodup_cons.2 ⟨fun h=>?_,h2⟩)
      have:=h3 _ h
      omega
    · rw [List.append_assoc] at hx
      rcases List.mem_append.1 hx with hx | hx
      · have:=h3 x (List.mem_of_mem_take hx); omega
      · rcases List.mem_append.1 hx with hx | hx
        · rw [List.mem_singleton.1 hx]; omega
        · have:=h3 x (List.mem_of_mem_drop hx); omega
    · have hq:=wt_int h4
      generalize (perT code i).2=c at hq ⊢
      have h5:Int.tdiv c ((i:Int)+1)=Int.tdiv c ((i:Int)+1):=rfl
      refine wt_of ?_ ?_
      · by_cases h0:0≤c
        · have:=Int.tdiv_nonneg h0 (show (0:Int)≤(i:Int)+1 by omega); omega
        · have e:Int.tdiv c ((i:Int)+1)=-(Int.tdiv (-c) ((i:Int)+1)):=by rw [Int.neg_tdiv,Int.neg_neg]
          have h6:=Int.tdiv_le_self ((i:Int)+1) (show (0:Int)≤-c by omega)
          omega
      · by_cases h0:0≤c
        · have:=Int.tdiv_le_self ((i:Int)+1) h0; omega
        · have e:Int.tdiv c ((i:Int)+1)=-(Int.tdiv (-c) ((i:Int)+1)):=by rw [Int.neg_tdiv,Int.neg_neg]
          have h6:=Int.tdiv_nonneg (show (0:Int)≤-c by omega) (show (0:Int)≤(i:Int)+1 by omega)
          omega
theorem d9_eq {n:Nat} (hn:n≤12) {code:Int} (hc:WT (.int .i64) code):d9 (n:Int) code=some (perT code n).1:=by
  unfold d9
  refine while_bind (b:=(perT code n).1) (fun i=>((n:Int),(perT code i).2,(perT code i).1,(i:Int))) n rfl (fun i hi=>?_) ?_ rfl
  · have e1:(i:Int) < (n:Int):=by omega
    have e2:w ((i:Int)+1)=(i:Int)+1:=w_id (by omega) (by omega)
    obtain ⟨h1,h2,h3⟩:=perT_ok hc i (by omega)
    have hb:=mod_bounds (perT code i).2 (n:=(i:Int)+1) (by omega)
    have hst:perT code (i+1)=perS (perT code i) i:=rfl
    rw [hst]
    unfold perS
    have h6:=d6_eq (x:=(perT code i).2) (n:=(i:Int)+1) h3 (by omega) (by omega)
    have hw2:w (Int.tdiv (perT code i).2 ((i:Int)+1))=Int.tdiv (perT code i).2 ((i:Int)+1):=by
      have h7:=(perT_ok hc (i+1) (by omega)).2.2
      have h8:(perT code (i+1)).2=Int.tdiv (perT code i).2 ((i:Int)+1):=rfl
      rw [h8] at h7
      have:=wt_int h7
      exact w_id this.1 this.2
    simp only [e1,e2,h6,hw2,decide_true,cond_true,Option.bind_some,show ¬ ((i:Int)+1=0) by omega,decide_false,Bool.not_false]
    obtain ⟨k,hk⟩:∃ k:Nat,(perT code i).2 % ((i:Int)+1)=(k:Int):=⟨((perT code i).2 % ((i:Int)+1)).toNat,by omega⟩
    rw [hk] at hb ⊢
    generalize (perT code i).1=l at h1 ⊢
    have c1:=cutOK_take (i:=k) (n:=l.length) (by omega)
    have c2:=cutOK_drop (i:=k) (n:=l.length) (by omega)
    have l1:((([]:List Int).length:Int)+((List.take k l).length:Int)≤LIM):=by rw [LIM_eq]; simp; omega
    have l2:((((List.take k l).length:Nat):Int)+(([(i:Int)]:List Int).length:Int)≤LIM):=by rw [LIM_eq]; simp; omega
    have l3:(((List.take k l++[(i:Int)]).length:Int)+((List.drop k l).length:Int)≤LIM):=by rw [LIM_eq]; simp; omega
    simp only [c1,c2,cond_true,Int.toNat_natCast,List.drop_zero,List.take_length,l1,l2,l3,decide_true]
    rw [show ((i+1:Nat):Int)=(i:Int)+1 by omega]
  · have:¬ ((n:Int) < (n:Int)):=by omega
    simp only [this,decide_false,cond_false]
def ren (to:List Int) (c:Int):Int:=to.getD c.toNat 0
theorem ren_in {n:Nat} {to:List Int} (ht:isB (n:Int) to) (hl:to.length=n) {c:Int} (hc:0≤c∧c < (n:Int)):0≤ren to c∧ren to c < (n:Int):=by
  unfold ren
  rw [getD_get to 0 (by omega)]
  exact ht.2 _ (List.getElem_mem _)
theorem ren_inj {n:Nat} {to:List Int} (ht:isB (n:Int) to) (hl:to.length=n) {c d:Int} (hc:0≤c∧c < (n:Int)) (hd:0≤d∧d < (n:Int)) (h:ren to c=ren to d):c=d:=by
  unfold ren at h
  rw [getD_get to 0 (by omega),getD_get to 0 (by omega)] at h
  have hpw:=List.pairwise_iff_getElem.1 (List.nodup_iff_pairwise_ne.1 ht.1)
  rcases Nat.lt_trichotomy c.toNat d.toNat with hlt | heq | hgt
  · exact absurd h (hpw _ _ (by omega) (by omega) hlt)
  · omega
  · exact absurd h.symm (hpw _ _ (by omega) (by omega) hgt)
theorem ren_isB {n:Nat} {to:List Int} (ht:isB (n:Int) to) (hl:to.length=n) {p:List Int} (hp:isB (n:Int) p):isB (n:Int) (p.map (ren to)):=by
  refine ⟨?_,fun x hx=>?_⟩
  · rw [List.nodup_iff_pairwise_ne,List.pairwise_map]
    exact (List.nodup_iff_pairwise_ne.1 hp.1).imp_of_mem fun {a b} ha hb hne e=>hne (ren_inj ht hl (hp.2 a ha) (hp.2 b hb) e)
  · obtain ⟨c,hc,rfl⟩:=List.mem_map.1 hx
    exact ren_in ht hl (hp.2 c hc)
theorem d24_eq {n:Nat} (hn:n≤7) {to:List Int} (ht:isB (n:Int) to) (hl:to.length=n) {p:List Int} (hp:isB (n:Int) p):d24 p to=some (p.map (ren to)):=by
  have hpl:=isB_len hp (by omega)
  unfold d24
  refine while_bind (b:=p.map (ren to)) (fun i=>(p,to,(p.take i).map (ren to),(i:Int))) p.length rfl (fun i hi=>?_) ?_ (by simp)
  · have e1:(i:Int) < (p.length:Int):=by omega
    have e2:w ((i:Int)+1)=((i+1:Nat):Int):=by rw [w_id (by omega) (by omega)]; omega
    have e3:(0:Int)≤(i:Int):=by omega
    have hb:=hp.2 (p.getD i 0) (by rw [getD_get p 0 hi]; exact List.getElem_mem hi)
    have e4:p.getD i 0 < (to.length:Int):=by omega
    have l1:=lim_small ((p.take i).map (ren to)) (to.getD (p.getD i 0).toNat 0) (by simp; omega)
    have htk:(p.take (i+1)).map (ren to)=(p.take i).map (ren to)++[to.getD (p.getD i 0).toNat 0]:=by
      rw [take_get p 0 hi,List.map_append]; rfl
    simp only [e1,e2,e3,e4,hb.1,l1,htk,decide_true,Bool.and_self,cond_true,Int.toNat_natCast]
  · have:¬ ((p.length:Int) < (p.length:Int)):=by omega
    simp only [this,decide_false,cond_false,List.take_length]
def renG (to:List Int) (gs:List Grp) (i:Nat):List Grp:=(gs.take i).foldl (fun out g=>addG out (g.1.map (ren to)) g.2) []
theorem renG_succ (to:List Int) (gs:List Grp) {i:Nat} (hi:i < gs.length):renG to gs (i+1)=addG (renG to gs i) ((gs.getD i ([],0)).1.map (ren to)) (gs.getD i ([],0)).2:=by
  unfold renG
  rw [foldl_take _ _ _ ([],0) hi]
theorem renG_ok {n:Nat} {to:List Int} (ht:isB (n:Int) to) (hl:to.length=n) {gs:List Grp} {N:Int} (hp:PileOK (n:Int) gs N):∀ i,i≤gs.length→(∀ g∈renG to gs i,isB (n:Int) g.1∧1≤g.2)∧sortedG (renG to gs i)∧(∀ f,wsum f (renG to gs i)=wsum (fun p=>f (p.map (ren to))) (gs.take i))∧(renG to gs i).length≤i
  | 0,_=>⟨fun g hg=>by simp [renG] at hg,by simp [renG,sortedG],fun f=>by simp [renG,wsum],by simp [renG]⟩
  | i+1,hi=>by
    obtain ⟨h1,h2,h3,h4⟩:=renG_ok ht hl hp i (by omega)
    rw [renG_succ to gs (by omega)]
    have hg:=hp.ballots (gs.getD i ([],0)) (by rw [getD_get gs _ (by omega)]; exact List.getElem_mem _)
    refine ⟨fun g hgm=>?_,addG_sorted _ _ h2,fun f=>?_,Nat.le_trans (addG_len _ _ _) (by omega)⟩
    · rcases addG_mem hgm with ⟨e1,e2⟩ | h
      · refine ⟨by rw [e1]; exact ren_isB ht hl hg.1,?_⟩
        rcases e2 with e2 | ⟨h,hh,_,e2⟩
        · rw [e2]; exact hg.2
        · have:=(h1 h hh).2; omega
      · exact h1 g h
    · rw [wsum_addG,h3,wsum_take (fun p=>f (p.map (ren to))) gs (by omega)]
theorem mem_le {gs:List Grp} (h:∀ g∈gs,1≤g.2):0≤wsum (fun _=>1) gs∧∀ g∈gs,g.2≤wsum (fun _=>1) gs:=by
  induction gs with
  | nil=>exact ⟨by simp [wsum],fun g hg=>by cases hg⟩
  | cons a r ih =>
    obtain ⟨h1,h2⟩:=ih fun g hg=>h g (List.mem_cons_of_mem _ hg)
    have ha:=h a (by simp)
    have e:wsum (fun _=>1) (a::r)=a.2 * 1+wsum (fun _=>1) r:=rfl
    rw [e]
    refine ⟨by omega,fun g hg=>?_⟩
    rcases List.mem_cons.1 hg with rfl | hg
    · omega
    · have:=h2 g hg; omega
theorem d12_eq {n:Nat} (hn:n≤7) {to:List Int} (ht:isB (n:Int) to) (hl:to.length=n) {gs:List Grp} {N:Int} (hp:PileOK (n:Int) gs N):d12 gs to=some (renG to gs gs.length):=by
  have hgl:=(hp.gs (by omega)).1
  have hsz:=(hp.sizes (by omega)).1
  unfold d12
  refine while_bind (b:=renG to gs gs.length) (fun i=>(gs,to,renG to gs i,(i:Int))) gs.length rfl (fun i hi=>?_) ?_ rfl
  · have e1:(i:Int) < (gs.length:Int):=by omega
    have e2:w ((i:Int)+1)=((i+1:Nat):Int):=by rw [w_id (by omega) (by omega)]; omega
    have e3:(0:Int)≤(i:Int):=by omega
    have hg:=hp.ballots (gs.getD i ([],0)) (by rw [getD_get gs _ hi]; exact List.getElem_mem _)
    obtain ⟨h1,h2,h3,h4⟩:=renG_ok ht hl hp i (by omega)
    have hb:=hp.part (f:=fun _=>(1:Int)) (fun _=>by omega) i
    have hm:=mem_le fun g hg=>(h1 g hg).2
    have hm2:=mem_le fun g hg=>(hp.ballots g hg).2
    have hgk:=hm2.2 (gs.getD i ([],0)) (by rw [getD_get gs _ hi]; exact List.getElem_mem _)
    have htot:=hp.total
    have hmost:=hp.most
    rw [h3] at hm
    have h24:=d24_eq hn ht hl hg.1
    have h23:=d23_eq (gs:=renG to gs i) (p:=(gs.getD i ([],0)).1.map (ren to)) (k:=(gs.getD i ([],0)).2) (by omega) (by have:=isB_len hg.1 (by omega); rw [List.length_map]; omega) ⟨by omega,by omega⟩ fun g hg=>⟨by have:=isB_len (h1 g hg).1 (by omega); omega,by have:=(h1 g hg).2; omega,by have:=hm.2 g hg; omega⟩
    simp only [e1,e2,e3,h24,h23,renG_succ to gs hi,decide_true,Bool.and_self,cond_true,Int.toNat_natCast,Option.bind_some]
  · have:¬ ((gs.length:Int) < (gs.length:Int)):=by omega
    simp only [this,decide_false,cond_false]
theorem ren_pile {n:Nat} {to:List Int} (ht:isB (n:Int) to) (hl:to.length=n) {gs:List Grp} {N:Int} (hp:PileOK (n:Int) gs N):PileOK (n:Int) (renG to gs gs.length) N∧∀ f,wsum f (renG to gs gs.length)=wsum (fun p=>f (p.map (ren to))) gs:=by
  obtain ⟨h1,h2,h3,_⟩:=renG_ok ht hl hp gs.length (Nat.le_refl _)
  rw [List.take_length] at h3
  exact ⟨⟨h1,h2,(h3 _).trans hp.total,hp.most⟩,h3⟩
theorem firstAt_map {q q':Int→Bool} {σ:Int→Int}:∀ {p:List Int},(∀ z∈p,q (σ z)=q' z)→firstAt q (p.map σ)=firstAt q' p
  | [],_=>rfl
  | x::l,h=>by
    have ih:=firstAt_map (p:=l) fun z hz=>h z (List.mem_cons_of_mem _ hz)
    simp only [List.map_cons,firstAt,ih,h x (by simp)]
theorem getD_map {σ:Int→Int} {p:List Int} {i:Nat} (h:i < p.length):(p.map σ).getD i 0=σ (p.getD i 0):=by
  rw [getD_get _ _ (by simpa using h),getD_get p 0 h,List.getElem_map]
section
variable {n:Nat} {to:List Int} (ht:isB (n:Int) to) (hl:to.length=n)
include ht hl
theorem ren_iff {c d:Int} (hc:0≤c∧c < (n:Int)) (hd:0≤d∧d < (n:Int)):ren to c=ren to d↔c=d:=⟨ren_inj ht hl hc hd,fun h=>by rw [h]⟩
theorem ren_first {c:Int} (hc:0≤c∧c < (n:Int)) {p:List Int} (hp:isB (n:Int) p):isFirst (ren to c) (p.map (ren to))=isFirst c p:=by
  unfold isFirst
  cases p with
  | nil=>simp
  | cons a r =>
    have ha:=hp.2 a (by simp)
    have:=ren_iff ht hl ha hc
    simp [List.getD_eq_getElem?_getD,this]
theorem ren_before {a b:Int} (ha:0≤a∧a < (n:Int)) (hb:0≤b∧b < (n:Int)) {p:List Int} (hp:isB (n:Int) p):isBefore (ren to a) (ren to b) (p.map (ren to))=isBefore a b p:=by
  unfold isBefore
  rw [firstAt_map (q':=fun z=>decide (a=z)) fun z hz=>decide_eq_decide.2 (ren_iff ht hl ha (hp.2 z hz)),firstAt_map (q':=fun z=>decide (b=z)) fun z hz=>decide_eq_decide.2 (ren_iff ht hl hb (hp.2 z hz)),List.length_map]
theorem ren_top {m m':List Int} (hm:∀ z,(0≤z∧z < (n:Int))→(ren to z∈m'↔z∈m)) {c:Int} (hc:0≤c∧c < (n:Int)) {p:List Int} (hp:isB (n:Int) p):isTopM m' (ren to c) (p.map (ren to))=isTopM m c p:=by
  unfold isTopM
  have e:=firstAt_map (p:=p) (q:=fun x=>decide (x∈m')) (q':=fun x=>decide (x∈m)) (σ:=ren to) fun z hz=>decide_eq_decide.2 (hm z (hp.2 z hz))
  rw [e,List.length_map]
  by_cases h:firstAt (fun x=>decide (x∈m)) p < p.length
  · rw [getD_map h]
    have hz:=hp.2 (p.getD (firstAt (fun x=>decide (x∈m)) p) 0) (by rw [getD_get p 0 h]; exact List.getElem_mem h)
    have:=ren_iff ht hl hz hc
    simp only [h,true_and,this]
  · simp only [h,false_and]
theorem ren_mem {t:List Int} (htt:isB (n:Int) t) {x:Int} (hx:0≤x∧x < (n:Int)):ren to x∈t.map (ren to)↔x∈t:=by
  constructor
  · intro h
    obtain ⟨y,hy,e⟩:=List.mem_map.1 h
    rw [← ren_inj ht hl (htt.2 y hy) hx e]
    exact hy
  · exact fun h=>List.mem_map.2 ⟨x,h,rfl⟩
theorem ren_mrg (hn:n≤7) {gs:List Grp} {N:Int} (hp:PileOK (n:Int) gs N) {t:List Int} (htt:isB (n:Int) t) (h0:0 < t.length) {x:Int} (hx:0≤x∧x < (n:Int)) (hne:x ≠ t.getD 0 0):mrg n (renG to gs gs.length) (ownA (t.map (ren to)) (ren to x))=mrg n gs (ownA t x):=by
  obtain ⟨hp',hs⟩:=ren_pile ht hl hp
  have h1:(1:Int)≤(n:Int):=by omega
  have ht0:=htt.2 (t.getD 0 0) (by rw [getD_get t 0 h0]; exact List.getElem_mem h0)
  have hrt:=ren_isB ht hl htt
  have h0':0 < (t.map (ren to)).length:=by simpa using h0
  have hg0:(t.map (ren to)).getD 0 0=ren to (t.getD 0 0):=getD_map h0
  have hne':ren to x ≠ (t.map (ren to)).getD 0 0:=by rw [hg0]; exact fun e=>hne (ren_inj ht hl hx ht0 e)
  have hv':=ownA_valid hn hrt h0' (ren_in ht hl hx) hne'
  have hv:=ownA_valid hn htt h0 hx hne
  rw [mrg_sum hp' h1 (by omega) hv' (own_kind _ _),mrg_sum hp h1 (by omega) hv (own_kind _ _),hs]
  refine wsum_congr fun g hg=>?_
  have hb:=(hp.ballots g hg).1
  unfold ownA
  rw [hg0]
  by_cases hxt:x∈t
  · rw [if_pos ((ren_mem ht hl htt hx).2 hxt),if_pos hxt]
    have hm:∀ z,(0≤z∧z < (n:Int))→(ren to z∈risL (t.map (ren to))↔z∈risL t):=fun z hz=>by
      rw [risL_mem,risL_mem,ren_mem ht hl htt hz]
      have:=ren_in ht hl hz
      constructor
      · rintro ⟨_,h⟩; exact ⟨by omega,h⟩
      · rintro ⟨_,h⟩; exact ⟨by omega,h⟩
    unfold gf
    simp only [show ¬ (2:Int)=1 by omega,if_false]
    rw [ren_top ht hl hm ht0 hb,ren_top ht hl hm hx hb]
  · rw [if_neg fun h=>hxt ((ren_mem ht hl htt hx).1 h),if_neg hxt]
    unfold gf
    simp only [if_true]
    rw [ren_first ht hl hx hb,ren_before ht hl ht0 hx hb]
theorem ren_onto {y:Int} (hy:0≤y∧y < (n:Int)):∃ x,(0≤x∧x < (n:Int))∧ren to x=y:=by
  have hm:y∈to:=by
    by_cases h:y∈to
    · exact h
    · have:=nodup_len n (y::to) (List.nodup_cons.2 ⟨h,ht.1⟩) fun z hz=>by
        rcases List.mem_cons.1 hz with rfl | hz
        · exact hy
        · exact ht.2 z hz
      simp at this
      omega
  obtain ⟨i,hi,e⟩:=List.getElem_of_mem hm
  refine ⟨(i:Int),by omega,?_⟩
  unfold ren
  rw [Int.toNat_natCast,getD_get to 0 hi,e]
theorem ren_lift:∀ {o':List Int},(∀ y∈o',0≤y∧y < (n:Int))→∃ o:List Int,o.map (ren to)=o'∧∀ x∈o,0≤x∧x < (n:Int)
  | [],_=>⟨[],rfl,fun x hx=>by cases hx⟩
  | y::r,h=>by
    obtain ⟨x,hx,e⟩:=ren_onto ht hl (h y (by simp))
    obtain ⟨o,h1,h2⟩:=ren_lift (o':=r) fun z hz=>h z (List.mem_cons_of_mem _ hz)
    exact ⟨x::o,by rw [List.map_cons,e,h1],fun z hz=>by
      rcases List.mem_cons.1 hz with rfl | hz
      · exact hx
      · exact h2 z hz⟩
theorem ren_ov (h2:2≤n) (hn:n≤7) {gs:List Grp} {N:Int} (hp:PileOK (n:Int) gs N) {t:List Int} (htt:isB (n:Int) t) (h0:0 < t.length) (v:Int):ov n (renG to gs gs.length) (t.map (ren to))≤v↔ov n gs t≤v:=by
  rw [ov_le h2,ov_le h2]
  have ht0:=htt.2 (t.getD 0 0) (by rw [getD_get t 0 h0]; exact List.getElem_mem h0)
  have hg0:(t.map (ren to)).getD 0 0=ren to (t.getD 0 0):=getD_map h0
  constructor
  · intro h x hx hne
    rw [← ren_mrg ht hl hn hp htt h0 hx hne]
    exact h _ (ren_in ht hl hx) (by rw [hg0]; exact fun e=>hne (ren_inj ht hl hx ht0 e))
  · intro h y hy hne
    obtain ⟨x,hx,rfl⟩:=ren_onto ht hl hy
    have hne':x ≠ t.getD 0 0:=fun e=>hne (by rw [hg0,e])
    rw [ren_mrg ht hl hn hp htt h0 hx hne']
    exact h x hx hne'
theorem ren_set (h1:1≤n) (hn:n≤7) {gs:List Grp} {N:Int} (hp:PileOK (n:Int) gs N) {wn:Int} (hw:0≤wn∧wn < (n:Int)):(setP n (renG to gs gs.length) (ren to wn)).1=(setP n gs wn).1:=by
  obtain ⟨hp',_⟩:=ren_pile ht hl hp
  have hpb:=hp.pileB (by omega) (by omega)
  have hpb':=hp'.pileB (by omega) (by omega)
  have hw':=ren_in ht hl hw
  have key:∀ v:Int,0≤v→v < 100000→((setP n (renG to gs gs.length) (ren to wn)).1≤v↔(setP n gs wn).1≤v):=by
    intro v v0 v1
    rw [setP_le h1 hn hpb' hw' v0 v1,setP_le h1 hn hpb hw v0 v1]
    have hone:n=1→∀ w o,(0≤w∧w < (n:Int))→¬ OtherO n w o:=by
      rintro rfl w o hw ⟨ho,hol,hlast⟩
      have:=ho.2 (o.getD 0 0) (by rw [getD_get o 0 (by omega)]; exact List.getElem_mem _)
      exact hlast (by simp only [Nat.sub_self]; omega)
    by_cases h2:n=1
    · constructor
      · rintro ⟨o,ho,_⟩; exact absurd ho (hone h2 _ _ hw')
      · rintro ⟨o,ho,_⟩; exact absurd ho (hone h2 _ _ hw)
    have h2':2≤n:=by omega
    constructor
    · rintro ⟨o',⟨ho,hol,hlast⟩,h⟩
      obtain ⟨o,rfl,hr⟩:=ren_lift ht hl ho.2
      rw [List.length_map] at hol
      have hob:isB (n:Int) o:=⟨List.nodup_iff_pairwise_ne.2 (List.Pairwise.of_map (ren to) (fun a b hab e=>hab (by rw [e])) (List.nodup_iff_pairwise_ne.1 ho.1)),hr⟩
      refine ⟨o,⟨hob,hol,fun e=>hlast ?_⟩,fun j hj=>?_⟩
      · rw [getD_map (by omega),e]
      · have:=h j hj
        rw [← List.map_drop] at this
        exact (ren_ov ht hl h2' hn hp (drop_isB hob j) (by rw [List.length_drop]; omega) v).1 this
    · rintro ⟨o,⟨ho,hol,hlast⟩,h⟩
      refine ⟨o.map (ren to),⟨ren_isB ht hl ho,by simpa using hol,?_⟩,fun j hj=>?_⟩
      · rw [getD_map (by omega)]
        exact fun e=>hlast (ren_inj ht hl (ho.2 _ (by rw [getD_get o 0 (by omega)]; exact List.getElem_mem _)) hw e)
      · rw [← List.map_drop]
        exact (ren_ov ht hl h2' hn hp (drop_isB ho j) (by rw [List.length_drop]; omega) v).2 (h j hj)
  obtain ⟨a1,a2⟩:=setP_bounds (n:=n) (renG to gs gs.length) (ren to wn)
  obtain ⟨b1,b2⟩:=setP_bounds (n:=n) gs wn
  generalize (setP n (renG to gs gs.length) (ren to wn)).1=x at a1 a2 key ⊢
  generalize (setP n gs wn).1=y at b1 b2 key ⊢
  by_cases hxy:x≤y
  · by_cases hyx:y≤x
    · omega
    · have:=(key x a1 (by omega)).1 (Int.le_refl _); omega
  · have:=(key y b1 (by omega)).2 (Int.le_refl _); omega
end
theorem d3_true {n:Int} {x:List (List Int)} {wn code:Int} (hn:WT (.int .i64) n) (hx:x.length≤281474976710656) (hw:∀ y∈x,WT (.slice (.int .i64)) y) (hwn:WT (.int .i64) wn) (hc:WT (.int .i64) code):d3 n x wn code=some true:=by
  unfold d3
  rw [d6_eq hn (by omega) (by omega)]
  have b:=mod_bounds n (n:=4) (by omega)
  have w1:w (1+n % 4)=1+n % 4:=w_id (by omega) (by omega)
  simp only [Option.bind_some,w1]
  obtain ⟨N,hN⟩:∃ N:Nat,1+n % 4=(N:Int):=⟨(1+n % 4).toNat,by omega⟩
  rw [hN]
  obtain ⟨gs,M,hgs,hp,hM,hg⟩:=pile_at (n:=(N:Int)) (by omega) (by omega) hx hw (k:=24) (by omega)
  rw [show (24:Int)=((24:Nat):Int) from rfl,hgs,d9_eq (n:=N) (by omega) hc,Option.bind_some,d6_eq hwn (by omega) (by omega),Option.bind_some,d10_eq,Option.bind_some,cond_true,d11_eq' hg,Option.bind_some]
  have b2:=mod_bounds wn (n:=(N:Int)) (by omega)
  obtain ⟨t1,t2,_⟩:=perT_ok hc N (by omega)
  generalize (perT code N).1=to at t1 t2 ⊢
  generalize wn % (N:Int)=w0 at b2 ⊢
  have e1:w0 < (to.length:Int):=by omega
  have e2:(0:Int)≤w0:=b2.1
  rw [d12_eq (n:=N) (by omega) t2 t1 hp,Option.bind_some]
  simp only [e1,e2,decide_true,Bool.and_self,cond_true]
  have hg':=(ren_pile t2 t1 hp).1.gs (by omega)
  have hset:=ren_set t2 t1 (by omega) (by omega) hp b2
  unfold ren at hset
  rw [d11_eq' hg',Option.bind_some,Int.toNat_natCast]
  rw [hset]
  simp
end Go.Proofs.Ytieoleabnjdkfaa
set_option linter.unusedSimpArgs false
set_option linter.unusedVariables false
open Go Go.Proofs Go.X
namespace Go.Proofs.Ytieoleabnjdkfaa
def lowAt (v:List Int) (r:List Bool) (i:Nat):Nat→Bool
  | 0=>rem r (i:Int)
  | k+1=>lowAt v r i k && !(rem r (k:Int) && decide (v.getD k 0 < v.getD i 0))
theorem lowAt_iff (v:List Int) (r:List Bool) (i:Nat):∀ k,lowAt v r i k=true↔rem r (i:Int)=true∧∀ j,j < k→rem r (j:Int)=true→v.getD i 0≤v.getD j 0
  | 0=>by simp [lowAt]
  | k+1=>by
    have ih:=lowAt_iff v r i k
    unfold lowAt
    rw [Bool.and_eq_true,ih]
    constructor
    · rintro ⟨⟨h1,h2⟩,h3⟩
      refine ⟨h1,fun j hj hr=>?_⟩
      rcases Nat.lt_or_ge j k with h | h
      · exact h2 j h hr
      · obtain rfl:j=k:=by omega
        simp only [hr,Bool.true_and,Bool.not_eq_true',decide_eq_false_iff_not] at h3
        omega
    · rintro ⟨h1,h2⟩
      refine ⟨⟨h1,fun j hj hr=>h2 j (by omega) hr⟩,?_⟩
      cases hr:rem r (k:Int)
      · rfl
      · have:=h2 k (by omega) hr
        have h3:¬ v.getD k 0 < v.getD i 0:=by omega
        simp only [h3,decide_false,Bool.and_false,Bool.not_false]
theorem full_isB {n:Int} (hn:0≤n) {o:List Int} (h:isB n o) (hl:o.length=n.toNat) {x:Int} (hx:0≤x∧x < n):x∈o:=by
  have hp:=perm_of_sub o ((List.range n.toNat).map fun (i:Nat)=>(i:Int)) h.1 (fun c hc=>by
    have:=h.2 c hc
    exact List.mem_map.2 ⟨c.toNat,List.mem_range.2 (by omega),by omega⟩) (by simp; omega)
  exact hp.mem_iff.2 (List.mem_map.2 ⟨x.toNat,List.mem_range.2 (by omega),by omega⟩)
def lowest (gs:List Grp) (o:List Int) (i:Nat):Prop:=∀ j,i≤j→j < o.length→∀ c∈o.drop j,wsum (isTopM (o.drop j) (o.getD j 0)) gs≤wsum (isTopM (o.drop j) c) gs
theorem wsum_mono {n:Int}:∀ {gs:List Grp},(∀ g∈gs,isB n g.1∧1≤g.2)→∀ {f h:List Int→Int},(∀ g∈gs,f g.1≤h g.1)→wsum f gs≤wsum h gs
  | [],_,f,h,_=>Int.le_refl _
  | g::gs,hg,f,h,hf=>by
    have ih:=wsum_mono (fun x hx=>hg x (List.mem_cons_of_mem _ hx)) fun x hx=>hf x (List.mem_cons_of_mem _ hx)
    have h1:=(hg g (by simp)).2
    have h2:=hf g (by simp)
    have h3:=Int.mul_le_mul_of_nonneg_left h2 (show 0≤g.2 by omega)
    unfold wsum
    omega
theorem firstAt_min (p:Int→Bool) {l:List Int} {i:Nat} (hi:i < l.length) (hp:p (l.getD i 0)=true):firstAt p l≤i:=by
  rcases Nat.lt_or_ge i (firstAt p l) with h | h
  · have:=firstAt_lt p l i h
    rw [hp] at this
    cases this
  · exact h
theorem first_le_top {R:List Int} {A:Int} (hA:A∈R) (p:List Int):isFirst A p≤isTopM R A p:=by
  unfold isFirst isTopM
  by_cases c:p ≠ []∧p.getD 0 0=A
  · obtain ⟨c1,c2⟩:=c
    have hl:0 < p.length:=List.length_pos_iff.2 c1
    have h0:firstAt (fun x=>decide (x∈R)) p=0:=by
      have:=firstAt_min (fun x=>decide (x∈R)) hl (by rw [c2]; exact decide_eq_true hA)
      omega
    rw [if_pos ⟨c1,c2⟩,if_pos (by rw [h0]; exact ⟨hl,c2⟩)]
    exact Int.le_refl _
  · rw [if_neg c]
    split <;> omega
theorem top_le_before {R:List Int} {A B:Int} (hA:A∈R) (hne:B ≠ A) (p:List Int):isTopM R B p≤isBefore B A p:=by
  unfold isTopM isBefore
  simp only
  by_cases c:firstAt (fun x=>decide (x∈R)) p < p.length∧p.getD (firstAt (fun x=>decide (x∈R)) p) 0=B
  · obtain ⟨c1,c2⟩:=c
    have h1:=firstAt_min (fun z=>decide (B=z)) c1 (by rw [c2]; simp)
    have h2:p.length≤firstAt (fun z=>decide (A=z)) p∨firstAt (fun z=>decide (B=z)) p < firstAt (fun z=>decide (A=z)) p:=by
      rcases Nat.lt_or_ge (firstAt (fun z=>decide (A=z)) p) p.length with h | h
      · refine .inr ?_
        have ha:=firstAt_at _ _ h
        simp only [decide_eq_true_eq] at ha
        have h3:=firstAt_min (fun x=>decide (x∈R)) h (by rw [← ha]; exact decide_eq_true hA)
        rcases Nat.lt_or_ge (firstAt (fun x=>decide (x∈R)) p) (firstAt (fun z=>decide (A=z)) p) with h4 | h4
        · omega
        · have h5:firstAt (fun x=>decide (x∈R)) p=firstAt (fun z=>decide (A=z)) p:=by omega
          rw [h5] at c2
          exact absurd (c2.symm.trans ha.symm) hne
      · exact .inl h
    rw [if_pos ⟨c1,c2⟩,if_pos ⟨by omega,h2⟩]
    exact Int.le_refl _
  · rw [if_neg c]
    split <;> omega
theorem topM_perm {M R:List Int} (h:M.Perm R) (c:Int) (p:List Int):isTopM M c p=isTopM R c p:=by
  unfold isTopM
  rw [firstAt_congr (p:=fun x=>decide (x∈M)) (q:=fun x=>decide (x∈R)) fun x _=>decide_eq_decide.2 h.mem_iff]
theorem right_none {n:Int} {gs:List Grp} {N:Int} (h:PileOK n gs N) (h1:1≤n) {a:Asn} (hv:validB n a=true) (hk:a.1=1∨a.1=2) (hf:(fav a gs).2 < (fav a gs).1) {o:List Int} (ho:isB n o) (hol:o.length=n.toNat) (hlow:lowest gs o 0) (j:Nat) :
    contr n a (o.drop j)=false:=by
  cases hc:contr n a (o.drop j) with
  | false=>rfl
  | true =>
    exfalso
    unfold contr at hc
    simp only [Bool.and_eq_true] at hc
    obtain ⟨_,hc⟩:=hc
    have hw:=valid_who hv
    rcases hk with k | k
    · unfold fav at hf
      simp only [k,if_true,Bool.and_eq_true,decide_eq_true_eq,Bool.not_eq_true',decide_eq_false_iff_not] at hc hf
      obtain ⟨c1,c2⟩:=hc
      have hne:a.2.1 ≠ a.2.2.1:=by
        unfold validB at hv
        simp only [k,if_true,Bool.and_eq_true,decide_eq_true_eq] at hv
        exact hv.2.1.1
      obtain ⟨x,hx⟩:∃ x,firstAt (fun z=>decide (a.2.2.1=z)) (o.drop j)=x:=⟨_,rfl⟩
      have hat:=firstAt_at _ _ c1
      rw [hx] at c1 c2 hat
      simp only [decide_eq_true_eq] at hat
      rw [List.length_drop] at c1
      rw [List.drop_drop] at c2
      have hB:o.getD (j+x) 0=a.2.2.1:=by
        rw [hat]
        simp [List.getD_eq_getElem?_getD]
      have hA:=full_isB (by omega) ho hol ⟨hw.1,hw.2.1⟩
      obtain ⟨i,hi,hie⟩:=List.getElem_of_mem hA
      have hil:i < j+x:=by
        rcases Nat.lt_or_ge i (j+x) with h | h
        · exact h
        · refine absurd ?_ c2
          rw [← hie]
          refine List.mem_iff_getElem.2 ⟨i - (j+x),by simp; omega,?_⟩
          rw [List.getElem_drop]
          congr 1
          omega
      have hAi:o.getD i 0=a.2.1:=by rw [getD_get _ _ hi]; exact hie
      have hBm:a.2.2.1∈o.drop i:=by
        refine List.mem_iff_getElem.2 ⟨j+x - i,by simp; omega,?_⟩
        rw [List.getElem_drop,← hB,getD_get _ _ (by omega)]
        congr 1
        omega
      have hAm:a.2.1∈o.drop i:=by
        refine List.mem_iff_getElem.2 ⟨0,by simp; omega,?_⟩
        rw [List.getElem_drop,← hie]
        congr 1
      have h3:=hlow i (Nat.zero_le _) hi _ hBm
      rw [hAi] at h3
      have h4:=wsum_mono h.ballots (f:=isFirst a.2.1) (h:=isTopM (o.drop i) a.2.1) fun g _=>first_le_top hAm g.1
      have h5:=wsum_mono h.ballots (f:=isTopM (o.drop i) a.2.2.1) (h:=isBefore a.2.2.1 a.2.1) fun g _=>top_le_before hAm (Ne.symm hne) g.1
      omega
    · obtain ⟨m1,m2,m3,m4⟩:=valid_next hv k
      unfold fav at hf
      simp only [k,if_true,if_false,show ¬ (2:Int)=1 by omega,Bool.and_eq_true,decide_eq_true_eq] at hc hf
      obtain ⟨c1,c2,c3⟩:=hc
      have hpos:0 < a.2.2.2.1.length:=List.length_pos_of_mem m3
      unfold lastOf at c3
      rw [List.length_drop] at c1 c2 c3
      rw [List.drop_drop] at c3
      obtain ⟨i,hi⟩:∃ i,j+(o.length - j - a.2.2.2.1.length)=i:=⟨_,rfl⟩
      rw [hi] at c3
      have hA:o.getD i 0=a.2.1:=by
        rw [← c2,← hi]
        simp [List.getD_eq_getElem?_getD]
      have hp:a.2.2.2.1.Perm (o.drop i):=perm_of_sub _ _ (nodup_of_lt m1) c3 (by rw [List.length_drop]; omega)
      have h3:=hlow i (Nat.zero_le _) (by omega) _ (c3 _ m4)
      rw [hA] at h3
      have e1:wsum (isTopM a.2.2.2.1 a.2.1) gs=wsum (isTopM (o.drop i) a.2.1) gs:=wsum_congr fun g _=>topM_perm hp _ _
      have e2:wsum (isTopM a.2.2.2.1 a.2.2.1) gs=wsum (isTopM (o.drop i) a.2.2.1) gs:=wsum_congr fun g _=>topM_perm hp _ _
      omega
end Go.Proofs.Ytieoleabnjdkfaa
set_option linter.unusedSimpArgs false
set_option linter.unusedVariables false
open Go Go.Proofs Go.X
namespace Go.Proofs.Ytieoleabnjdkfaa
theorem shl_eq:∀ c:Nat,c < 8→w (1 * 2 ^ (min (Int.toNat (c:Int)) 64))=((2 ^ c:Nat):Int):=by decide +kernel
theorem bit_eq:∀ S:Nat,S < 128→∀ c:Nat,c < 7→decide ((w ((BitVec.ofInt 64 (w (Int.fdiv (S:Int) (2 ^ (min (Int.toNat (c:Int)) 64)))) &&& BitVec.ofInt 64 1).toNat:Int))=1)=S.testBit c:=by decide +kernel
theorem off_eq:∀ S:Nat,S < 128→∀ c:Nat,c < 7→S.testBit c=true→w ((BitVec.ofInt 64 (S:Int) &&& ~~~(BitVec.ofInt 64 ((2 ^ c:Nat):Int))).toNat:Int)=((S - 2 ^ c:Nat):Int):=by decide +kernel
theorem tb_off:∀ S:Nat,S < 128→∀ c:Nat,c < 7→S.testBit c=true→∀ d:Nat,d < 7→(S - 2 ^ c).testBit d=(S.testBit d && decide (d ≠ c)):=by decide +kernel
theorem tb_ge:∀ S:Nat,S < 128→∀ c:Nat,c < 7→S.testBit c=true→2 ^ c≤S:=by decide +kernel
theorem tb_ex:∀ S:Nat,S < 128→0 < S→∃ c:Nat,c < 7∧S.testBit c=true:=by decide +kernel
def flags (n S:Nat):List Bool:=(List.range n).map fun c=>S.testBit c
def flagsTo (n S:Nat):Nat→List Bool
  | 0=>List.replicate n false
  | c+1=>(flagsTo n S c).set c (S.testBit c)
theorem flags_len (n S:Nat):(flags n S).length=n:=by simp [flags]
theorem flagsTo_len (n S:Nat):∀ c,(flagsTo n S c).length=n
  | 0=>by simp [flagsTo]
  | c+1=>by unfold flagsTo; rw [List.length_set]; exact flagsTo_len n S c
theorem flagsTo_get (n S:Nat) {i:Nat} (hi:i < n):∀ c,c≤n→(flagsTo n S c).getD i false=if i < c then S.testBit i else false
  | 0,_=>by simp [flagsTo,List.getD_eq_getElem?_getD,hi]
  | c+1,hc=>by
    have ih:=flagsTo_get n S hi c (by omega)
    unfold flagsTo
    rw [List.getD_eq_getElem?_getD,List.getElem?_set,flagsTo_len]
    by_cases e:c=i
    · subst e; simp [hi]
    · rw [if_neg e,← List.getD_eq_getElem?_getD,ih]
      by_cases h:i < c
      · simp [h,show i < c+1 by omega]
      · simp [h,show ¬ i < c+1 by omega]
theorem flags_get (n S:Nat) {i:Nat} (hi:i < n):(flags n S).getD i false=S.testBit i:=by
  rw [getD_get _ _ (by rw [flags_len]; exact hi)]; simp [flags]
theorem flagsTo_all (n S:Nat):flagsTo n S n=flags n S:=by
  apply List.ext_getElem
  · rw [flagsTo_len,flags_len]
  · intro i h1 h2
    rw [flagsTo_len] at h1
    have e1:=flagsTo_get n S h1 n (Nat.le_refl n)
    have e2:=flags_get n S h1
    rw [if_pos h1,getD_get _ _ (by rw [flagsTo_len]; exact h1)] at e1
    rw [getD_get _ _ (by rw [flags_len]; exact h1)] at e2
    rw [e1,e2]
theorem rem_flags (n S:Nat) {c:Int} (h:0≤c∧c < (n:Int)):rem (flags n S) c=S.testBit c.toNat:=by
  unfold rem
  rw [flags_len,if_pos h.2,flags_get _ _ (by omega)]
def markTo (gs:List Grp) (n:Nat) (R:List Bool) (S:Nat):Nat→List Bool
  | 0=>R
  | c+1=>if lowAt (votesAt (flags n S) gs) (flags n S) c n then (markTo gs n R S c).set (S - 2 ^ c) true else markTo gs n R S c
theorem markTo_len (gs:List Grp) (n:Nat) (R:List Bool) (S:Nat):∀ c,(markTo gs n R S c).length=R.length
  | 0=>rfl
  | c+1=>by unfold markTo; split <;> simp [markTo_len gs n R S c]
def reachA (gs:List Grp) (n M:Nat):Nat→List Bool
  | 0=>(List.replicate M false).set (M - 1) true
  | k+1=>if (reachA gs n M k).getD (M - 1 - k) false then markTo gs n (reachA gs n M k) (M - 1 - k) n else reachA gs n M k
theorem reachA_len (gs:List Grp) (n M:Nat):∀ k,(reachA gs n M k).length=M
  | 0=>by simp [reachA]
  | k+1=>by unfold reachA; split <;> simp [markTo_len,reachA_len gs n M k]
def possL (gs:List Grp) (n M:Nat):Nat→List Int
  | 0=>[]
  | c+1=>if (reachA gs n M (M - 1)).getD (2 ^ c) false then possL gs n M c++[(c:Int)] else possL gs n M c
theorem possL_len (gs:List Grp) (n M:Nat):∀ c,(possL gs n M c).length≤c
  | 0=>by simp [possL]
  | c+1=>by have:=possL_len gs n M c; unfold possL; split <;> simp <;> omega
theorem d16_eq {n:Int} {gs:List Grp} {N:Int} (h:PileOK n gs N) (h1:1≤n) (hn:n≤7):d16 n gs=some (possL gs n.toNat (2 ^ n.toNat) n.toNat):=by
  obtain ⟨m,rfl⟩:∃ m:Nat,n=(m:Int):=⟨n.toNat,by omega⟩
  have hm:m≤7:=by omega
  unfold d16
  rw [d20_eq (h.gs hn),h.pileB h1 hn]
  have s0:=shl_eq m (by omega)
  have hM:2 ^ m≤128:=Nat.le_trans (Nat.pow_le_pow_right (by omega) hm) (by decide)
  have hM1:2≤2 ^ m:=Nat.le_trans (show 2≤2 ^ 1 by decide) (Nat.pow_le_pow_right (by omega) (by omega))
  have hc7:∀ c,c < m→2 ^ c < 2 ^ m:=fun c hc=>Nat.pow_lt_pow_right (by omega) hc
  simp only [Int.toNat_natCast] at s0 ⊢
  generalize hMM:2 ^ m=M at s0 hM hM1 hc7 ⊢
  have s1:w ((M:Int) - 1)=((M - 1:Nat):Int):=by rw [w_id (by omega) (by omega)]; omega
  have l0:(0:Int)≤(m:Int):=by omega
  have l1:(M:Int)≤LIM:=by rw [LIM_eq]; omega
  have l2:(0:Int)≤(M:Int):=by omega
  have l3:(0:Int)≤((M - 1:Nat):Int):=by omega
  have l4:((M - 1:Nat):Int) < (M:Int):=by omega
  have l5:(m:Int)≤LIM:=by rw [LIM_eq]; omega
  simp only [Option.bind_some,Bool.not_true,cond_false,s0,s1,l0,l1,l2,l3,l4,decide_true,Bool.and_self,cond_true,Int.toNat_natCast,List.length_replicate]
  refine while_bind (b:=((m:Int),reachA gs m M (M - 1))) (fun k=>((m:Int),gs,reachA gs m M k,((M - 1 - k:Nat):Int))) (M - 1) rfl (fun k hk=>?_) ?_ ?_
  · obtain ⟨S,hS⟩:∃ S,M - 1 - k=S:=⟨_,rfl⟩
    have hS':M - 1 - (k+1)=S - 1:=by omega
    have hS0:0 < S:=by omega
    have c0:(0:Int) < (S:Int):=by omega
    have c1:(0:Int)≤(S:Int):=by omega
    have c2:(S:Int) < (M:Int):=by omega
    have c3:w ((S:Int) - 1)=((S - 1:Nat):Int):=by rw [w_id (by omega) (by omega)]; omega
    simp only [hS,hS',c0,c1,c2,c3,decide_true,cond_true,letJ,Bool.and_self,Int.toNat_natCast,reachA_len]
    have hstep:reachA gs m M (k+1)=if (reachA gs m M k).getD S false then markTo gs m (reachA gs m M k) S m else reachA gs m M k:=by rw [← hS]; rfl
    rw [hstep]
    have hRl:=reachA_len gs m M k
    generalize reachA gs m M k=R at hRl ⊢
    cases hR:R.getD S false
    · simp only [Bool.not_false,cond_true,Bool.false_eq_true,if_false]
    · simp only [Bool.not_true,cond_false,if_true,l0,l5,decide_true,Bool.and_self,cond_true,List.length_replicate,Int.toNat_natCast]
      refine while_bind (b:=((m:Int),gs,R,(S:Int),flags m S)) (fun c=>((m:Int),gs,R,(S:Int),flagsTo m S c,(m:Int),(c:Int))) m rfl (fun c hc=>?_) ?_ ?_
      · have d1:(c:Int) < (m:Int):=by omega
        have d2:(0:Int)≤(c:Int):=by omega
        have d3:w ((c:Int)+1)=((c+1:Nat):Int):=by rw [w_id (by omega) (by omega)]; omega
        have d6:=bit_eq S (by omega) c (by omega)
        rw [Int.toNat_natCast] at d6
        simp only [d1,d2,d3,decide_true,cond_true,Bool.and_self,flagsTo_len,Int.toNat_natCast,d6]
        rfl
      · have:¬ ((m:Int) < (m:Int)):=by omega
        simp only [this,decide_false,cond_false,flagsTo_all]
      · have hfl:=flags_len m S
        simp only
        rw [h.d34 hn (by omega)]
        simp only [Option.bind_some,votesAt_len,hfl]
        obtain ⟨v,hv⟩:∃ v,votesAt (flags m S) gs=v:=⟨_,rfl⟩
        have hvl:v.length=m:=by rw [← hv,votesAt_len,hfl]
        have hmk:∀ c,markTo gs m R S (c+1)=if lowAt v (flags m S) c m then (markTo gs m R S c).set (S - 2 ^ c) true else markTo gs m R S c:=fun c=>by rw [← hv]; rfl
        have hml:=markTo_len gs m R S
        rw [hv]
        refine while_bind (b:=((m:Int),gs,markTo gs m R S m,(S:Int))) (fun c=>((m:Int),gs,markTo gs m R S c,(S:Int),flags m S,v,(m:Int),(c:Int))) m rfl (fun c hc=>?_) ?_ (by simp only [c3])
        · have d1:(c:Int) < (m:Int):=by omega
          have d2:(0:Int)≤(c:Int):=by omega
          have d3:w ((c:Int)+1)=((c+1:Nat):Int):=by rw [w_id (by omega) (by omega)]; omega
          simp only [d1,d2,d3,decide_true,cond_true,Bool.and_self,hfl,hvl,Int.toNat_natCast]
          refine while_bind (b:=((m:Int),gs,markTo gs m R S c,(S:Int),flags m S,v,(c:Int),lowAt v (flags m S) c m,(m:Int),(c:Int))) (fun d=>((m:Int),gs,markTo gs m R S c,(S:Int),flags m S,v,(c:Int),lowAt v (flags m S) c d,(m:Int),(c:Int),(m:Int),(d:Int))) m ?_ (fun d hd=>?_) ?_ ?_
          · have:lowAt v (flags m S) c 0=(flags m S).getD c false:=by
              unfold lowAt; rw [rem_flags m S (by omega),Int.toNat_natCast,flags_get m S hc]
            simp only [this]; rfl
          · have e1:(d:Int) < (m:Int):=by omega
            have e2:(0:Int)≤(d:Int):=by omega
            have e3:w ((d:Int)+1)=((d+1:Nat):Int):=by rw [w_id (by omega) (by omega)]; omega
            have e4:rem (flags m S) (d:Int)=(flags m S).getD d false:=by rw [rem_flags m S (by omega),Int.toNat_natCast,flags_get m S hd]
            simp only [d1,d2,e1,e2,e3,decide_true,cond_true,Bool.and_self,hfl,hvl,Int.toNat_natCast]
            have e5:lowAt v (flags m S) c (d+1)=(lowAt v (flags m S) c d && !((flags m S).getD d false && decide (v.getD d 0 < v.getD c 0))):=by rw [← e4]; rfl
            rw [e5]
            cases lowAt v (flags m S) c d
            · simp only [cond_false,Bool.false_and]
            · cases (flags m S).getD d false
              · simp only [cond_true,cond_false,Bool.not_false,Bool.not_true,Bool.false_and,Bool.and_true]
              · by_cases e6:v.getD d 0 < v.getD c 0
                · have e7:¬ v.getD c 0≤v.getD d 0:=by omega
                  simp only [e6,e7,cond_true,cond_false,Bool.not_false,Bool.not_true,Bool.true_and,decide_true,decide_false]
                · have e7:v.getD c 0≤v.getD d 0:=by omega
                  simp only [e6,e7,cond_true,cond_false,Bool.not_false,Bool.not_true,Bool.true_and,decide_true,decide_false]
          · have:¬ ((m:Int) < (m:Int)):=by omega
            simp only [this,decide_false,cond_false]
          · have hsh:=shl_eq c (by omega)
            rw [Int.toNat_natCast] at hsh
            simp only [hmk,d2,decide_true,cond_true,Int.toNat_natCast,hsh]
            cases hl:lowAt v (flags m S) c m
            · simp only [cond_false,Bool.false_eq_true,if_false,d3]
            · have ht:S.testBit c=true:=by
                have:=((lowAt_iff v (flags m S) c m).1 hl).1
                rwa [rem_flags m S (by omega),Int.toNat_natCast] at this
              have ho:=off_eq S (by omega) c (by omega) ht
              have o1:(0:Int)≤((S - 2 ^ c:Nat):Int):=by omega
              have o2:((S - 2 ^ c:Nat):Int) < (M:Int):=by have:=Nat.sub_le S (2 ^ c); generalize S - 2 ^ c=T at *; omega
              simp only [cond_true,if_true,ho,o1,o2,hml,hRl,decide_true,Bool.and_self,Int.toNat_natCast,d3]
        · have:¬ ((m:Int) < (m:Int)):=by omega
          simp only [this,decide_false,cond_false]
  · have:¬ ((0:Int) < ((M - 1 - (M - 1):Nat):Int)):=by omega
    simp only [this,decide_false,cond_false]
  · simp only
    refine while_bind (b:=possL gs m M m) (fun c=>(reachA gs m M (M - 1),possL gs m M c,(m:Int),(c:Int))) m rfl (fun c hc=>?_) ?_ rfl
    · have d1:(c:Int) < (m:Int):=by omega
      have d2:(0:Int)≤(c:Int):=by omega
      have d3:w ((c:Int)+1)=((c+1:Nat):Int):=by rw [w_id (by omega) (by omega)]; omega
      have hsh:=shl_eq c (by omega)
      rw [Int.toNat_natCast] at hsh
      have o1:(0:Int)≤((2 ^ c:Nat):Int):=Int.natCast_nonneg _
      have o2:((2 ^ c:Nat):Int) < (M:Int):=by have:=hc7 c hc; omega
      have hpl:=possL_len gs m M c
      have hlim:((possL gs m M c).length:Int)+(([(c:Int)]:List Int).length:Int)≤LIM:=by rw [LIM_eq]; simp; omega
      simp only [d1,d2,d3,hsh,o1,o2,decide_true,cond_true,Bool.and_self,letJ,reachA_len,Int.toNat_natCast,possL]
      cases (reachA gs m M (M - 1)).getD (2 ^ c) false
      · simp only [cond_false,Bool.false_eq_true,if_false]
      · simp only [cond_true,if_true,hlim,decide_true]
    · have:¬ ((m:Int) < (m:Int)):=by omega
      simp only [this,decide_false,cond_false]
def lowP (gs:List Grp) (o:List Int) (m:Nat):Prop:=∀ j,j < m→∀ c∈o.drop j,wsum (isTopM (o.drop j) (o.getD j 0)) gs≤wsum (isTopM (o.drop j) c) gs
def Reach (gs:List Grp) (n:Nat) (S:Nat):Prop:=∃ b:List Int,isB n b∧(∀ c:Nat,c < n→(S.testBit c=true↔(c:Int) ∉ b))∧∀ s:List Int,isB n (b++s)→(b++s).length=n→lowP gs (b++s) b.length
theorem reach_step {n:Nat} {gs:List Grp} {N:Int} (h:PileOK n gs N) (hn:n≤7) {S c:Nat} (hS:S < 128) (hc:c < n) (hr:Reach gs n S) (hl:lowAt (votesAt (flags n S) gs) (flags n S) c n=true):Reach gs n (S - 2 ^ c):=by
  obtain ⟨b,hb,hset,hlow⟩:=hr
  obtain ⟨h1,h2⟩:=(lowAt_iff _ _ _ _).1 hl
  rw [rem_flags n S (by omega),Int.toNat_natCast] at h1
  have hcb:=(hset c hc).1 h1
  refine ⟨b++[(c:Int)],⟨List.nodup_append.2 ⟨hb.1,by simp,fun x hx y hy e=>hcb (by rw [List.mem_singleton.1 hy] at e; rw [← e]; exact hx)⟩,fun x hx=>?_⟩,fun d hd=>?_,fun s hs hsl j hj x hx=>?_⟩
  · rcases List.mem_append.1 hx with hx | hx
    · exact hb.2 x hx
    · rw [List.mem_singleton.1 hx]; omega
  · rw [tb_off S hS c (by omega) h1 d (by omega),Bool.and_eq_true,hset d hd,decide_eq_true_eq,List.mem_append,List.mem_singleton]
    constructor
    · rintro ⟨p,q⟩ (e | e)
      · exact p e
      · exact q (by omega)
    · intro p
      exact ⟨fun e=>p (.inl e),fun e=>p (.inr (by rw [e]))⟩
  · have ea:b++[(c:Int)]++s=b++(c:Int)::s:=by simp
    rw [ea] at hs hsl hx ⊢
    rcases Nat.lt_or_ge j b.length with hlt | hge
    · exact hlow _ hs hsl j hlt x hx
    · have hj':j=b.length:=by simp at hj; omega
      subst hj'
      have e1:(b++(c:Int)::s).drop b.length=(c:Int)::s:=by simp
      have e2:(b++(c:Int)::s).getD b.length 0=(c:Int):=by simp [List.getD_eq_getElem?_getD]
      rw [e1] at hx ⊢
      rw [e2]
      have hmem:∀ y:Int,0≤y→y < n→rem (flags n S) y=decide (y∈(c:Int)::s):=fun y hy hy'=>by
        rw [rem_flags n S ⟨hy,hy'⟩,Bool.eq_iff_iff,hset y.toNat (by omega),decide_eq_true_eq,show ((y.toNat:Nat):Int)=y by omega]
        have hm:=full_isB (by omega) hs (by rw [hsl]; omega) ⟨hy,hy'⟩
        constructor
        · intro hnb
          rcases List.mem_append.1 hm with hm | hm
          · exact absurd hm hnb
          · exact hm
        · intro hy2 hyb
          exact (List.nodup_append.1 hs.1).2.2 _ hyb _ hy2 rfl
      have hv:∀ y:Nat,y < n→(votesAt (flags n S) gs).getD y 0=wsum (isTopM ((c:Int)::s) (y:Int)) gs:=fun y hy=>by
        rw [votesAt_get _ gs (by rw [flags_len]; omega)]
        refine wsum_congr fun g hg=>?_
        have hgb:=(h.ballots g hg).1
        unfold isTop isTopM
        rw [firstAt_congr fun z hz=>hmem z (hgb.2 z hz).1 (hgb.2 z hz).2]
      have hxb:=hs.2 x (List.mem_append.2 (.inr hx))
      have hxn:((x.toNat:Nat):Int)=x:=by omega
      have h3:=h2 x.toNat (by omega) (by rw [hxn,hmem x hxb.1 hxb.2]; exact decide_eq_true hx)
      rwa [hv c hc,hv x.toNat (by omega),hxn] at h3
theorem get_set {R:List Bool} {i j:Nat} (hj:j < R.length) (h:(R.set i true).getD j false=true):j=i∨R.getD j false=true:=by
  rw [List.getD_eq_getElem?_getD,List.getElem?_set] at h
  by_cases e:i=j
  · exact .inl e.symm
  · rw [if_neg e,← List.getD_eq_getElem?_getD] at h; exact .inr h
theorem set_get {R:List Bool} {i j:Nat} (hj:j < R.length) (h:j=i∨R.getD j false=true):(R.set i true).getD j false=true:=by
  rw [List.getD_eq_getElem?_getD,List.getElem?_set]
  by_cases e:i=j
  · subst e; simp [hj]
  · rw [if_neg e,← List.getD_eq_getElem?_getD]; exact h.resolve_left fun h=>e h.symm
theorem mark_reach {n:Nat} {gs:List Grp} {N:Int} (h:PileOK n gs N) (hn:n≤7) {S:Nat} (hS:S < 128) (hr:Reach gs n S) {R:List Bool} (hR:∀ T,T < R.length→R.getD T false=true→Reach gs n T):∀ c,c≤n→∀ T,T < R.length→(markTo gs n R S c).getD T false=true→Reach gs n T
  | 0,_,T,hT,hg=>hR T hT hg
  | c+1,hc,T,hT,hg=>by
    unfold markTo at hg
    split at hg
    · rename_i hl
      rcases get_set (by rw [markTo_len]; exact hT) hg with rfl | hg
      · exact reach_step h hn hS (by omega) hr hl
      · exact mark_reach h hn hS hr hR c (by omega) T hT hg
    · exact mark_reach h hn hS hr hR c (by omega) T hT hg
theorem reach_all {n:Nat} {gs:List Grp} {N:Int} (h:PileOK n gs N) (hn:n≤7):∀ k,∀ T,T < 2 ^ n→(reachA gs n (2 ^ n) k).getD T false=true→Reach gs n T
  | 0,T,hT,hg=>by
    unfold reachA at hg
    rcases get_set (by simpa using hT) hg with rfl | hg
    · refine ⟨[],⟨by simp,by simp⟩,fun c hc=>?_,fun s _ _ j hj=>absurd hj (by simp)⟩
      rw [Nat.testBit_two_pow_sub_one]; simp [hc]
    · simp [List.getD_eq_getElem?_getD,hT] at hg
  | k+1,T,hT,hg=>by
    have hM:2 ^ n≤128:=Nat.le_trans (Nat.pow_le_pow_right (by omega) hn) (by decide)
    have ih:=reach_all h hn k
    have hl:=reachA_len gs n (2 ^ n) k
    unfold reachA at hg
    split at hg
    · rename_i hs
      exact mark_reach h hn (by omega) (ih _ (by omega) hs) (R:=reachA gs n (2 ^ n) k) (fun T hT' hg'=>ih T (by omega) hg') n (Nat.le_refl n) T (by rw [hl]; exact hT) hg
    · exact ih T hT hg
theorem mark_keep {n:Nat} {gs:List Grp} {R:List Bool} {S T:Nat} (hT:T < R.length):∀ c,R.getD T false=true→(markTo gs n R S c).getD T false=true
  | 0,hg=>hg
  | c+1,hg=>by
    have ih:=mark_keep (n:=n) (gs:=gs) (S:=S) hT c hg
    unfold markTo
    split
    · exact set_get (by rw [markTo_len]; exact hT) (.inr ih)
    · exact ih
theorem mark_new {n:Nat} {gs:List Grp} {R:List Bool} {S d:Nat} (hS:S < R.length) (hl:lowAt (votesAt (flags n S) gs) (flags n S) d n=true):∀ c,d < c→(markTo gs n R S c).getD (S - 2 ^ d) false=true
  | 0,h=>by omega
  | c+1,h=>by
    unfold markTo
    by_cases e:d=c
    · subst e
      rw [if_pos hl]
      exact set_get (by rw [markTo_len]; exact Nat.lt_of_le_of_lt (Nat.sub_le _ _) hS) (.inl rfl)
    · have ih:=mark_new hS hl c (by omega)
      split
      · exact set_get (by rw [markTo_len]; exact Nat.lt_of_le_of_lt (Nat.sub_le _ _) hS) (.inr ih)
      · exact ih
theorem reach_keep {n M:Nat} {gs:List Grp} {T:Nat} (hT:T < M):∀ k j,j≤k→(reachA gs n M j).getD T false=true→(reachA gs n M k).getD T false=true
  | 0,j,hj,hg=>by
    obtain rfl:j=0:=by omega
    exact hg
  | k+1,j,hj,hg=>by
    by_cases e:j=k+1
    · rw [← e]; exact hg
    · have ih:=reach_keep hT k j (by omega) hg
      unfold reachA
      split
      · exact mark_keep (by rw [reachA_len]; exact hT) n ih
      · exact ih
theorem mark_low {n:Nat} {gs:List Grp} {R:List Bool} {S T:Nat} (hS:S < 128) (hn:n≤7) (hT:T < R.length) (hST:S≤T):∀ c,c≤n→(markTo gs n R S c).getD T false=true→R.getD T false=true
  | 0,_,hg=>hg
  | c+1,hc,hg=>by
    unfold markTo at hg
    split at hg
    · rename_i hl
      have h1:=((lowAt_iff _ _ _ _).1 hl).1
      rw [rem_flags n S (by omega),Int.toNat_natCast] at h1
      have h2:=tb_ge S hS c (by omega) h1
      have h3:0 < 2 ^ c:=Nat.pow_pos (by omega)
      rcases get_set (by rw [markTo_len]; exact hT) hg with e | hg
      · omega
      · exact mark_low hS hn hT hST c (by omega) hg
    · exact mark_low hS hn hT hST c (by omega) hg
theorem reach_turn {n M:Nat} {gs:List Grp} (hn:n≤7) (hM:M≤128) {T:Nat} (hT:T < M):∀ k,M - 1 - k≤T→(reachA gs n M (k+1)).getD T false=true→(reachA gs n M (M - 1 - T)).getD T false=true:=by
  intro k hk hg
  have key:∀ k,M - 1 - T≤k→(reachA gs n M k).getD T false=true→(reachA gs n M (M - 1 - T)).getD T false=true:=by
    intro k
    induction k with
    | zero=>intro h hg; rw [show M - 1 - T=0 by omega]; exact hg
    | succ k ih =>
      intro h hg
      by_cases e:M - 1 - T=k+1
      · rw [e]; exact hg
      · refine ih (by omega) ?_
        unfold reachA at hg
        split at hg
        · exact mark_low (by omega) hn (by rw [reachA_len]; exact hT) (by omega) n (Nat.le_refl n) hg
        · exact hg
  exact key (k+1) (by omega) hg
theorem low_ex (v:List Int) (r:List Bool) (n:Nat) (hex:∃ c:Nat,c < n∧rem r (c:Int)=true):∃ c:Nat,c < n∧lowAt v r c n=true:=by
  have key:∀ (k:Nat) (c:Nat),c < n→rem r (c:Int)=true→(∀ j:Nat,j < n→rem r (j:Int)=true→(v.getD j 0 < v.getD c 0)→j < k)→∃ c:Nat,c < n∧lowAt v r c n=true:=by
    intro k
    induction k with
    | zero =>
      intro c hc hr hk
      refine ⟨c,hc,(lowAt_iff _ _ _ _).2 ⟨hr,fun j hj hr'=>?_⟩⟩
      by_cases h:v.getD j 0 < v.getD c 0
      · exact absurd (hk j hj hr' h) (by omega)
      · omega
    | succ k ih =>
      intro c hc hr hk
      by_cases h:k < n∧rem r (k:Int)=true∧v.getD k 0 < v.getD c 0
      · refine ih k h.1 h.2.1 fun j hj hr' hlt=>?_
        have h1:=hk j hj hr' (by omega)
        have:j ≠ k:=fun e=>by rw [e] at hlt; omega
        omega
      · refine ih c hc hr fun j hj hr' hlt=>?_
        have h1:=hk j hj hr' hlt
        have:j ≠ k:=fun e=>h ⟨by omega,by rw [← e]; exact hr',by rw [← e]; exact hlt⟩
        omega
  obtain ⟨c,hc,hr⟩:=hex
  exact key n c hc hr fun j hj _ _=>hj
theorem some_single {n:Nat} {gs:List Grp} (hn:n≤7):∀ S:Nat,0 < S→S < 2 ^ n→(reachA gs n (2 ^ n) (2 ^ n - 1)).getD S false=true→∃ c,c < n∧(reachA gs n (2 ^ n) (2 ^ n - 1)).getD (2 ^ c) false=true:=by
  have hM:2 ^ n≤128:=Nat.le_trans (Nat.pow_le_pow_right (by omega) hn) (by decide)
  intro S
  induction S using Nat.strongRecOn with
  | _ S ih =>
    intro h0 hS hg
    obtain ⟨d,hd,hdt⟩:=tb_ex S (by omega) h0
    have hdn:d < n:=by
      have h1:=tb_ge S (by omega) d hd hdt
      rcases Nat.lt_or_ge d n with h | h
      · exact h
      · have:=Nat.pow_le_pow_right (show 0 < 2 by omega) h; omega
    obtain ⟨c,hc,hl⟩:=low_ex (votesAt (flags n S) gs) (flags n S) n ⟨d,hdn,by rw [rem_flags n S (by omega),Int.toNat_natCast]; exact hdt⟩
    have hct:=((lowAt_iff _ _ _ _).1 hl).1
    rw [rem_flags n S (by omega),Int.toNat_natCast] at hct
    have hge:=tb_ge S (by omega) c (by omega) hct
    have hpos:0 < 2 ^ c:=Nat.pow_pos (by omega)
    have hturn:=reach_turn (gs:=gs) hn hM hS (2 ^ n - 2) (by omega) (by rw [show 2 ^ n - 2+1=2 ^ n - 1 by omega]; exact hg)
    have hnew:(reachA gs n (2 ^ n) (2 ^ n - 1 - S+1)).getD (S - 2 ^ c) false=true:=by
      unfold reachA
      rw [show 2 ^ n - 1 - (2 ^ n - 1 - S)=S by omega,if_pos hturn]
      exact mark_new (by rw [reachA_len]; exact hS) hl n hc
    have hfin:=reach_keep (n:=n) (M:=2 ^ n) (gs:=gs) (T:=S - 2 ^ c) (by omega) (2 ^ n - 1) _ (by omega) hnew
    by_cases e:S - 2 ^ c=0
    · obtain rfl:S=2 ^ c:=by omega
      exact ⟨c,hc,hg⟩
    · exact ih (S - 2 ^ c) (by omega) (by omega) (by omega) hfin
theorem possL_mem {gs:List Grp} {n M:Nat} {x:Int}:∀ {c:Nat},x∈possL gs n M c↔∃ d:Nat,x=(d:Int)∧d < c∧(reachA gs n M (M - 1)).getD (2 ^ d) false=true
  | 0=>by simp [possL]
  | c+1=>by
    have ih:=possL_mem (gs:=gs) (n:=n) (M:=M) (x:=x) (c:=c)
    unfold possL
    split
    · rename_i h
      rw [List.mem_append,ih,List.mem_singleton]
      constructor
      · rintro (⟨d,h1,h2,h3⟩ | h1)
        · exact ⟨d,h1,by omega,h3⟩
        · exact ⟨c,h1,by omega,h⟩
      · rintro ⟨d,h1,h2,h3⟩
        by_cases e:d=c
        · exact .inr (by rw [h1,e])
        · exact .inl ⟨d,h1,by omega,h3⟩
    · rename_i h
      rw [ih]
      constructor
      · rintro ⟨d,h1,h2,h3⟩; exact ⟨d,h1,by omega,h3⟩
      · rintro ⟨d,h1,h2,h3⟩
        refine ⟨d,h1,?_,h3⟩
        have:d ≠ c:=fun e=>h (by rw [← e]; exact h3)
        omega
theorem possL_nodup {gs:List Grp} {n M:Nat}:∀ c:Nat,(possL gs n M c).Nodup
  | 0=>by simp [possL]
  | c+1=>by
    have ih:=possL_nodup (gs:=gs) (n:=n) (M:=M) c
    unfold possL
    split
    · refine List.nodup_append.2 ⟨ih,by simp,fun x hx y hy e=>?_⟩
      obtain ⟨d,h1,h2,_⟩:=possL_mem.1 hx
      rw [List.mem_singleton.1 hy] at e
      omega
    · exact ih
theorem poss_ok {n:Nat} {gs:List Grp} {N:Int} (h:PileOK n gs N) (h1:1≤n) (hn:n≤7):possL gs n (2 ^ n) n ≠ []∧∀ x∈possL gs n (2 ^ n) n,∃ o,isB n o∧o.length=n∧lowest gs o 0∧o.getD (n - 1) 0=x:=by
  constructor
  · have hM1:2≤2 ^ n:=Nat.le_trans (show 2≤2 ^ 1 by decide) (Nat.pow_le_pow_right (by omega) (by omega))
    have h0:(reachA gs n (2 ^ n) 0).getD (2 ^ n - 1) false=true:=by
      unfold reachA
      exact set_get (by simp; omega) (.inl rfl)
    obtain ⟨c,hc,hg⟩:=some_single (gs:=gs) hn (2 ^ n - 1) (by omega) (by omega) (reach_keep (by omega) _ 0 (by omega) h0)
    intro e
    have:=(possL_mem (gs:=gs) (n:=n) (M:=2 ^ n) (x:=(c:Int)) (c:=n)).2 ⟨c,rfl,hc,hg⟩
    rw [e] at this
    simp at this
  · intro x hx
    obtain ⟨c,rfl,hc,hg⟩:=possL_mem.1 hx
    obtain ⟨b,hb,hset,hlow⟩:=reach_all h hn _ _ (Nat.pow_lt_pow_right (by omega) hc) hg
    have hset':∀ d:Nat,d < n→(d=c↔(d:Int) ∉ b):=fun d hd=>by
      rw [← hset d hd,Nat.testBit_two_pow]
      simp [eq_comm]
    have hcb:=(hset' c hc).1 rfl
    have hB:isB n (b++[(c:Int)]):=⟨List.nodup_append.2 ⟨hb.1,by simp,fun x hx y hy e=>hcb (by rw [List.mem_singleton.1 hy] at e; rw [← e]; exact hx)⟩,fun x hx=>by
      rcases List.mem_append.1 hx with hx | hx
      · exact hb.2 x hx
      · rw [List.mem_singleton.1 hx]; omega⟩
    have hlen:(b++[(c:Int)]).length=n:=by
      have hp:=perm_of_sub ((List.range n).map fun (i:Nat)=>(i:Int)) (b++[(c:Int)]) ?_ ?_ ?_
      · have:=hp.length_eq; simpa using this.symm
      · refine List.pairwise_map.2 (List.nodup_range.imp fun h e=>h (by omega))
      · intro x hx
        obtain ⟨d,hd,rfl⟩:=List.mem_map.1 hx
        have hd':=List.mem_range.1 hd
        by_cases e:d=c
        · subst e; simp
        · have:(d:Int)∈b:=Classical.byContradiction fun hh=>e ((hset' d hd').2 hh)
          exact List.mem_append.2 (.inl this)
      · have:=nodup_len n (b++[(c:Int)]) hB.1 hB.2
        simpa using this
    refine ⟨b++[(c:Int)],hB,hlen,fun j _ hj y hy=>?_,?_⟩
    · rcases Nat.lt_or_ge j b.length with hlt | hge
      · exact hlow [(c:Int)] hB hlen j hlt y hy
      · have hj':j=b.length:=by simp at hj; omega
        subst hj'
        have e1:(b++[(c:Int)]).drop b.length=[(c:Int)]:=by simp
        have e2:(b++[(c:Int)]).getD b.length 0=(c:Int):=by simp [List.getD_eq_getElem?_getD]
        rw [e1] at hy ⊢
        rw [e2,List.mem_singleton.1 hy]
        exact Int.le_refl _
    · have:n - 1=b.length:=by simp at hlen; omega
      rw [this]
      simp [List.getD_eq_getElem?_getD]
end Go.Proofs.Ytieoleabnjdkfaa
set_option linter.unusedSimpArgs false
set_option linter.unusedVariables false
open Go Go.Proofs Go.X
namespace Go.Proofs.Ytieoleabnjdkfaa
theorem setN_drop {n:Nat} (hn:n≤7) {o:List Int} (ho:isB (n:Int) o) {j:Nat} (hj:j < o.length):setN (o.drop (j+1))=setN (o.drop j) - 2 ^ (o.getD j 0).toNat:=by
  have hd:=List.drop_eq_getElem_cons hj
  have hb:∀ k,∀ x∈o.drop k,0≤x∧x < (n:Int):=fun k x hx=>ho.2 x (List.mem_of_mem_drop hx)
  have hc:=ho.2 (o.getD j 0) (by rw [getD_get o 0 hj]; exact List.getElem_mem hj)
  have h1:=fun k=>setN_bit (t:=o.drop k) fun x hx=>(hb k x hx).1
  have h128:=fun k=>setN_lt (t:=o.drop k) fun x hx=>by have:=hb k x hx; omega
  have hmem:o.getD j 0∈o.drop j:=by rw [getD_get o 0 hj,hd]; exact List.mem_cons_self
  have htb:(setN (o.drop j)).testBit (o.getD j 0).toNat=true:=by
    rw [h1 j,show (((o.getD j 0).toNat:Nat):Int)=o.getD j 0 by omega]
    exact decide_eq_true hmem
  refine Nat.eq_of_testBit_eq fun d=>?_
  by_cases hd7:d < 7
  · rw [tb_off _ (h128 j) _ (by omega) htb d hd7,h1 (j+1),h1 j]
    have hnd:o.getD j 0 ∉ o.drop (j+1):=by
      have:=ho.1.sublist (List.drop_sublist j o)
      rw [hd] at this
      rw [getD_get o 0 hj]
      exact (List.nodup_cons.1 this).1
    have hiff:((d:Int)∈o.drop j)↔(d:Int)=o.getD j 0∨(d:Int)∈o.drop (j+1):=by rw [hd,List.mem_cons,getD_get o 0 hj]
    by_cases hdc:d=(o.getD j 0).toNat
    · have e:(d:Int)=o.getD j 0:=by omega
      rw [e,decide_eq_false hnd,show decide (d ≠ (o.getD j 0).toNat)=false from decide_eq_false fun h=>h hdc,Bool.and_false]
    · have e:¬ (d:Int)=o.getD j 0:=by omega
      rw [decide_eq_decide.2 (hiff.trans (or_iff_right e)),decide_eq_true hdc,Bool.and_true]
  · have h2:2 ^ 7≤2 ^ d:=Nat.pow_le_pow_right (by omega) (by omega)
    have g1:=h128 (j+1)
    have g2:=h128 j
    rw [Nat.testBit_lt_two_pow (Nat.lt_of_lt_of_le g1 h2),Nat.testBit_lt_two_pow (Nat.lt_of_le_of_lt (Nat.sub_le _ _) (Nat.lt_of_lt_of_le g2 h2))]
theorem setN_full {n:Nat} (hn:n≤7) {o:List Int} (ho:isB (n:Int) o) (hol:o.length=n):setN o=2 ^ n - 1:=by
  refine Nat.eq_of_testBit_eq fun d=>?_
  rw [setN_bit (fun x hx=>(ho.2 x hx).1),Nat.testBit_two_pow_sub_one]
  refine decide_eq_decide.2 ⟨fun h=>by have:=ho.2 _ h; omega,fun h=>full_isB (n:=(n:Int)) (by omega) ho (by omega) ⟨by omega,by omega⟩⟩
theorem low_at {n:Nat} (hn:n≤7) {gs:List Grp} {N:Int} (hp:PileOK (n:Int) gs N) {o:List Int} (ho:isB (n:Int) o) (hlow:lowest gs o 0) {j:Nat} (hj:j < o.length):lowAt (votesAt (flags n (setN (o.drop j))) gs) (flags n (setN (o.drop j))) (o.getD j 0).toNat n=true:=by
  have hb:∀ x∈o.drop j,0≤x∧x < (n:Int):=fun x hx=>ho.2 x (List.mem_of_mem_drop hx)
  have h1:=setN_bit (t:=o.drop j) fun x hx=>(hb x hx).1
  have hmem:o.getD j 0∈o.drop j:=by rw [getD_get o 0 hj,List.drop_eq_getElem_cons hj]; exact List.mem_cons_self
  have hc:=hb _ hmem
  obtain ⟨c,hcc⟩:∃ c:Nat,o.getD j 0=(c:Int):=⟨(o.getD j 0).toNat,by omega⟩
  have hrem:∀ z:Int,(0≤z∧z < (n:Int))→rem (flags n (setN (o.drop j))) z=decide (z∈o.drop j):=fun z hz=>by
    rw [rem_flags n _ hz,h1,show ((z.toNat:Nat):Int)=z by omega]
  have hv:∀ k:Nat,k < n→(votesAt (flags n (setN (o.drop j))) gs).getD k 0=wsum (isTopM (o.drop j) (k:Int)) gs:=fun k hk=>by
    rw [votesAt_get _ _ (by rw [flags_len]; exact hk)]
    refine wsum_congr fun g hg=>?_
    have hgb:=(hp.ballots g hg).1
    unfold isTop isTopM
    rw [firstAt_congr (q:=fun x=>decide (x∈o.drop j)) fun x hx=>hrem x (hgb.2 x hx)]
  rw [hcc,Int.toNat_natCast]
  rw [lowAt_iff]
  refine ⟨by rw [hrem _ (by omega),← hcc]; exact decide_eq_true hmem,fun k hk hr=>?_⟩
  rw [hrem _ (by omega)] at hr
  rw [hv c (by omega),hv k hk]
  have:=hlow j (Nat.zero_le _) hj _ (of_decide_eq_true hr)
  rw [hcc] at this
  exact this
theorem reach_order {n:Nat} (h1:1≤n) (hn:n≤7) {gs:List Grp} {N:Int} (hp:PileOK (n:Int) gs N) {o:List Int} (ho:isB (n:Int) o) (hol:o.length=n) (hlow:lowest gs o 0):o.getD (n - 1) 0∈possL gs n (2 ^ n) n:=by
  have hM:2 ^ n≤128:=Nat.le_trans (Nat.pow_le_pow_right (by omega) hn) (by decide)
  have hM1:2≤2 ^ n:=Nat.le_trans (show 2≤2 ^ 1 by decide) (Nat.pow_le_pow_right (by omega) h1)
  obtain ⟨M,hMM⟩:∃ M,2 ^ n=M:=⟨_,rfl⟩
  rw [hMM] at hM hM1
  rw [hMM]
  have key:∀ j,j < n→setN (o.drop j) < M∧(reachA gs n (M) (M - 1)).getD (setN (o.drop j)) false=true:=by
    intro j
    induction j with
    | zero =>
      intro _
      rw [List.drop_zero,setN_full hn ho hol,hMM]
      refine ⟨by omega,reach_keep (by omega) _ 0 (Nat.zero_le _) ?_⟩
      unfold reachA
      rw [List.getD_eq_getElem?_getD,List.getElem?_set_self (by simp; omega)]
      rfl
    | succ j ih =>
      intro hj
      obtain ⟨i1,i2⟩:=ih (by omega)
      have hdrop:=setN_drop hn ho (j:=j) (by omega)
      have hpos:0 < setN (o.drop j):=by
        rcases Nat.eq_zero_or_pos (setN (o.drop j)) with h0 | h0
        · exfalso
          have hmem:o.getD j 0∈o.drop j:=by rw [getD_get o 0 (by omega),List.drop_eq_getElem_cons (by omega)]; exact List.mem_cons_self
          have hc:=ho.2 _ (List.mem_of_mem_drop hmem)
          have:=setN_bit (t:=o.drop j) (fun x hx=>(ho.2 x (List.mem_of_mem_drop hx)).1) (o.getD j 0).toNat
          rw [h0,Nat.zero_testBit,show (((o.getD j 0).toNat:Nat):Int)=o.getD j 0 by omega,decide_eq_true hmem] at this
          cases this
        · exact h0
      have hturn:=reach_turn (gs:=gs) hn hM i1 (M - 2) (by omega) (by rw [show M - 2+1=M - 1 by omega]; exact i2)
      have hc:=ho.2 (o.getD j 0) (by rw [getD_get o 0 (by omega)]; exact List.getElem_mem _)
      have hnew:=mark_new (R:=reachA gs n (M) (M - 1 - setN (o.drop j))) (by rw [reachA_len]; exact i1) (low_at hn hp ho hlow (j:=j) (by omega)) n (by omega)
      rw [← hdrop] at hnew
      have hlt:setN (o.drop (j+1)) < M:=by rw [hdrop]; exact Nat.lt_of_le_of_lt (Nat.sub_le _ _) i1
      refine ⟨hlt,reach_keep hlt _ (M - 1 - setN (o.drop j)+1) (by omega) ?_⟩
      unfold reachA
      rw [show M - 1 - (M - 1 - setN (o.drop j))=setN (o.drop j) by omega,if_pos hturn]
      exact hnew
  obtain ⟨_,k2⟩:=key (n - 1) (by omega)
  have hx:=ho.2 (o.getD (n - 1) 0) (by rw [getD_get o 0 (by omega)]; exact List.getElem_mem _)
  have hd:o.drop (n - 1)=[o.getD (n - 1) 0]:=by
    rw [List.drop_eq_getElem_cons (by omega),List.drop_eq_nil_of_le (by omega),getD_get o 0 (by omega)]
  rw [hd] at k2
  refine possL_mem.2 ⟨(o.getD (n - 1) 0).toNat,by omega,by omega,?_⟩
  have:setN [o.getD (n - 1) 0]=2 ^ (o.getD (n - 1) 0).toNat:=by simp [setN]
  rw [← this]
  exact k2
theorem low_of_ov {n:Nat} (h2:2≤n) (hn:n≤7) {gs:List Grp} {N:Int} (hp:PileOK (n:Int) gs N) {o:List Int} (ho:isB (n:Int) o) (hol:o.length=n) (h:∀ j,j < n→ov n gs (o.drop j)≤0):lowest gs o 0:=by
  intro j _ hj c hc
  have hd:=drop_isB ho j
  have h0:0 < (o.drop j).length:=by rw [List.length_drop]; omega
  have ht0:(o.drop j).getD 0 0=o.getD j 0:=by
    rw [List.getD_eq_getElem?_getD,List.getElem?_drop,Nat.add_zero,← List.getD_eq_getElem?_getD]
  by_cases hcj:c=o.getD j 0
  · rw [hcj]; exact Int.le_refl _
  have hcb:=hd.2 c hc
  have hne:c ≠ (o.drop j).getD 0 0:=by rw [ht0]; exact hcj
  have hm:=(ov_le h2 gs (o.drop j) 0).1 (h j (by omega)) c hcb hne
  have hv:=ownA_valid hn hd h0 hcb hne
  rw [mrg_sum hp (by omega) (by omega) hv (own_kind _ _)] at hm
  have hown:ownA (o.drop j) c=(2,o.getD j 0,c,risL (o.drop j),0):=by unfold ownA; rw [if_pos hc,ht0]
  rw [hown] at hm
  have hgf:wsum (gf (2,o.getD j 0,c,risL (o.drop j),0)) gs=wsum (isTopM (risL (o.drop j)) (o.getD j 0)) gs - wsum (isTopM (risL (o.drop j)) c) gs:=by
    rw [show gf (2,o.getD j 0,c,risL (o.drop j),0)=fun p=>isTopM (risL (o.drop j)) (o.getD j 0) p - isTopM (risL (o.drop j)) c p from rfl,wsum_sub]
  rw [hgf] at hm
  have hpm:=risL_perm hn hd
  rw [show isTopM (o.drop j) (o.getD j 0)=isTopM (risL (o.drop j)) (o.getD j 0) from funext fun p=>(topM_perm hpm _ p).symm,show isTopM (o.drop j) c=isTopM (risL (o.drop j)) c from funext fun p=>(topM_perm hpm _ p).symm]
  omega
theorem ov_of_low {n:Nat} (h2:2≤n) (hn:n≤7) {gs:List Grp} {N:Int} (hp:PileOK (n:Int) gs N) {o:List Int} (ho:isB (n:Int) o) (hol:o.length=n) (hlow:lowest gs o 0) {j:Nat} (hj:j < n):ov n gs (o.drop j)≤0:=by
  have hd:=drop_isB ho j
  have h0:0 < (o.drop j).length:=by rw [List.length_drop]; omega
  rw [ov_le h2]
  intro x hx hne
  by_cases hle:mrg n gs (ownA (o.drop j) x)≤0
  · exact hle
  exfalso
  have hv:=ownA_valid hn hd h0 hx hne
  have hpb:=hp.pileB (by omega) (by omega)
  have hf:(fav (ownA (o.drop j) x) gs).2 < (fav (ownA (o.drop j) x) gs).1:=by
    unfold mrg tal at hle
    rw [hpb,hv] at hle
    simp only [Bool.and_self,if_true] at hle
    omega
  have:=right_none hp (by omega) hv (own_kind _ _) hf ho (by omega) hlow j
  rw [own_contr hn hd h0 hx hne] at this
  cases this
theorem exists_iff {n:Nat} (h1:1≤n) (hn:n≤7) {gs:List Grp} {N:Int} (hp:PileOK (n:Int) gs N) {wn:Int} (hw:0≤wn∧wn < (n:Int)):(setP n gs wn).1≤0↔possL gs n (2 ^ n) n ≠ [wn]:=by
  have hpb:=hp.pileB (by omega) (by omega)
  rw [setP_le h1 hn hpb hw (Int.le_refl _) (by omega)]
  obtain ⟨p1,p2⟩:=poss_ok hp h1 hn
  constructor
  · rintro ⟨o,⟨ho,hol,hlast⟩,h⟩ e
    have h2:2≤n:=by
      rcases Nat.lt_or_ge n 2 with h' | h'
      · exfalso
        have hx:=ho.2 (o.getD (n - 1) 0) (by rw [getD_get o 0 (by omega)]; exact List.getElem_mem _)
        exact hlast (by omega)
      · exact h'
    have:=reach_order h1 hn hp ho hol (low_of_ov h2 hn hp ho hol h)
    rw [e,List.mem_singleton] at this
    exact hlast this
  · intro hne
    have hex:∃ x∈possL gs n (2 ^ n) n,x ≠ wn:=by
      by_cases hall:∃ x∈possL gs n (2 ^ n) n,x ≠ wn
      · exact hall
      · exfalso
        have h':∀ x∈possL gs n (2 ^ n) n,x=wn:=fun x hx=>by
          by_cases e:x=wn
          · exact e
          · exact absurd ⟨x,hx,e⟩ hall
        have hnd:=possL_nodup (gs:=gs) (n:=n) (M:=2 ^ n) n
        generalize possL gs n (2 ^ n) n=L at p1 hne h' hnd
        match L with
        | []=>exact p1 rfl
        | [x]=>exact hne (by rw [h' x (by simp)])
        | x::y::r =>
          have e1:=h' x (by simp)
          have e2:=h' y (by simp)
          rw [e1,e2] at hnd
          simp at hnd
    obtain ⟨x,hx,hxn⟩:=hex
    obtain ⟨o,ho,hol,hlow,hlast⟩:=p2 x hx
    have h2:2≤n:=by
      rcases Nat.lt_or_ge n 2 with h' | h'
      · exfalso
        have hxb:=ho.2 (o.getD (n - 1) 0) (by rw [getD_get o 0 (by omega)]; exact List.getElem_mem _)
        exact hxn (by omega)
      · exact h'
    exact ⟨o,⟨ho,hol,by rw [hlast]; exact hxn⟩,fun j hj=>ov_of_low h2 hn hp ho hol hlow hj⟩
theorem conB_len (m:Int) (n:Nat) (s dg ti:Int):(conB m n s dg ti).2.1.length=n:=nms_len n
theorem fit_irv {n:Nat} (h1:1≤n) (hn:n≤7) (ti:Int):fitB (conB 0 n 0 0 ti)=true:=by
  have b:=mod_bounds ti (n:=3) (by omega)
  have hl:=nms_len n
  unfold fitB conB
  simp only [hl]
  simp
  omega
theorem der_irv {n:Nat} (h1:1≤n) (hn:n≤7) {gs:List Grp} {N:Int} (hp:PileOK (n:Int) gs N) {wn:Int} (hw:0≤wn∧wn < (n:Int)) (ti:Int):(derP (conB 0 n 0 0 ti) gs [wn]).2=decide (possL gs n (2 ^ n) n=[wn]):=by
  have hpb:=hp.pileB (by omega) (by omega)
  have hcl:=conB_len 0 n 0 0 ti
  have hiff:=exists_iff h1 hn hp hw
  have hm:(conB 0 n 0 0 ti).2.2.1=1:=rfl
  have hs:(conB 0 n 0 0 ti).2.2.2.1=1:=rfl
  have hfit:=fit_irv h1 hn ti
  generalize conB 0 n 0 0 ti=c at hcl hm hs hfit ⊢
  subst hcl
  have hcond:(fitB c && pileB (c.2.1.length:Int) gs)=true∧isB (c.2.1.length:Int) [wn]:=⟨by rw [hfit,hpb]; rfl,by simp,fun x hx=>by rw [List.mem_singleton.1 hx]; exact hw⟩
  have hg0:([wn]:List Int).getD 0 0=wn:=rfl
  unfold derP
  rw [if_pos hcond,hs,hm,hg0]
  by_cases hns:(c.2.1.length:Int)≤1
  · rw [if_pos hns]
    have e1:decide ((([wn]:List Int).length:Int)=(c.2.1.length:Int))=true:=decide_eq_true (by simp; omega)
    rw [e1]
    symm
    refine decide_eq_true ?_
    by_cases he:possL gs c.2.1.length (2 ^ c.2.1.length) c.2.1.length=[wn]
    · exact he
    · exfalso
      have h0:=hiff.2 he
      rw [setP_le h1 hn hpb hw (Int.le_refl _) (by omega)] at h0
      obtain ⟨o,⟨ho,hol,hlast⟩,_⟩:=h0
      have hx:=ho.2 (o.getD (c.2.1.length - 1) 0) (by rw [getD_get o 0 (by omega)]; exact List.getElem_mem _)
      exact hlast (by omega)
  · rw [if_neg hns,if_pos (show (([wn]:List Int).length:Int)=1 from rfl),if_pos rfl]
    by_cases he:possL gs c.2.1.length (2 ^ c.2.1.length) c.2.1.length=[wn]
    · rw [decide_eq_true he,if_neg]
      intro h
      exact hiff.1 (by omega) he
    · rw [decide_eq_false he,if_pos]
      have:=hiff.2 he
      omega
theorem d4_true {n ti:Int} {x:List (List Int)} {wn:Int} (hn:WT (.int .i64) n) (ht:WT (.int .i64) ti) (hx:x.length≤281474976710656) (hw:∀ y∈x,WT (.slice (.int .i64)) y) (hwn:WT (.int .i64) wn):d4 n ti x wn=some true:=by
  unfold d4
  rw [d6_eq hn (by omega) (by omega)]
  have b:=mod_bounds n (n:=4) (by omega)
  have w1:w (1+n % 4)=1+n % 4:=w_id (by omega) (by omega)
  simp only [Option.bind_some,w1]
  obtain ⟨N,hN⟩:∃ N:Nat,1+n % 4=(N:Int):=⟨(1+n % 4).toNat,by omega⟩
  rw [hN]
  obtain ⟨gs,M,hgs,hp,hM,hg⟩:=pile_at (n:=(N:Int)) (by omega) (by omega) hx hw (k:=24) (by omega)
  have b2:=mod_bounds wn (n:=(N:Int)) (by omega)
  have hp1:=poss_ok hp (by omega) (by omega)
  have hpl:=possL_len gs N (2 ^ N) N
  rw [show (24:Int)=((24:Nat):Int) from rfl,hgs,d6_eq hwn (by omega) (by omega),Option.bind_some,d14_eq (n:=N) (by omega) (wt_small (by omega)) (wt_small (by omega)) (wt_small (by omega)) ht,Option.bind_some,d13_eq' hg,Option.bind_some,d10_eq,Option.bind_some,cond_true,d16_eq hp (by omega) (by omega),Option.bind_some,Int.toNat_natCast,d15_eq (by omega) (by simp),Option.bind_some,der_irv (by omega) (by omega) hp b2]
  simp
end Go.Proofs.Ytieoleabnjdkfaa
