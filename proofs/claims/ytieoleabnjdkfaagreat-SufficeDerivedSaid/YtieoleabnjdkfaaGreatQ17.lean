/- Part 17 of what stands below the statement. -/
import Derived.Laws.CopyRow
import Derived.Lib.SliceRun
import Derived.Test.YtieoleabnjdkfaaGreatQ16
set_option linter.unusedSimpArgs false
set_option linter.unusedVariables false
namespace Go.Proofs.YtieoleabnjdkfaaGreat
open Go Go.Proofs Go.RowKit Go.X
def d0E:Asn × Value:=(zA,undef)
def RG (base g cap:Nat) (cs:List (Asn × Value)) (w:World):Prop:=base≤g∧(∃ cur,w.heap[g]? = some (.cells cur 49 (0,0))∧cur.size=cap * 5∧cs.length≤cap∧cap≤maxLen∧∀ i,i < cs.length→∀ j,j < 5→cur[i * 5+j]? = (AC (cs.getD i d0E).1 (cs.getD i d0E).2)[j]?)∧∀ p∈cs,okE base w p
theorem AG.rg {base g cap:Nat} {cs:List (Asn × Value)} {w:World} (h:AG base g cap cs w):RG base g cap cs w:=by
  obtain ⟨⟨h1,h2⟩,h3⟩:=h
  rcases h2 with ⟨h,_⟩ | ⟨g',cap',cur,e,r2,r3,r4,r5,r6,r7⟩
  · cases h
  obtain ⟨rfl,rfl⟩:g=g'∧cap=cap':=by simp at e; exact e
  refine ⟨r2,⟨cur,r3,r6,r4,r5,fun i hi j hj=>?_⟩,h3⟩
  have hlt:i * 5+j < cs.length * 5:=by omega
  have:=congrArg (fun l=>l[i * 5+j]?) r7
  simp only [List.getElem?_take,if_pos hlt,Array.getElem?_toList] at this
  rw [this,flat_get _ _ hlt,show (i * 5+j) / 5=i by omega,show (i * 5+j) % 5=j by omega]
  rfl
theorem RG.ag {base g cap:Nat} {cs:List (Asn × Value)} {w:World} (h:RG base g cap cs w):AG base g cap cs w:=by
  obtain ⟨r2,⟨cur,r3,r6,r4,r5,r7⟩,h3⟩:=h
  refine ⟨⟨flat5_len _,.inr ⟨g,cap,cur,rfl,r2,r3,r4,r5,r6,?_⟩⟩,h3⟩
  apply List.ext_getElem?
  intro t
  rw [List.getElem?_take]
  split
  · rename_i ht
    rw [Array.getElem?_toList,flat_get _ _ ht]
    have:=r7 (t / 5) (by omega) (t % 5) (by omega)
    rw [show t / 5 * 5+t % 5=t by omega] at this
    exact this
  · rename_i ht
    rw [List.getElem?_eq_none (by rw [flat5_len]; omega)]
theorem RG.ext {base g cap:Nat} {cs:List (Asn × Value)} {w w':World} (h:RG base g cap cs w) (he:Ext w w'):RG base g cap cs w':=by
  obtain ⟨r2,⟨cur,r3,r6⟩,h3⟩:=h
  exact ⟨r2,⟨cur,(he.block g (Array.getElem?_eq_some_iff.1 r3).1).trans r3,r6⟩,fun p hp=>⟨(h3 p hp).1.same fun b _ hb=>he.block b hb,(h3 p hp).2⟩⟩
theorem RG.cell {base g cap:Nat} {cs:List (Asn × Value)} {w:World} (h:RG base g cap cs w) {i j:Nat} (hi:i < cs.length) (hj:j < 5):w.cell? ⟨g,i * 5+j,none⟩=(AC (cs.getD i d0E).1 (cs.getD i d0E).2)[j]?:=by
  obtain ⟨_,⟨cur,r3,_,_,_,r7⟩,_⟩:=h
  rw [← r7 i hi j hj]
  simp [World.cell?,r3]
theorem RG.frozen {base g cap:Nat} {cs:List (Asn × Value)} {w:World} (h:RG base g cap cs w) (o:Nat):w.frozen? ⟨g,o,none⟩=false:=by
  obtain ⟨_,⟨cur,r3,_⟩,_⟩:=h
  simp [World.frozen?,r3]
theorem RG.so {base g cap:Nat} {cs:List (Asn × Value)} {w:World} (h:RG base g cap cs w) {i:Nat} (hi:i < cs.length):SO w (cs.getD i d0E).2 (cs.getD i d0E).1.2.2.2.1:=by
  have hm:cs.getD i d0E∈cs:=by rw [List.getD_eq_getElem?_getD,List.getElem?_eq_getElem hi]; exact List.getElem_mem hi
  exact (h.2.2 _ hm).1.so
theorem set5_kx {w:World} {g o:Nat} {v0 v1 v2 v3 v4:Value}:Kx (fun b=>b=g) w (((((w.setCell ⟨g,o,none⟩ v0).setCell ⟨g,o+1,none⟩ v1).setCell ⟨g,o+2,none⟩ v2).setCell ⟨g,o+3,none⟩ v3).setCell ⟨g,o+4,none⟩ v4) :=
  have y:(fun b=>b=g) g:=rfl
  kx_set (kx_set (kx_set (kx_set (kx_set (Kx.refl (fun b=>b=g) w) y _ _) y _ _) y _ _) y _ _) y _ _
theorem RG.set {base g cap:Nat} {cs:List (Asn × Value)} {w:World} (h:RG base g cap cs w) {k:Nat} (hk:k < cs.length) {a:Asn} {sv:Value} (hp:okE base w (a,sv)) :
    RG base g cap (cs.set k (a,sv)) (((((w.setCell ⟨g,k * 5,none⟩ (.int .i64 a.1)).setCell ⟨g,k * 5+1,none⟩ (.int .i64 a.2.1)).setCell ⟨g,k * 5+2,none⟩ (.int .i64 a.2.2.1)).setCell ⟨g,k * 5+3,none⟩ sv).setCell ⟨g,k * 5+4,none⟩ (.int .i64 a.2.2.2.2)):=by
  obtain ⟨r2,⟨cur,r3,r6,r4,r5,r7⟩,h3⟩:=h
  have hh:=heap_setCell_same _ g (k * 5+4) _ 49 (.int .i64 a.2.2.2.2) (heap_setCell_same _ g (k * 5+3) _ 49 sv (heap_setCell_same _ g (k * 5+2) _ 49 (.int .i64 a.2.2.1) (heap_setCell_same _ g (k * 5+1) _ 49 (.int .i64 a.2.1) (heap_setCell_same w g (k * 5) cur 49 (.int .i64 a.1) r3))))
  refine ⟨r2,⟨_,hh,by simpa using r6,by simpa using r4,r5,fun i hi j hj=>?_⟩,fun p hp'=>?_⟩
  · rw [List.length_set] at hi
    have hsz:k * 5+4 < cur.size:=by omega
    by_cases e:i=k
    · subst e
      have e2:(cs.set i (a,sv)).getD i d0E=(a,sv):=by rw [List.getD_eq_getElem?_getD,List.getElem?_set_self hk]; rfl
      rw [e2]
      match j,hj with
      | 0,_=>simp [Array.getElem?_setIfInBounds,AC]; omega
      | 1,_=>simp [Array.getElem?_setIfInBounds,AC]; omega
      | 2,_=>simp [Array.getElem?_setIfInBounds,AC]; omega
      | 3,_=>simp [Array.getElem?_setIfInBounds,AC]; omega
      | 4,_=>simp [Array.getElem?_setIfInBounds,AC]; omega
    · have e2:(cs.set k (a,sv)).getD i d0E=cs.getD i d0E:=by rw [List.getD_eq_getElem?_getD,List.getD_eq_getElem?_getD,List.getElem?_set_ne (Ne.symm e)]
      rw [e2,← r7 i hi j hj]
      simp only [Array.getElem?_setIfInBounds]
      rw [if_neg (by omega),if_neg (by omega),if_neg (by omega),if_neg (by omega),if_neg (by omega)]
  · have hk5:=set5_kx (w:=w) (g:=g) (o:=k * 5) (v0:=.int .i64 a.1) (v1:=.int .i64 a.2.1) (v2:=.int .i64 a.2.2.1) (v3:=sv) (v4:=.int .i64 a.2.2.2.2)
    rcases List.mem_or_eq_of_mem_set hp' with h | h
    · exact ⟨SL.row r3 hk5 (h3 p h).1,(h3 p h).2⟩
    · rw [h]; exact ⟨SL.row r3 hk5 hp.1,hp.2⟩
theorem clear5 {base g cap:Nat} {cs:List (Asn × Value)} {w:World} (h:RG base g cap cs w) {k:Nat} (hk:k < cs.length) (ty:TypeId) (c:Nat) :
    ∃ w',(Builtin.clear_ #[36] ty #[.slice (some ⟨g,k * 5,none⟩) (cs.length - k) c]).run Tryz.prog w=.ok (.tuple #[]) w'∧RG base g cap (cs.take k) w'∧Kx (fun b=>b=g) w w':=by
  obtain ⟨r2,⟨cur,r3,r6,r4,r5,r7⟩,h3⟩:=id h
  obtain ⟨m,hm⟩:∃ m,cs.length - k=m+1:=⟨cs.length - k - 1,by omega⟩
  obtain ⟨zs,hzs⟩:∃ zs,(Builtin.zeroCells (Value.agg #[.int .i64 0,.int .i64 0,.int .i64 0,.slice none 0 0,.int .i64 0]).cells (m+1)).toList=zs:=⟨_,rfl⟩
  have hzl:zs.length=(m+1) * 5:=by rw [← hzs,Array.length_toList,size_zeroCells]; rfl
  have hz1:∀ v∈zs,v.oneCell'=true:=by
    intro v hv
    rw [← hzs] at hv
    simp only [Builtin.zeroCells,Array.mem_toList_iff] at hv
    simp [Value.cells] at hv
    obtain ⟨i,hi,rfl⟩:=hv
    have:i % 5 < 5:=Nat.mod_lt _ (by omega)
    generalize i % 5=t at this
    match t,this with
    | 0,_=>rfl
    | 1,_=>rfl
    | 2,_=>rfl
    | 3,_=>rfl
    | 4,_=>rfl
  have hst:=run_storeCells_at (P:=Tryz.prog) g (k * 5) 49 zs 0 cur w r3 (by rw [hzl]; omega) hz1
  simp only [Nat.add_zero,List.append_assoc] at hst
  refine ⟨w.setRow g (List.take (k * 5) cur.toList++(zs++List.drop (k * 5+zs.length) cur.toList)).toArray,by rw [hm]; simp [Builtin.clear_,run_underlying Tryz.underlying36,Tryz.zeroValue49,hzs,hst],⟨r2,⟨_,setRow_heap w g cur _ 49 (0,0) r3,?_,?_,r5,fun i hi j hj=>?_⟩,fun p hp=>?_⟩,?_⟩
  · simp only [List.size_toArray,List.length_append,List.length_take,List.length_drop,Array.length_toList,hzl]
    omega
  · rw [List.length_take]; omega
  · rw [List.length_take] at hi
    have e:(cs.take k).getD i d0E=cs.getD i d0E:=by
      rw [List.getD_eq_getElem?_getD,List.getD_eq_getElem?_getD,List.getElem?_take,if_pos (by omega)]
    rw [e,← r7 i (by omega) j hj]
    simp only [List.getElem?_toArray]
    rw [List.getElem?_append_left (by rw [List.length_take,Array.length_toList]; omega),List.getElem?_take,if_pos (by omega),Array.getElem?_toList]
  · have hp2:=List.mem_of_mem_take hp
    exact ⟨SL.row r3 ⟨rfl,rfl,rfl,by simp [World.setRow],fun b hb hx=>by simp [World.setRow,Array.getElem?_modify,Ne.symm hx]⟩ (h3 p hp2).1,(h3 p hp2).2⟩
  · exact ⟨rfl,rfl,rfl,by simp [World.setRow],fun b hb hx=>by simp [World.setRow,Array.getElem?_modify,Ne.symm hx]⟩
theorem compA_snoc:∀ (ps:List (Asn × Value)) (pv q:Asn × Value),compA pv (ps++[q])=if cmpA q.1 ((pv::ps).getLast (by simp)).1=0 then compA pv ps else compA pv ps++[q]
  | [],pv,q=>by
    show (if cmpA q.1 pv.1=0 then compA q [] else q::compA q [])=if cmpA q.1 pv.1=0 then compA pv [] else compA pv []++[q]
    split <;> rfl
  | x::ps,pv,q=>by
    have ih:=compA_snoc ps x q
    rw [List.cons_append]
    show (if cmpA x.1 pv.1=0 then compA x (ps++[q]) else x::compA x (ps++[q]))=if cmpA q.1 ((pv::x::ps).getLast (by simp)).1=0 then (if cmpA x.1 pv.1=0 then compA x ps else x::compA x ps) else (if cmpA x.1 pv.1=0 then compA x ps else x::compA x ps)++[q]
    rw [List.getLast_cons (by simp),ih]
    split <;> split <;> simp
theorem compL_take {ps:List (Asn × Value)} {i:Nat} (h0:0 < i) (hi:i < ps.length):compL (ps.take (i+1))=if cmpA (ps.getD i d0E).1 (ps.getD (i - 1) d0E).1=0 then compL (ps.take i) else compL (ps.take i)++[ps.getD i d0E]:=by
  match ps,hi with
  | p::ps,hi =>
    obtain ⟨j,rfl⟩:∃ j,i=j+1:=⟨i - 1,by omega⟩
    have hj:j < ps.length:=by rw [List.length_cons] at hi; omega
    rw [List.take_succ_cons,List.take_succ_cons]
    have e:ps.take (j+1)=ps.take j++[ps.getD j d0E]:=take_get ps d0E hj
    rw [e]
    show p::compA p (ps.take j++[ps.getD j d0E])=_
    rw [compA_snoc]
    have e3:(p::ps).getD (j+1) d0E=ps.getD j d0E:=rfl
    have e4:((p::ps.take j).getLast (by simp))=(p::ps).getD (j+1 - 1) d0E:=by
      rw [Nat.add_sub_cancel,List.getLast_eq_getElem]
      simp only [List.length_cons,List.length_take,Nat.min_eq_left (Nat.le_of_lt hj),Nat.add_sub_cancel]
      cases j with
      | zero=>rfl
      | succ j =>
        rw [List.getElem_cons_succ,List.getElem_take,List.getD_cons_succ,List.getD_eq_getElem?_getD,List.getElem?_eq_getElem (by omega)]
        rfl
    rw [e3,e4]
    split <;> rfl
end Go.Proofs.YtieoleabnjdkfaaGreat
set_option linter.unusedSimpArgs false
set_option linter.unusedVariables false
set_option linter.unnecessarySimpa false
namespace Go.Proofs.YtieoleabnjdkfaaGreat
open Go Go.Proofs Go.RowKit Go.X
attribute [local go_sem] Oper.semAt_some
theorem ext_grow (W:World) (q:Nat) (os:Array Obj):Ext W (Go.Sort.grow (W.drewN q) os):=⟨rfl,rfl,rfl,by simp [Go.Sort.grow,World.drewN],fun k hk=>Go.Sort.heap_grow_old (W.drewN q) os hk⟩
theorem RG.five {base g cap:Nat} {cs:List (Asn × Value)} {w:World} (h:RG base g cap cs w) {i:Nat} (hi:i < cs.length) {a:Asn} {sv:Value} (e:cs.getD i d0E=(a,sv)):w.cell? ⟨g,i * 5,none⟩=some (.int .i64 a.1)∧w.cell? ⟨g,i * 5+1,none⟩=some (.int .i64 a.2.1)∧w.cell? ⟨g,i * 5+2,none⟩=some (.int .i64 a.2.2.1)∧w.cell? ⟨g,i * 5+3,none⟩=some sv∧w.cell? ⟨g,i * 5+4,none⟩=some (.int .i64 a.2.2.2.2):=by
  have h0:=h.cell hi (j:=0) (by omega)
  have h1:=h.cell hi (j:=1) (by omega)
  have h2:=h.cell hi (j:=2) (by omega)
  have h3:=h.cell hi (j:=3) (by omega)
  have h4:=h.cell hi (j:=4) (by omega)
  rw [e] at h0 h1 h2 h3 h4
  exact ⟨h0,h1,h2,h3,h4⟩
theorem five_some {base g cap:Nat} {cs:List (Asn × Value)} {w:World} (h:RG base g cap cs w) {i:Nat} (hi:i < cs.length):(∃ v,w.cell? ⟨g,i * 5,none⟩=some v)∧(∃ v,w.cell? ⟨g,i * 5+1,none⟩=some v)∧(∃ v,w.cell? ⟨g,i * 5+2,none⟩=some v)∧(∃ v,w.cell? ⟨g,i * 5+3,none⟩=some v)∧∃ v,w.cell? ⟨g,i * 5+4,none⟩=some v:=by
  obtain ⟨⟨a,sv⟩,e⟩:∃ p,cs.getD i d0E=p:=⟨_,rfl⟩
  obtain ⟨h0,h1,h2,h3,h4⟩:=h.five hi e
  exact ⟨⟨_,h0⟩,⟨_,h1⟩,⟨_,h2⟩,⟨_,h3⟩,⟨_,h4⟩⟩
def FrE3 (sv:Value) (k:Nat) (y0 y1 y2 y3 y4 y5 y6 y7 y8 y9 y10:Value) (a:Act):Prop:=∃ (x2 x3 x6 x7 x8 x9 x10 x11 x12 x13 x14 x15 x16 x17 x29 x30 x31 x32 x33 x34 x35 x36 x37 x38 x39 x40 x41 x42 x43 x44 x45 x46 x47 x48 x49 x50 x51 x52 x53 x54 x55 x56 x57 x58 x59 x60 x61 x62 x63 x64 x65:Value),a={ tmps:=#[sv,.func (.func 42) #[] #[],x2,x3,.slice none 0 0,.int .i64 (k:Int),x6,x7,x8,x9,x10,x11,x12,x13,x14,x15,x16,x17,y0,y1,y2,y3,y4,y5,y6,y7,y8,y9,y10,x29,x30,x31,x32,x33,x34,x35,x36,x37,x38,x39,x40,x41,x42,x43,x44,x45,x46,x47,x48,x49,x50,x51,x52,x53,x54,x55,x56,x57,x58,x59,x60,x61,x62,x63,x64,x65],defers:=[] }
theorem FrE3.mk {sv:Value} {k:Nat} {y0 y1 y2 y3 y4 y5 y6 y7 y8 y9 y10:Value} {x2 x3 x6 x7 x8 x9 x10 x11 x12 x13 x14 x15 x16 x17 x29 x30 x31 x32 x33 x34 x35 x36 x37 x38 x39 x40 x41 x42 x43 x44 x45 x46 x47 x48 x49 x50 x51 x52 x53 x54 x55 x56 x57 x58 x59 x60 x61 x62 x63 x64 x65:Value}:FrE3 sv k y0 y1 y2 y3 y4 y5 y6 y7 y8 y9 y10 { tmps:=#[sv,.func (.func 42) #[] #[],x2,x3,.slice none 0 0,.int .i64 (k:Int),x6,x7,x8,x9,x10,x11,x12,x13,x14,x15,x16,x17,y0,y1,y2,y3,y4,y5,y6,y7,y8,y9,y10,x29,x30,x31,x32,x33,x34,x35,x36,x37,x38,x39,x40,x41,x42,x43,x44,x45,x46,x47,x48,x49,x50,x51,x52,x53,x54,x55,x56,x57,x58,x59,x60,x61,x62,x63,x64,x65],defers:=[] }:=⟨x2,x3,x6,x7,x8,x9,x10,x11,x12,x13,x14,x15,x16,x17,x29,x30,x31,x32,x33,x34,x35,x36,x37,x38,x39,x40,x41,x42,x43,x44,x45,x46,x47,x48,x49,x50,x51,x52,x53,x54,x55,x56,x57,x58,x59,x60,x61,x62,x63,x64,x65,rfl⟩
theorem FrE3.elim {sv:Value} {k:Nat} {y0 y1 y2 y3 y4 y5 y6 y7 y8 y9 y10:Value} {a:Act} {P:Prop} (h:FrE3 sv k y0 y1 y2 y3 y4 y5 y6 y7 y8 y9 y10 a) (k:∀ (x2 x3 x6 x7 x8 x9 x10 x11 x12 x13 x14 x15 x16 x17 x29 x30 x31 x32 x33 x34 x35 x36 x37 x38 x39 x40 x41 x42 x43 x44 x45 x46 x47 x48 x49 x50 x51 x52 x53 x54 x55 x56 x57 x58 x59 x60 x61 x62 x63 x64 x65:Value),a={ tmps:=#[sv,.func (.func 42) #[] #[],x2,x3,.slice none 0 0,.int .i64 (k:Int),x6,x7,x8,x9,x10,x11,x12,x13,x14,x15,x16,x17,y0,y1,y2,y3,y4,y5,y6,y7,y8,y9,y10,x29,x30,x31,x32,x33,x34,x35,x36,x37,x38,x39,x40,x41,x42,x43,x44,x45,x46,x47,x48,x49,x50,x51,x52,x53,x54,x55,x56,x57,x58,x59,x60,x61,x62,x63,x64,x65],defers:=[] }→P):P:=by
  obtain ⟨x2,x3,x6,x7,x8,x9,x10,x11,x12,x13,x14,x15,x16,x17,x29,x30,x31,x32,x33,x34,x35,x36,x37,x38,x39,x40,x41,x42,x43,x44,x45,x46,x47,x48,x49,x50,x51,x52,x53,x54,x55,x56,x57,x58,x59,x60,x61,x62,x63,x64,x65,e⟩:=h
  exact k x2 x3 x6 x7 x8 x9 x10 x11 x12 x13 x14 x15 x16 x17 x29 x30 x31 x32 x33 x34 x35 x36 x37 x38 x39 x40 x41 x42 x43 x44 x45 x46 x47 x48 x49 x50 x51 x52 x53 x54 x55 x56 x57 x58 x59 x60 x61 x62 x63 x64 x65 e
def FrE4 (sv s2:Value) (k i:Nat) (y0 y1 y2 y3 y4 y5 y6 y7 y8 y9 y10 y11:Value) (a:Act):Prop:=∃ (x2 x3 x4 x8 x9 x10 x11 x12 x13 x14 x15 x16 x17 x18 x19 x20 x21 x22 x23 x24 x25 x26 x27 x28 x29 x30 x31 x32 x33 x34 x35 x36 x37 x50 x51 x52 x53 x54 x55 x56 x57 x58 x59 x60 x61 x62 x63 x64 x65:Value),a={ tmps:=#[sv,.func (.func 42) #[] #[],x2,x3,x4,.int .i64 (k:Int),s2,.int .i64 (i:Int),x8,x9,x10,x11,x12,x13,x14,x15,x16,x17,x18,x19,x20,x21,x22,x23,x24,x25,x26,x27,x28,x29,x30,x31,x32,x33,x34,x35,x36,x37,y0,y1,y2,y3,y4,y5,y6,y7,y8,y9,y10,y11,x50,x51,x52,x53,x54,x55,x56,x57,x58,x59,x60,x61,x62,x63,x64,x65],defers:=[] }
theorem FrE4.mk {sv s2:Value} {k i:Nat} {y0 y1 y2 y3 y4 y5 y6 y7 y8 y9 y10 y11:Value} {x2 x3 x4 x8 x9 x10 x11 x12 x13 x14 x15 x16 x17 x18 x19 x20 x21 x22 x23 x24 x25 x26 x27 x28 x29 x30 x31 x32 x33 x34 x35 x36 x37 x50 x51 x52 x53 x54 x55 x56 x57 x58 x59 x60 x61 x62 x63 x64 x65:Value}:FrE4 sv s2 k i y0 y1 y2 y3 y4 y5 y6 y7 y8 y9 y10 y11 { tmps:=#[sv,.func (.func 42) #[] #[],x2,x3,x4,.int .i64 (k:Int),s2,.int .i64 (i:Int),x8,x9,x10,x11,x12,x13,x14,x15,x16,x17,x18,x19,x20,x21,x22,x23,x24,x25,x26,x27,x28,x29,x30,x31,x32,x33,x34,x35,x36,x37,y0,y1,y2,y3,y4,y5,y6,y7,y8,y9,y10,y11,x50,x51,x52,x53,x54,x55,x56,x57,x58,x59,x60,x61,x62,x63,x64,x65],defers:=[] }:=⟨x2,x3,x4,x8,x9,x10,x11,x12,x13,x14,x15,x16,x17,x18,x19,x20,x21,x22,x23,x24,x25,x26,x27,x28,x29,x30,x31,x32,x33,x34,x35,x36,x37,x50,x51,x52,x53,x54,x55,x56,x57,x58,x59,x60,x61,x62,x63,x64,x65,rfl⟩
theorem FrE4.elim {sv s2:Value} {k i:Nat} {y0 y1 y2 y3 y4 y5 y6 y7 y8 y9 y10 y11:Value} {a:Act} {P:Prop} (h:FrE4 sv s2 k i y0 y1 y2 y3 y4 y5 y6 y7 y8 y9 y10 y11 a) (k:∀ (x2 x3 x4 x8 x9 x10 x11 x12 x13 x14 x15 x16 x17 x18 x19 x20 x21 x22 x23 x24 x25 x26 x27 x28 x29 x30 x31 x32 x33 x34 x35 x36 x37 x50 x51 x52 x53 x54 x55 x56 x57 x58 x59 x60 x61 x62 x63 x64 x65:Value),a={ tmps:=#[sv,.func (.func 42) #[] #[],x2,x3,x4,.int .i64 (k:Int),s2,.int .i64 (i:Int),x8,x9,x10,x11,x12,x13,x14,x15,x16,x17,x18,x19,x20,x21,x22,x23,x24,x25,x26,x27,x28,x29,x30,x31,x32,x33,x34,x35,x36,x37,y0,y1,y2,y3,y4,y5,y6,y7,y8,y9,y10,y11,x50,x51,x52,x53,x54,x55,x56,x57,x58,x59,x60,x61,x62,x63,x64,x65],defers:=[] }→P):P:=by
  obtain ⟨x2,x3,x4,x8,x9,x10,x11,x12,x13,x14,x15,x16,x17,x18,x19,x20,x21,x22,x23,x24,x25,x26,x27,x28,x29,x30,x31,x32,x33,x34,x35,x36,x37,x50,x51,x52,x53,x54,x55,x56,x57,x58,x59,x60,x61,x62,x63,x64,x65,e⟩:=h
  exact k x2 x3 x4 x8 x9 x10 x11 x12 x13 x14 x15 x16 x17 x18 x19 x20 x21 x22 x23 x24 x25 x26 x27 x28 x29 x30 x31 x32 x33 x34 x35 x36 x37 x50 x51 x52 x53 x54 x55 x56 x57 x58 x59 x60 x61 x62 x63 x64 x65 e
def RC2 (base g cap n k1:Nat) (ps:List (Asn × Value)) (w:World) (m:Nat) (a:Act) (w8:World):Prop:=∃ (i1 k:Nat) (cs:List (Asn × Value)),i1+1≤n - (k1+1)∧m=n - (k1+1) - (i1+1)∧k1+1≤k∧k≤k1+1+i1∧cs.length=n∧cs.take k=compL (ps.take (k1+1+i1+1))∧(∀ t,k≤t→cs.getD t d0E=ps.getD t d0E)∧RG base g cap cs w8∧Kx (fun b=>b=g) w w8∧FrE2 (.slice (some ⟨g,0,none⟩) n cap) (.slice (some ⟨g,(k1+1) * 5,none⟩) (n - (k1+1)) (cap - (k1+1))) k (i1+1) a
theorem set_take {cs:List (Asn × Value)} {k:Nat} {p:Asn × Value} (hk:k < cs.length):(cs.set k p).take (k+1)=cs.take k++[p]:=by
  rw [take_get (cs.set k p) d0E (by rw [List.length_set]; exact hk),List.take_set_of_le (Nat.le_refl _),List.getD_eq_getElem?_getD,List.getElem?_set_self hk]
  rfl
set_option maxRecDepth 100000 in
set_option maxHeartbeats 8000000 in
theorem compact_ok {base g cap:Nat} {ps:List (Asn × Value)} {w:World} (h:AG base g cap ps w) (hl:ps.length≤10000000) :
    Calls Tryz.prog 41 #[.slice (some ⟨g,0,none⟩) ps.length cap,.func (.func 42) #[] #[]] w fun e w'=>e=.returned (.slice (some ⟨g,0,none⟩) (compL ps).length cap)∧AG base g cap (compL ps) w'∧Kx (fun b=>b=g) w w':=by
  refine (callsIn_wide (n:=0)).1 (callsIn_of_wp Tryz.func41 rfl trivial ?_ rfl)
  simp only [Tryz.ntmps41,List.size_toArray,List.length_cons,List.length_nil,Nat.reduceAdd,Nat.reduceSub,Array.replicate_succ,Array.replicate_zero,List.push_toArray,List.append_toArray,List.nil_append,List.cons_append]
  have fd:Fence.wide.depth=none:=rfl
  have hrg0:=h.rg
  have hin:∀ c:Int,0≤c→c≤10000001→IntKind.i64.wrap c=c:=fun c h0 h1=>w_id (by omega) (by omega)
  have hcap:ps.length≤cap:=by obtain ⟨_,⟨_,_,_,h,_⟩,_⟩:=hrg0; exact h
  generalize hn:ps.length=n at hl hcap
  rcases Nat.lt_or_ge n 2 with h2 | h2
  · have h2':(n:Int) < 2:=by omega
    have hc:compL ps=ps:=by
      match ps,hn with
      | [],_=>rfl
      | [p],_=>rfl
      | p::q::r,hn=>simp at hn; omega
    gi_wp2
    exact ⟨rfl,_,results_tmp (t:=4) rfl _ _ _,by rw [hc,hn]; rfl,by rw [hc]; exact h,Kx.refl _ _⟩
  have h2':¬ (n:Int) < 2:=by omega
  gi_wp2
  refine wpIn_wide.2 (loop_inv (R:=fun m a w8=>∃ k1:Nat,k1+1≤n∧m=n - (k1+1)∧compL (ps.take (k1+1))=ps.take (k1+1)∧Ext w w8∧FrE1 (.slice (some ⟨g,0,none⟩) n cap) (k1+1) a) (m:=n - 1) ?step1 ?init1)
  case init1 =>
    refine ⟨0,by omega,rfl,?_,Ext.refl _,FrE1.mk⟩
    match ps,hn with
    | [],hn=>simp at hn; omega
    | p::r,_=>rfl
  case step1 =>
    rintro m a w8 ⟨k1,hk1,rfl,hck,hx8,hfr⟩
    refine hfr.elim ?_
    intro x2 x3 x6 x7 x8 x9 x10 x11 x12 x13 x14 x15 x16 x17 x18 x19 x20 x21 x22 x23 x24 x25 x26 x27 x28 x29 x30 x31 x32 x33 x34 x35 x36 x37 x38 x39 x40 x41 x42 x43 x44 x45 x46 x47 x48 x49 x50 x51 x52 x53 x54 x55 x56 x57 x58 x59 x60 x61 x62 x63 x64 x65 hfe
    subst hfe
    refine (wpIn_wide (n:=0)).1 ?_
    rcases Nat.lt_or_ge (k1+1) n with hlt | hge
    · have hlt':((k1+1:Nat):Int) < (n:Int):=by omega
      have hlt1:(k1:Int) < (n:Int):=by omega
      have hw1:IntKind.i64.wrap (((k1+1:Nat):Int) - 1)=(k1:Int):=by rw [hin _ (by omega) (by omega)]; omega
      have hw2:IntKind.i64.wrap (((k1+1:Nat):Int)+1)=((k1+1+1:Nat):Int):=by rw [hin _ (by omega) (by omega)]; omega
      have hw1':IntKind.i64.wrap (k1:Int)=(k1:Int):=hin _ (by omega) (by omega)
      have hw2':IntKind.i64.wrap ((k1:Int)+1+1)=(k1:Int)+1+1:=hin _ (by omega) (by omega)
      have hrg:=hrg0.ext hx8
      have hip:k1+1 < ps.length:=by omega
      have hiq:k1 < ps.length:=by omega
      have hcs:=compL_take (ps:=ps) (i:=k1+1) (by omega) hip
      rw [Nat.add_sub_cancel] at hcs
      have hsp:=hrg.so hip
      have hsq:=hrg.so hiq
      obtain ⟨⟨pa,pv⟩,hep⟩:∃ p,ps.getD (k1+1) d0E=p:=⟨_,rfl⟩
      obtain ⟨⟨qa,qv⟩,heq⟩:∃ p,ps.getD k1 d0E=p:=⟨_,rfl⟩
      rw [hep] at hsp hcs
      rw [heq] at hsq hcs
      simp only at hsp hsq hcs
      obtain ⟨sa,al,ac,rfl⟩:∃ sa al ac,pv=.slice sa al ac:=by obtain ⟨_,A,c,e,_⟩:=hsp; exact ⟨A,_,c,e⟩
      obtain ⟨sb,bl,bc,rfl⟩:∃ sb bl bc,qv=.slice sb bl bc:=by obtain ⟨_,A,c,e,_⟩:=hsq; exact ⟨A,_,c,e⟩
      gi_wp2
      refine wpIn_wide.2 (region_inv mixd (J:=fun D a' w9=>Ext w8 w9∧∃ ys:Nat→Value,(∀ k,D k=true→k < 10→ys k=([.func (.func 42) #[] #[],(.slice (some ⟨g,0,none⟩) n cap),.int .i64 ((k1+1:Nat):Int),.pointer (some ⟨g,(k1+1) * 5,none⟩),.agg #[.int .i64 pa.1,.int .i64 pa.2.1,.int .i64 pa.2.2.1,(.slice sa al ac),.int .i64 pa.2.2.2.2],(.slice (some ⟨g,0,none⟩) n cap),.int .i64 ((k1+1:Nat):Int),.int .i64 (k1:Int),.pointer (some ⟨g,k1 * 5,none⟩),.agg #[.int .i64 qa.1,.int .i64 qa.2.1,.int .i64 qa.2.2.1,(.slice sb bl bc),.int .i64 qa.2.2.2.2]]:List Value).getD k undef)∧(D 10=true→ys 10=.bool (decide (cmpA pa qa=0)))∧FrE3 (.slice (some ⟨g,0,none⟩) n cap) (k1+1) (ys 0) (ys 1) (ys 2) (ys 3) (ys 4) (ys 5) (ys 6) (ys 7) (ys 8) (ys 9) (ys 10) a') ?hacA ?stA ?finA ?h0A)
      case hacA =>
        intro k o ho
        rcases k with _ | _ | _ | _ | _ | _ | _ | _ | _ | _ | _ | k <;> simp at ho <;> subst ho <;> simp
      case h0A =>
        exact ⟨(Ext.refl w8).drew,fun k=>[x18,x19,x20,x21,x22,x23,x24,x25,x26,x27,x28].getD k undef,(fun k h _=>by cases h),(fun h=>by cases h),FrE3.mk⟩
      case stA =>
        rintro D j2 o a' w9 ho hDj hed ⟨hE,ys,hys,h10,hfr⟩
        refine hfr.elim ?_
        intro x2 x3 x6 x7 x8 x9 x10 x11 x12 x13 x14 x15 x16 x17 x29 x30 x31 x32 x33 x34 x35 x36 x37 x38 x39 x40 x41 x42 x43 x44 x45 x46 x47 x48 x49 x50 x51 x52 x53 x54 x55 x56 x57 x58 x59 x60 x61 x62 x63 x64 x65 hfe
        subst hfe
        rcases j2 with _ | _ | _ | _ | _ | _ | _ | _ | _ | _ | _ | j2 <;> simp at ho <;> subst ho
        · refine wpk fun K hK0=>?_
          go_simp
          exact hK0 _ _ ⟨hE,fun k=>if k=0 then .func (.func 42) #[] #[] else (ys k),upd_ys (hys) rfl,(fun h=>h10 (by simpa using h)),FrE3.mk⟩
        · refine wpk fun K hK0=>?_
          go_simp
          exact hK0 _ _ ⟨hE,fun k=>if k=1 then (.slice (some ⟨g,0,none⟩) n cap) else (ys k),upd_ys (hys) rfl,(fun h=>h10 (by simpa using h)),FrE3.mk⟩
        · refine wpk fun K hK0=>?_
          go_simp
          exact hK0 _ _ ⟨hE,fun k=>if k=2 then .int .i64 ((k1+1:Nat):Int) else (ys k),upd_ys (hys) rfl,(fun h=>h10 (by simpa using h)),FrE3.mk⟩
        · have e1:ys 1=(.slice (some ⟨g,0,none⟩) n cap):=hys 1 (hed ⟨1,.data⟩ (by simp) rfl) (by omega)
          have e2:ys 2=.int .i64 ((k1+1:Nat):Int):=hys 2 (hed ⟨2,.data⟩ (by simp) rfl) (by omega)
          simp only [e1,e2]
          refine wpk fun K hK0=>?_
          go_simp
          exact hK0 _ _ ⟨hE,fun k=>if k=3 then .pointer (some ⟨g,(k1+1) * 5,none⟩) else (if k=2 then .int .i64 ((k1+1:Nat):Int) else if k=1 then (.slice (some ⟨g,0,none⟩) n cap) else ys k),upd_ys (rep_ys (d:=2) (u:=.int .i64 ((k1+1:Nat):Int)) (rep_ys (d:=1) (u:=(.slice (some ⟨g,0,none⟩) n cap)) (hys) rfl) rfl) rfl,(fun h=>h10 (by simpa using h)),FrE3.mk⟩
        · have e3:ys 3=.pointer (some ⟨g,(k1+1) * 5,none⟩):=hys 3 (hed ⟨3,.data⟩ (by simp) rfl) (by omega)
          simp only [e3]
          have c5:=(hrg.ext hE).five hip hep
          obtain ⟨c0,c1,c2,c3,c4⟩:=c5
          refine wpk fun K hK0=>?_
          go_simp
          exact hK0 _ _ ⟨hE,fun k=>if k=4 then .agg #[.int .i64 pa.1,.int .i64 pa.2.1,.int .i64 pa.2.2.1,(.slice sa al ac),.int .i64 pa.2.2.2.2] else (if k=3 then .pointer (some ⟨g,(k1+1) * 5,none⟩) else ys k),upd_ys (rep_ys (d:=3) (u:=.pointer (some ⟨g,(k1+1) * 5,none⟩)) (hys) rfl) rfl,(fun h=>h10 (by simpa using h)),FrE3.mk⟩
        · refine wpk fun K hK0=>?_
          go_simp
          exact hK0 _ _ ⟨hE,fun k=>if k=5 then (.slice (some ⟨g,0,none⟩) n cap) else (ys k),upd_ys (hys) rfl,(fun h=>h10 (by simpa using h)),FrE3.mk⟩
        · refine wpk fun K hK0=>?_
          go_simp
          exact hK0 _ _ ⟨hE,fun k=>if k=6 then .int .i64 ((k1+1:Nat):Int) else (ys k),upd_ys (hys) rfl,(fun h=>h10 (by simpa using h)),FrE3.mk⟩
        · have e6:ys 6=.int .i64 ((k1+1:Nat):Int):=hys 6 (hed ⟨6,.data⟩ (by simp) rfl) (by omega)
          simp only [e6]
          refine wpk fun K hK0=>?_
          go_simp
          exact hK0 _ _ ⟨hE,fun k=>if k=7 then .int .i64 (k1:Int) else (if k=6 then .int .i64 ((k1+1:Nat):Int) else ys k),upd_ys (rep_ys (d:=6) (u:=.int .i64 ((k1+1:Nat):Int)) (hys) rfl) rfl,(fun h=>h10 (by simpa using h)),FrE3.mk⟩
        · have e5:ys 5=(.slice (some ⟨g,0,none⟩) n cap):=hys 5 (hed ⟨5,.data⟩ (by simp) rfl) (by omega)
          have e7:ys 7=.int .i64 (k1:Int):=hys 7 (hed ⟨7,.data⟩ (by simp) rfl) (by omega)
          simp only [e5,e7]
          refine wpk fun K hK0=>?_
          go_simp
          exact hK0 _ _ ⟨hE,fun k=>if k=8 then .pointer (some ⟨g,k1 * 5,none⟩) else (if k=7 then .int .i64 (k1:Int) else if k=5 then (.slice (some ⟨g,0,none⟩) n cap) else ys k),upd_ys (rep_ys (d:=7) (u:=.int .i64 (k1:Int)) (rep_ys (d:=5) (u:=(.slice (some ⟨g,0,none⟩) n cap)) (hys) rfl) rfl) rfl,(fun h=>h10 (by simpa using h)),FrE3.mk⟩
        · have e8:ys 8=.pointer (some ⟨g,k1 * 5,none⟩):=hys 8 (hed ⟨8,.data⟩ (by simp) rfl) (by omega)
          simp only [e8]
          have c5:=(hrg.ext hE).five hiq heq
          obtain ⟨c0,c1,c2,c3,c4⟩:=c5
          refine wpk fun K hK0=>?_
          go_simp
          exact hK0 _ _ ⟨hE,fun k=>if k=9 then .agg #[.int .i64 qa.1,.int .i64 qa.2.1,.int .i64 qa.2.2.1,(.slice sb bl bc),.int .i64 qa.2.2.2.2] else (if k=8 then .pointer (some ⟨g,k1 * 5,none⟩) else ys k),upd_ys (rep_ys (d:=8) (u:=.pointer (some ⟨g,k1 * 5,none⟩)) (hys) rfl) rfl,(fun h=>h10 (by simpa using h)),FrE3.mk⟩
        · have e0:ys 0=.func (.func 42) #[] #[]:=hys 0 (hed ⟨0,.data⟩ (by simp) rfl) (by omega)
          have e4:ys 4=.agg #[.int .i64 pa.1,.int .i64 pa.2.1,.int .i64 pa.2.2.1,(.slice sa al ac),.int .i64 pa.2.2.2.2]:=hys 4 (hed ⟨4,.data⟩ (by simp) rfl) (by omega)
          have e9:ys 9=.agg #[.int .i64 qa.1,.int .i64 qa.2.1,.int .i64 qa.2.2.1,(.slice sb bl bc),.int .i64 qa.2.2.2.2]:=hys 9 (hed ⟨9,.data⟩ (by simp) rfl) (by omega)
          simp only [e0,e4,e9]
          have cc:=eq_ok (hsp.ext hE) (hsq.ext hE)
          refine wpk fun K hK0=>?_
          go_simp
          refine cc.mono ?_
          rintro e w10 ⟨rfl,q10,os10,rfl⟩
          exact hK0 _ _ ⟨hE.trans (ext_grow _ _ _),fun k=>if k=10 then .bool (decide (cmpA pa qa=0)) else (if k=9 then .agg #[.int .i64 qa.1,.int .i64 qa.2.1,.int .i64 qa.2.2.1,(.slice sb bl bc),.int .i64 qa.2.2.2.2] else if k=4 then .agg #[.int .i64 pa.1,.int .i64 pa.2.1,.int .i64 pa.2.2.1,(.slice sa al ac),.int .i64 pa.2.2.2.2] else if k=0 then .func (.func 42) #[] #[] else ys k),upd_no (rep_ys (d:=9) (u:=.agg #[.int .i64 qa.1,.int .i64 qa.2.1,.int .i64 qa.2.2.1,(.slice sb bl bc),.int .i64 qa.2.2.2.2]) (rep_ys (d:=4) (u:=.agg #[.int .i64 pa.1,.int .i64 pa.2.1,.int .i64 pa.2.2.1,(.slice sa al ac),.int .i64 pa.2.2.2.2]) (rep_ys (d:=0) (u:=.func (.func 42) #[] #[]) (hys) rfl) rfl) rfl) (Nat.le_refl _),(fun _=>rfl),FrE3.mk⟩
      case finA =>
        rintro D a' w9 hall ⟨hE,ys,hys,h10,hfr⟩
        refine hfr.elim ?_
        intro x2 x3 x6 x7 x8 x9 x10 x11 x12 x13 x14 x15 x16 x17 x29 x30 x31 x32 x33 x34 x35 x36 x37 x38 x39 x40 x41 x42 x43 x44 x45 x46 x47 x48 x49 x50 x51 x52 x53 x54 x55 x56 x57 x58 x59 x60 x61 x62 x63 x64 x65 hfe
        subst hfe
        have e10:=h10 (hall 10 (by decide))
        rw [e10]
        have hrg9:=hrg.ext hE
        clear hys h10 hall
        by_cases hz:cmpA pa qa=0
        · simp only [hz,decide_true]
          rw [if_pos hz,hck] at hcs
          have hcapk:¬ cap - (k1+1)=0:=by omega
          have hcapk2:¬ cap=k1+1:=by omega
          have hle1:((k1+1:Nat):Int)≤(n:Int):=by omega
          clear hw1 hw2 hw1' hw2' hep heq hsp hsq
          gi_wp2
          refine wpIn_wide.2 (loop_inv (R:=fun m a w8=>RC2 base g cap n k1 ps w m a w8) (m:=n - (k1+1) - 1) ?step2 ?init2)
          case init2=>exact ⟨0,k1+1,ps,by omega,rfl,by omega,by omega,hn,hcs.symm,fun t _=>rfl,hrg9,Kx.of_ext (hx8.trans hE),FrE2.mk⟩
          case step2 =>
            rintro m a w8 ⟨i1,k,cs,hi1,rfl,hka,hkb,hcl,hct,hcd,hrg,hkw,hfr⟩
            refine hfr.elim ?_
            intro x2 x3 x4 x8 x9 x10 x11 x12 x13 x14 x15 x16 x17 x18 x19 x20 x21 x22 x23 x24 x25 x26 x27 x28 x29 x30 x31 x32 x33 x34 x35 x36 x37 x38 x39 x40 x41 x42 x43 x44 x45 x46 x47 x48 x49 x50 x51 x52 x53 x54 x55 x56 x57 x58 x59 x60 x61 x62 x63 x64 x65 hfe
            subst hfe
            refine (wpIn_wide (n:=0)).1 ?_
            rcases Nat.lt_or_ge (i1+1) (n - (k1+1)) with hlt2 | hge2
            · have hlt2':((i1+1:Nat):Int) < ((n - (k1+1):Nat):Int):=by omega
              have hlt3':(i1:Int) < ((n - (k1+1):Nat):Int):=by omega
              have hkn:(k:Int) < (n:Int):=by omega
              have hw1:IntKind.i64.wrap (((i1+1:Nat):Int) - 1)=(i1:Int):=by rw [hin _ (by omega) (by omega)]; omega
              have hw1':IntKind.i64.wrap (i1:Int)=(i1:Int):=hin _ (by omega) (by omega)
              have hw2:IntKind.i64.wrap (((i1+1:Nat):Int)+1)=((i1+1+1:Nat):Int):=by rw [hin _ (by omega) (by omega)]; omega
              have hw2':IntKind.i64.wrap ((i1:Int)+1+1)=(i1:Int)+1+1:=hin _ (by omega) (by omega)
              have hw3:IntKind.i64.wrap ((k:Int)+1)=((k+1:Nat):Int):=by rw [hin _ (by omega) (by omega)]; omega
              have hip:k1+1+(i1+1) < cs.length:=by omega
              have hiq:k1+1+i1 < cs.length:=by omega
              have hcs2:=compL_take (ps:=ps) (i:=k1+1+i1+1) (by omega) (by omega)
              rw [Nat.add_sub_cancel,show k1+1+i1+1=k1+1+(i1+1) by omega,← hcd _ (by omega:k≤k1+1+(i1+1)),← hcd _ (by omega:k≤k1+1+i1)] at hcs2
              have hsp:=hrg.so hip
              have hsq:=hrg.so hiq
              have hok:okE base w8 (cs.getD (k1+1+(i1+1)) d0E):=hrg.2.2 _ (by rw [List.getD_eq_getElem?_getD,List.getElem?_eq_getElem hip]; exact List.getElem_mem hip)
              obtain ⟨⟨pa,pv⟩,hep⟩:∃ p,cs.getD (k1+1+(i1+1)) d0E=p:=⟨_,rfl⟩
              obtain ⟨⟨qa,qv⟩,heq⟩:∃ p,cs.getD (k1+1+i1) d0E=p:=⟨_,rfl⟩
              rw [hep] at hsp hcs2 hok
              rw [heq] at hsq hcs2
              simp only at hsp hsq hcs2
              obtain ⟨sa,al,ac,rfl⟩:∃ sa al ac,pv=.slice sa al ac:=by obtain ⟨_,A,c,e,_⟩:=hsp; exact ⟨A,_,c,e⟩
              obtain ⟨sb,bl,bc,rfl⟩:∃ sb bl bc,qv=.slice sb bl bc:=by obtain ⟨_,A,c,e,_⟩:=hsq; exact ⟨A,_,c,e⟩
              gi_wp2
              refine wpIn_wide.2 (region_inv mixd (J:=fun D a' w9=>Ext w8 w9∧∃ ys:Nat→Value,(∀ k,D k=true→k < 10→ys k=([.func (.func 42) #[] #[],(.slice (some ⟨g,(k1+1) * 5,none⟩) (n - (k1+1)) (cap - (k1+1))),.int .i64 ((i1+1:Nat):Int),.pointer (some ⟨g,(k1+1) * 5+(i1+1) * 5,none⟩),.agg #[.int .i64 pa.1,.int .i64 pa.2.1,.int .i64 pa.2.2.1,(.slice sa al ac),.int .i64 pa.2.2.2.2],(.slice (some ⟨g,(k1+1) * 5,none⟩) (n - (k1+1)) (cap - (k1+1))),.int .i64 ((i1+1:Nat):Int),.int .i64 (i1:Int),.pointer (some ⟨g,(k1+1) * 5+i1 * 5,none⟩),.agg #[.int .i64 qa.1,.int .i64 qa.2.1,.int .i64 qa.2.2.1,(.slice sb bl bc),.int .i64 qa.2.2.2.2]]:List Value).getD k undef)∧(D 10=true→ys 10=.bool (decide (cmpA pa qa=0)))∧(D 11=true→ys 11=.bool (!decide (cmpA pa qa=0)))∧FrE4 (.slice (some ⟨g,0,none⟩) n cap) (.slice (some ⟨g,(k1+1) * 5,none⟩) (n - (k1+1)) (cap - (k1+1))) k (i1+1) (ys 0) (ys 1) (ys 2) (ys 3) (ys 4) (ys 5) (ys 6) (ys 7) (ys 8) (ys 9) (ys 10) (ys 11) a') ?hacB ?stB ?finB ?h0B)
              case hacB =>
                intro k o ho
                rcases k with _ | _ | _ | _ | _ | _ | _ | _ | _ | _ | _ | _ | k <;> simp at ho <;> subst ho <;> simp
              case h0B =>
                exact ⟨(Ext.refl w8).drew,fun k=>[x38,x39,x40,x41,x42,x43,x44,x45,x46,x47,x48,x49].getD k undef,(fun k h _=>by cases h),(fun h=>by cases h),(fun h=>by cases h),FrE4.mk⟩
              case stB =>
                rintro D j2 o a' w9 ho hDj hed ⟨hE,ys,hys,h10,h11,hfr⟩
                refine hfr.elim ?_
                intro x2 x3 x4 x8 x9 x10 x11 x12 x13 x14 x15 x16 x17 x18 x19 x20 x21 x22 x23 x24 x25 x26 x27 x28 x29 x30 x31 x32 x33 x34 x35 x36 x37 x50 x51 x52 x53 x54 x55 x56 x57 x58 x59 x60 x61 x62 x63 x64 x65 hfe
                subst hfe
                rcases j2 with _ | _ | _ | _ | _ | _ | _ | _ | _ | _ | _ | _ | j2 <;> simp at ho <;> subst ho
                · refine wpk fun K hK0=>?_
                  go_simp
                  exact hK0 _ _ ⟨hE,fun k=>if k=0 then .func (.func 42) #[] #[] else (ys k),upd_ys (hys) rfl,(fun h=>h10 (by simpa using h)),(fun h=>h11 (by simpa using h)),FrE4.mk⟩
                · refine wpk fun K hK0=>?_
                  go_simp
                  exact hK0 _ _ ⟨hE,fun k=>if k=1 then (.slice (some ⟨g,(k1+1) * 5,none⟩) (n - (k1+1)) (cap - (k1+1))) else (ys k),upd_ys (hys) rfl,(fun h=>h10 (by simpa using h)),(fun h=>h11 (by simpa using h)),FrE4.mk⟩
                · refine wpk fun K hK0=>?_
                  go_simp
                  exact hK0 _ _ ⟨hE,fun k=>if k=2 then .int .i64 ((i1+1:Nat):Int) else (ys k),upd_ys (hys) rfl,(fun h=>h10 (by simpa using h)),(fun h=>h11 (by simpa using h)),FrE4.mk⟩
                · have e1:ys 1=(.slice (some ⟨g,(k1+1) * 5,none⟩) (n - (k1+1)) (cap - (k1+1))):=hys 1 (hed ⟨1,.data⟩ (by simp) rfl) (by omega)
                  have e2:ys 2=.int .i64 ((i1+1:Nat):Int):=hys 2 (hed ⟨2,.data⟩ (by simp) rfl) (by omega)
                  simp only [e1,e2]
                  refine wpk fun K hK0=>?_
                  go_simp
                  exact hK0 _ _ ⟨hE,fun k=>if k=3 then .pointer (some ⟨g,(k1+1) * 5+(i1+1) * 5,none⟩) else (if k=2 then .int .i64 ((i1+1:Nat):Int) else if k=1 then (.slice (some ⟨g,(k1+1) * 5,none⟩) (n - (k1+1)) (cap - (k1+1))) else ys k),upd_ys (rep_ys (d:=2) (u:=.int .i64 ((i1+1:Nat):Int)) (rep_ys (d:=1) (u:=(.slice (some ⟨g,(k1+1) * 5,none⟩) (n - (k1+1)) (cap - (k1+1)))) (hys) rfl) rfl) rfl,(fun h=>h10 (by simpa using h)),(fun h=>h11 (by simpa using h)),FrE4.mk⟩
                · have e3:ys 3=.pointer (some ⟨g,(k1+1) * 5+(i1+1) * 5,none⟩):=hys 3 (hed ⟨3,.data⟩ (by simp) rfl) (by omega)
                  simp only [e3]
                  have c5:=(hrg.ext hE).five hip hep
                  rw [Nat.add_mul] at c5
                  obtain ⟨c0,c1,c2,c3,c4⟩:=c5
                  refine wpk fun K hK0=>?_
                  go_simp
                  exact hK0 _ _ ⟨hE,fun k=>if k=4 then .agg #[.int .i64 pa.1,.int .i64 pa.2.1,.int .i64 pa.2.2.1,(.slice sa al ac),.int .i64 pa.2.2.2.2] else (if k=3 then .pointer (some ⟨g,(k1+1) * 5+(i1+1) * 5,none⟩) else ys k),upd_ys (rep_ys (d:=3) (u:=.pointer (some ⟨g,(k1+1) * 5+(i1+1) * 5,none⟩)) (hys) rfl) rfl,(fun h=>h10 (by simpa using h)),(fun h=>h11 (by simpa using h)),FrE4.mk⟩
                · refine wpk fun K hK0=>?_
                  go_simp
                  exact hK0 _ _ ⟨hE,fun k=>if k=5 then (.slice (some ⟨g,(k1+1) * 5,none⟩) (n - (k1+1)) (cap - (k1+1))) else (ys k),upd_ys (hys) rfl,(fun h=>h10 (by simpa using h)),(fun h=>h11 (by simpa using h)),FrE4.mk⟩
                · refine wpk fun K hK0=>?_
                  go_simp
                  exact hK0 _ _ ⟨hE,fun k=>if k=6 then .int .i64 ((i1+1:Nat):Int) else (ys k),upd_ys (hys) rfl,(fun h=>h10 (by simpa using h)),(fun h=>h11 (by simpa using h)),FrE4.mk⟩
                · have e6:ys 6=.int .i64 ((i1+1:Nat):Int):=hys 6 (hed ⟨6,.data⟩ (by simp) rfl) (by omega)
                  simp only [e6]
                  refine wpk fun K hK0=>?_
                  go_simp
                  exact hK0 _ _ ⟨hE,fun k=>if k=7 then .int .i64 (i1:Int) else (if k=6 then .int .i64 ((i1+1:Nat):Int) else ys k),upd_ys (rep_ys (d:=6) (u:=.int .i64 ((i1+1:Nat):Int)) (hys) rfl) rfl,(fun h=>h10 (by simpa using h)),(fun h=>h11 (by simpa using h)),FrE4.mk⟩
                · have e5:ys 5=(.slice (some ⟨g,(k1+1) * 5,none⟩) (n - (k1+1)) (cap - (k1+1))):=hys 5 (hed ⟨5,.data⟩ (by simp) rfl) (by omega)
                  have e7:ys 7=.int .i64 (i1:Int):=hys 7 (hed ⟨7,.data⟩ (by simp) rfl) (by omega)
                  simp only [e5,e7]
                  refine wpk fun K hK0=>?_
                  go_simp
                  exact hK0 _ _ ⟨hE,fun k=>if k=8 then .pointer (some ⟨g,(k1+1) * 5+i1 * 5,none⟩) else (if k=7 then .int .i64 (i1:Int) else if k=5 then (.slice (some ⟨g,(k1+1) * 5,none⟩) (n - (k1+1)) (cap - (k1+1))) else ys k),upd_ys (rep_ys (d:=7) (u:=.int .i64 (i1:Int)) (rep_ys (d:=5) (u:=(.slice (some ⟨g,(k1+1) * 5,none⟩) (n - (k1+1)) (cap - (k1+1)))) (hys) rfl) rfl) rfl,(fun h=>h10 (by simpa using h)),(fun h=>h11 (by simpa using h)),FrE4.mk⟩
                · have e8:ys 8=.pointer (some ⟨g,(k1+1) * 5+i1 * 5,none⟩):=hys 8 (hed ⟨8,.data⟩ (by simp) rfl) (by omega)
                  simp only [e8]
                  have c5:=(hrg.ext hE).five hiq heq
                  rw [Nat.add_mul] at c5
                  obtain ⟨c0,c1,c2,c3,c4⟩:=c5
                  refine wpk fun K hK0=>?_
                  go_simp
                  exact hK0 _ _ ⟨hE,fun k=>if k=9 then .agg #[.int .i64 qa.1,.int .i64 qa.2.1,.int .i64 qa.2.2.1,(.slice sb bl bc),.int .i64 qa.2.2.2.2] else (if k=8 then .pointer (some ⟨g,(k1+1) * 5+i1 * 5,none⟩) else ys k),upd_ys (rep_ys (d:=8) (u:=.pointer (some ⟨g,(k1+1) * 5+i1 * 5,none⟩)) (hys) rfl) rfl,(fun h=>h10 (by simpa using h)),(fun h=>h11 (by simpa using h)),FrE4.mk⟩
                · have e0:ys 0=.func (.func 42) #[] #[]:=hys 0 (hed ⟨0,.data⟩ (by simp) rfl) (by omega)
                  have e4:ys 4=.agg #[.int .i64 pa.1,.int .i64 pa.2.1,.int .i64 pa.2.2.1,(.slice sa al ac),.int .i64 pa.2.2.2.2]:=hys 4 (hed ⟨4,.data⟩ (by simp) rfl) (by omega)
                  have e9:ys 9=.agg #[.int .i64 qa.1,.int .i64 qa.2.1,.int .i64 qa.2.2.1,(.slice sb bl bc),.int .i64 qa.2.2.2.2]:=hys 9 (hed ⟨9,.data⟩ (by simp) rfl) (by omega)
                  simp only [e0,e4,e9]
                  have cc:=eq_ok (hsp.ext hE) (hsq.ext hE)
                  refine wpk fun K hK0=>?_
                  go_simp
                  refine cc.mono ?_
                  rintro e w10 ⟨rfl,q10,os10,rfl⟩
                  exact hK0 _ _ ⟨hE.trans (ext_grow _ _ _),fun k=>if k=10 then .bool (decide (cmpA pa qa=0)) else (if k=9 then .agg #[.int .i64 qa.1,.int .i64 qa.2.1,.int .i64 qa.2.2.1,(.slice sb bl bc),.int .i64 qa.2.2.2.2] else if k=4 then .agg #[.int .i64 pa.1,.int .i64 pa.2.1,.int .i64 pa.2.2.1,(.slice sa al ac),.int .i64 pa.2.2.2.2] else if k=0 then .func (.func 42) #[] #[] else ys k),upd_no (rep_ys (d:=9) (u:=.agg #[.int .i64 qa.1,.int .i64 qa.2.1,.int .i64 qa.2.2.1,(.slice sb bl bc),.int .i64 qa.2.2.2.2]) (rep_ys (d:=4) (u:=.agg #[.int .i64 pa.1,.int .i64 pa.2.1,.int .i64 pa.2.2.1,(.slice sa al ac),.int .i64 pa.2.2.2.2]) (rep_ys (d:=0) (u:=.func (.func 42) #[] #[]) (hys) rfl) rfl) rfl) (Nat.le_refl _),(fun _=>rfl),(fun h=>h11 (by simpa using h)),FrE4.mk⟩
                · have e10:=h10 (hed ⟨10,.data⟩ (by simp) rfl)
                  simp only [e10]
                  refine wpk fun K hK0=>?_
                  go_simp
                  exact hK0 _ _ ⟨hE,fun k=>if k=11 then .bool (!decide (cmpA pa qa=0)) else if k=10 then .bool (decide (cmpA pa qa=0)) else ys k,upd_no (rep_no (d:=10) hys (by omega)) (by omega),(fun _=>rfl),(fun _=>rfl),FrE4.mk⟩
              case finB =>
                rintro D a' w9 hall ⟨hE,ys,hys,h10,h11,hfr⟩
                refine hfr.elim ?_
                intro x2 x3 x4 x8 x9 x10 x11 x12 x13 x14 x15 x16 x17 x18 x19 x20 x21 x22 x23 x24 x25 x26 x27 x28 x29 x30 x31 x32 x33 x34 x35 x36 x37 x50 x51 x52 x53 x54 x55 x56 x57 x58 x59 x60 x61 x62 x63 x64 x65 hfe
                subst hfe
                have e10:=h10 (hall 10 (by decide))
                have e11:=h11 (hall 11 (by decide))
                rw [e11]
                have hrg9:=hrg.ext hE
                clear hys h10 h11 hall
                have hrgk:=hkw.trans (Kx.of_ext hE)
                have hct2:cs.take k=compL (ps.take (k1+1+i1+1)):=hct
                by_cases hz2:cmpA pa qa=0
                · simp only [hz2,decide_true,Bool.not_true]
                  rw [if_pos hz2] at hcs2
                  gi_wp2
                  exact ⟨n - (k1+1) - (i1+1+1),by omega,i1+1,k,cs,by omega,rfl,hka,by omega,hcl,by rw [hcs2]; exact hct,hcd,hrg9,hrgk,FrE2.mk⟩
                · simp only [hz2,decide_false,Bool.not_false]
                  rw [if_neg hz2] at hcs2
                  have c5:=hrg9.five hip hep
                  rw [Nat.add_mul] at c5
                  obtain ⟨c0,c1,c2,c3,c4⟩:=c5
                  have hkl:k < cs.length:=by omega
                  have zb:=hrg9.frozen
                  have hok9:okE base w9 (pa,.slice sa al ac):=⟨hok.1.same fun b _ hb=>hE.block b hb,hok.2⟩
                  have hset:=hrg9.set hkl hok9
                  obtain ⟨⟨v0,d0⟩,⟨v1,d1⟩,⟨v2,d2⟩,⟨v3,d3⟩,⟨v4,d4⟩⟩:=five_some hrg9 hkl
                  gi_wp2
                  refine ⟨n - (k1+1) - (i1+1+1),by omega,i1+1,k+1,cs.set k (pa,.slice sa al ac),by omega,rfl,by omega,by omega,by rw [List.length_set]; exact hcl,?_,fun t ht=>?_,hset,hrgk.trans set5_kx,FrE2.mk⟩
                  · rw [set_take hkl,hcs2]
                    exact congrArg (·++[(pa,Value.slice sa al ac)]) hct
                  · rw [← hcd t (by omega),List.getD_eq_getElem?_getD,List.getElem?_set_ne (by omega),← List.getD_eq_getElem?_getD]
            · obtain ⟨hi2,hkn⟩:i1+1=n - (k1+1)∧k < cs.length:=by omega
              have hge':¬ ((i1+1:Nat):Int) < ((n - (k1+1):Nat):Int):=by omega
              have hkl:(k:Int)≤(n:Int):=by omega
              have hkc:¬ cap=k:=by omega
              have hkc2:¬ cap - k=0:=by omega
              obtain ⟨w7,hr7,hrg7,hk7⟩:=clear5 hrg hkn 0 (cap - k)
              rw [hcl] at hr7
              rw [show k1+1+i1+1=ps.length by omega,List.take_length] at hct
              have hlk:(compL ps).length=k:=by rw [← hct,List.length_take]; omega
              gi_wp2
              exact ⟨rfl,_,results_tmp (t:=4) rfl _ _ _,(by first | rfl | (rw [hlk]; rfl)),by rw [← hct]; exact hrg7.ag,hkw.trans hk7⟩
        · simp only [hz,decide_false]
          rw [if_neg hz,hck] at hcs
          gi_wp2
          refine ⟨n - (k1+1+1),by omega,k1+1,by omega,rfl,?_,hx8.trans hE,FrE1.mk⟩
          rw [hcs,← hep]
          exact (take_get ps d0E hip).symm
    · obtain rfl:n=k1+1:=by omega
      have hge':¬ ((k1+1:Nat):Int) < ((k1+1:Nat):Int):=by omega
      rw [← hn,List.take_length] at hck
      gi_wp2
      exact ⟨rfl,_,results_tmp (t:=4) rfl _ _ _,(by first | rfl | (rw [hck,hn]; rfl) | (rw [hck]; rfl) | (rw [hn]; rfl)),(by first | exact (hrg0.ext hx8).ag | (rw [hck]; exact (hrg0.ext hx8).ag)),Kx.of_ext hx8⟩
end Go.Proofs.YtieoleabnjdkfaaGreat
set_option linter.unusedSimpArgs false
set_option linter.unusedVariables false
open Go Go.Proofs Go.X
namespace Go.Proofs.YtieoleabnjdkfaaGreat
theorem d64_fit (c:Con) {gs:List Grp} (hg:GsOK gs):((d64 c.2.2.1 c gs (idL (min 7 c.2.1.length))).bind fun r=>some (decide (r=0)))=some (fitB c && pileB (c.2.1.length:Int) gs):=by
  obtain ⟨nm,cs,m,s,x1,dg,ti,x2,x3⟩:=c
  have g0:decide (m=m)=true:=by simp
  by_cases c1:m < 1
  · have c1':¬ 1≤m:=by omega
    simp only [d64,letJ,fitB,c1,c1',g0,decide_true,decide_false,Bool.not_true,Bool.not_false,cond_false,cond_true,Bool.false_and,Bool.and_false,Bool.true_and,Bool.and_true,Bool.cond_self,Option.bind_some,show ¬ (5:Int)=0 by omega,show ¬ (4:Int)=0 by omega]
  have c1':1≤m:=by omega
  by_cases c2:3 < m
  · have c2':¬ m≤3:=by omega
    simp only [d64,letJ,fitB,c1,c1',c2,c2',g0,decide_true,decide_false,Bool.not_true,Bool.not_false,cond_false,cond_true,Bool.false_and,Bool.and_false,Bool.true_and,Bool.and_true,Bool.cond_self,Option.bind_some,show ¬ (5:Int)=0 by omega,show ¬ (4:Int)=0 by omega]
  have c2':m≤3:=by omega
  by_cases c3:cs.length < 1
  · have c3':¬ 1≤cs.length:=by omega
    have c3'':(cs.length:Int) < 1:=by omega
    simp only [d64,letJ,fitB,c1,c1',c2,c2',c3',c3'',g0,decide_true,decide_false,Bool.not_true,Bool.not_false,cond_false,cond_true,Bool.false_and,Bool.and_false,Bool.true_and,Bool.and_true,Bool.cond_self,Option.bind_some,show ¬ (5:Int)=0 by omega,show ¬ (4:Int)=0 by omega]
  have c3':1≤cs.length:=by omega
  have c3'':¬ (cs.length:Int) < 1:=by omega
  by_cases c4:7 < cs.length
  · have c4':¬ cs.length≤7:=by omega
    have c4'':(7:Int) < (cs.length:Int):=by omega
    simp only [d64,letJ,fitB,c1,c1',c2,c2',c3',c3'',c4',c4'',g0,decide_true,decide_false,Bool.not_true,Bool.not_false,cond_false,cond_true,Bool.false_and,Bool.and_false,Bool.true_and,Bool.and_true,Bool.cond_self,Option.bind_some,show ¬ (5:Int)=0 by omega,show ¬ (4:Int)=0 by omega]
  have c4':cs.length≤7:=by omega
  have c4'':¬ (7:Int) < (cs.length:Int):=by omega
  by_cases c5:s < 1
  · have c5':¬ 1≤s:=by omega
    simp only [d64,letJ,fitB,c1,c1',c2,c2',c3',c3'',c4',c4'',c5,c5',g0,decide_true,decide_false,Bool.not_true,Bool.not_false,cond_false,cond_true,Bool.false_and,Bool.and_false,Bool.true_and,Bool.and_true,Bool.cond_self,Option.bind_some,show ¬ (5:Int)=0 by omega,show ¬ (4:Int)=0 by omega]
  have c5':1≤s:=by omega
  by_cases c6:5 < s
  · have c6':¬ s≤5:=by omega
    simp only [d64,letJ,fitB,c1,c1',c2,c2',c3',c3'',c4',c4'',c5,c5',c6,c6',g0,decide_true,decide_false,Bool.not_true,Bool.not_false,cond_false,cond_true,Bool.false_and,Bool.and_false,Bool.true_and,Bool.and_true,Bool.cond_self,Option.bind_some,show ¬ (5:Int)=0 by omega,show ¬ (4:Int)=0 by omega]
  have c6':s≤5:=by omega
  have h45:d74 (cs.length:Int) gs=some (goodP (cs.length:Int) gs):=d74_eq (by omega) hg.1 hg.2
  have hpb:pileB (cs.length:Int) gs=goodP (cs.length:Int) gs:=by unfold pileB; rw [decide_eq_true (by omega)]; rfl
  have h68:=d88_id c4'
  have ht1:decide (1≤ti)=!decide (ti < 1):=by rw [← decide_not]; exact decide_eq_decide.2 (by omega)
  have ht2:decide (ti≤3)=!decide (3 < ti):=by rw [← decide_not]; exact decide_eq_decide.2 (by omega)
  simp only [d64,letJ,fitB,hpb,c1,c1',c2,c2',c3',c3'',c4',c4'',c5,c5',c6,c6',h45,h68,ht1,ht2,Nat.min_eq_right c4',g0,decide_true,decide_false,Bool.not_true,Bool.not_false,cond_false,cond_true,Bool.false_and,Bool.and_false,Bool.true_and,Bool.and_true,Bool.cond_self,Option.bind_some,show ¬ (5:Int)=0 by omega,show ¬ (4:Int)=0 by omega,show ¬ (8:Int)=0 by omega]
  generalize decide (m=2)=b1
  generalize decide (1≤dg)=b2
  generalize decide (dg≤6)=b3
  generalize decide (dg=0)=b4
  generalize decide (m=1)=b5
  generalize decide (s=1)=b6
  generalize decide (ti < 1)=b7
  generalize decide (3 < ti)=b8
  generalize goodP (cs.length:Int) gs=b9
  clear h45 hpb h68 ht1 ht2 hg
  revert b1 b2 b3 b4 b5 b6 b7 b8 b9
  decide +kernel
def badW36 (n:Int) (ws:List Int) (i:Nat):Bool:=decide (ws.getD i 0 < 0) || (decide (n≤ws.getD i 0) || decide (ws.getD i 0∈ws.take i))
theorem isB_first {n:Int} {ws:List Int}:isB n ws↔∀ i,i < ws.length→badW36 n ws i=false:=by
  constructor
  · intro h i hi
    have hx:=h.2 (ws.getD i 0) (by rw [getD_get ws 0 hi]; exact List.getElem_mem hi)
    have hnd:ws.getD i 0 ∉ ws.take i:=by
      intro hm
      have h1:=h.1
      rw [← List.take_append_drop i ws] at h1
      have h2:=(List.nodup_append.1 h1).2.2 _ hm (ws.getD i 0) (by rw [List.drop_eq_getElem_cons hi,getD_get ws 0 hi]; exact List.mem_cons.2 (.inl rfl))
      exact h2 rfl
    unfold badW36
    rw [decide_eq_false (by omega),decide_eq_false (by omega),decide_eq_false hnd]
    rfl
  · intro h
    have hb:∀ i,i < ws.length→¬ ws.getD i 0 < 0∧¬ n≤ws.getD i 0∧ws.getD i 0 ∉ ws.take i:=fun i hi=>by
      have:=h i hi
      unfold badW36 at this
      simpa [Bool.or_eq_false_iff] using this
    refine ⟨?_,fun x hx=>?_⟩
    · rw [List.nodup_iff_pairwise_ne,List.pairwise_iff_getElem]
      intro i j hi hj hij he
      obtain ⟨_,_,h3⟩:=hb j hj
      rw [getD_get ws 0 hj,← he] at h3
      exact h3 (List.mem_take_iff_getElem.2 ⟨i,by omega,rfl⟩)
    · obtain ⟨i,hi,rfl⟩:=List.getElem_of_mem hx
      have:=hb i hi
      rw [getD_get ws 0 hi] at this
      omega
theorem d36_eq {c:Con} {gs:List Grp} {ws:List Int} (hc:c.2.1.length≤281474976710656) (hg:GsOK gs) (hw:ws.length≤281474976710656):d36 c gs ws=some ((fitB c && pileB (c.2.1.length:Int) gs) && decide (isB (c.2.1.length:Int) ws)):=by
  unfold d36
  have hmin:(bif (decide (7 < (c.2.1.length:Int))) then (7:Int) else (c.2.1.length:Int))=((min 7 c.2.1.length:Nat):Int):=by
    by_cases h:(7:Int) < (c.2.1.length:Int)
    · simp only [h,decide_true,cond_true]; omega
    · simp only [h,decide_false,cond_false]; omega
  rw [hmin]
  refine while_bind (b:=(gs,ws,c,(c.2.1.length:Int),idL (min 7 c.2.1.length))) (fun i=>(gs,ws,c,(c.2.1.length:Int),idL i,((min 7 c.2.1.length:Nat):Int),(i:Int))) (min 7 c.2.1.length) rfl (fun i hi=>?_) ?_ ?_
  · have e1:(i:Int) < ((min 7 c.2.1.length:Nat):Int):=by omega
    have e2:w ((i:Int)+1)=((i+1:Nat):Int):=by rw [w_id (by omega) (by omega)]; omega
    simp only [e1,e2,decide_true,cond_true,lim_small (idL i) (i:Int) (by rw [idL_len]; omega),idL_succ]
  · have:¬ (((min 7 c.2.1.length:Nat):Int) < ((min 7 c.2.1.length:Nat):Int)):=by omega
    simp only [this,decide_false,cond_false]
  · obtain ⟨r,hr1,hr2⟩:=bind_decide (d64_fit c hg)
    simp only [hr1,Option.bind_some]
    rw [hr2]
    cases hf:(fitB c && pileB (c.2.1.length:Int) gs)
    · rfl
    · simp only [Bool.not_true,cond_false,Bool.true_and]
      refine while_first (fun i=>(ws,(c.2.1.length:Int),ws,(ws.length:Int),(i:Int))) (badW36 (c.2.1.length:Int) ws) ws.length (fun _=>.inr false) (.inl ()) rfl (fun i hi=>?_) ?_ (fun i hi hp hj=>?_) (fun hall=>?_)
      · have h1:(i:Int) < (ws.length:Int):=by omega
        have h3:(0:Int)≤(i:Int):=by omega
        have hwi:w ((i:Int)+1)=((i+1:Nat):Int):=by rw [w_id (by omega) (by omega)]; omega
        have hct:=cutOK_take (i:=i) (n:=ws.length) (Nat.le_of_lt hi)
        simp only [h1,h3,hwi,hct,letJ,decide_true,cond_true,Bool.and_self,Int.toNat_natCast,List.drop_zero]
        unfold badW36
        by_cases g1:ws.getD i 0 < 0
        · simp only [g1,decide_true,Bool.not_true,cond_false,cond_true,Bool.true_or,if_true]
        · by_cases g2:(c.2.1.length:Int)≤ws.getD i 0
          · simp only [g1,g2,decide_true,decide_false,Bool.not_true,Bool.not_false,cond_false,cond_true,Bool.true_or,Bool.or_true,if_true]
          · have h58:=d58_eq (s:=ws.take i) (ws.getD i 0) (by rw [List.length_take]; omega)
            simp only [g1,g2,h58,Option.bind_some,decide_true,decide_false,Bool.not_true,Bool.not_false,cond_false,cond_true,Bool.false_or]
            by_cases g3:ws.getD i 0∈ws.take i
            · simp only [g3,decide_true,cond_true,if_true]
            · simp only [g3,decide_false,cond_false,Bool.false_eq_true,if_false]
      · have:¬ ((ws.length:Int) < (ws.length:Int)):=by omega
        simp only [this,decide_false,cond_false]
      · have:¬ isB (c.2.1.length:Int) ws:=fun h=>by have:=isB_first.1 h i hi; rw [this] at hp; cases hp
        rw [decide_eq_false this]
      · rw [decide_eq_true (isB_first.2 hall)]
end Go.Proofs.YtieoleabnjdkfaaGreat
set_option linter.unusedSimpArgs false
set_option linter.unusedVariables false
namespace Go.Proofs.YtieoleabnjdkfaaGreat
open Go Go.Proofs Go.RowKit Go.X
structure CA (F:Nat→Prop) (W:World) (cv:Value) (c:Con):Prop where
  rel:SR Tryz.prog y23 (stF F W) .bw (0,[]) c cv
  lt:∀ b,F b→b < W.heap.size
theorem CA.keep {X F:Nat→Prop} {W W':World} {cv:Value} {c:Con} (h:CA F W cv c) (hk:Kx X W W') (hx:∀ b,F b→¬ X b):CA F W' cv c :=
  ⟨⟨h.rel.1.fut (.inr rfl) ⟨fun b hb=>hb,fun b _ hb=>hb.elim,fun b hb=>hb.elim (fun hb=>hk.block b (h.lt b hb) (hx b hb)) fun hb=>hb.2.elim⟩ fun _ _=>rfl,h.rel.2⟩,fun b hb=>Nat.lt_of_lt_of_le (h.lt b hb) hk.size⟩
structure WA (F:Nat→Prop) (W:World) (wv:Value) (ws:List Int):Prop where
  rel:SR Tryz.prog y26 (stF F W) .bw (0,[]) ws wv
  lt:∀ b,F b→b < W.heap.size
theorem WA.keep {X F:Nat→Prop} {W W':World} {wv:Value} {ws:List Int} (h:WA F W wv ws) (hk:Kx X W W') (hx:∀ b,F b→¬ X b):WA F W' wv ws :=
  ⟨⟨h.rel.1.fut (.inr rfl) ⟨fun b hb=>hb,fun b _ hb=>hb.elim,fun b hb=>hb.elim (fun hb=>hk.block b (h.lt b hb) (hx b hb)) fun hb=>hb.2.elim⟩ fun _ _=>rfl,h.rel.2⟩,fun b hb=>Nat.lt_of_lt_of_le (h.lt b hb) hk.size⟩
theorem CA.shape {F:Nat→Prop} {W:World} {cv:Value} {c:Con} (h:CA F W cv c):c.2.1.length≤281474976710656∧∃ s ca cc,cv=.agg #[.string s,.slice ca c.2.1.length cc,.int .i64 c.2.2.1,.int .i64 c.2.2.2.1,.int .i64 c.2.2.2.2.1,.int .i64 c.2.2.2.2.2.1,.int .i64 c.2.2.2.2.2.2.1,.int .i64 c.2.2.2.2.2.2.2.1,.int .i64 c.2.2.2.2.2.2.2.2]:=by
  obtain ⟨⟨h0,h1,h2,h3,h4,h5,h6,h7,h8⟩,hagg⟩:=h.rel
  obtain ⟨cs,rfl,hsz⟩:=hagg rfl
  obtain ⟨s,q0,_⟩:=h0
  obtain ⟨hl,_,ca,len,cc,q1,rfl,_⟩:=h1
  have q2:=h2.1
  have q3:=h3.1
  have q4:=h4.1
  have q5:=h5.1
  have q6:=h6.1
  have q7:=h7.1
  have q8:=h8.1
  simp [vcells,Ty.agg,Ty.size] at q0 q1 q2 q3 q4 q5 q6 q7 q8 hsz
  refine ⟨hl,s,ca,cc,?_⟩
  congr 1
  apply Array.ext
  · simpa using hsz
  · intro i h1 h2
    have hi:i < 9:=by simpa using h2
    have key:∀ (j:Nat) (v:Value) (hj:j < cs.size),cs[j]? = some v→cs[j]=v:=fun j v hj h=>by rw [Array.getElem?_eq_getElem hj] at h; simpa using h
    match i,hi,h1,h2 with
    | 0,_,h1,_=>exact key 0 _ h1 q0
    | 1,_,h1,_=>exact key 1 _ h1 q1
    | 2,_,h1,_=>exact key 2 _ h1 q2
    | 3,_,h1,_=>exact key 3 _ h1 q3
    | 4,_,h1,_=>exact key 4 _ h1 q4
    | 5,_,h1,_=>exact key 5 _ h1 q5
    | 6,_,h1,_=>exact key 6 _ h1 q6
    | 7,_,h1,_=>exact key 7 _ h1 q7
    | 8,_,h1,_=>exact key 8 _ h1 q8
theorem WA.shape {F:Nat→Prop} {W:World} {wv:Value} {ws:List Int} (h:WA F W wv ws):ws.length≤281474976710656∧(∀ x∈ws,wI x)∧∃ A cc,wv=.slice A ws.length cc∧∀ i,i < ws.length→∃ b o,A=some ⟨b,o,none⟩∧F b∧W.cell? ⟨b,o+i,none⟩=some (.int .i64 (ws.getD i 0)):=by
  obtain ⟨hl,_,A,len,cc,q,rfl,_,hc⟩:=h.rel.1
  have q':wv=.slice A ws.length cc:=by simpa [vcells,Ty.agg] using q
  rcases hc with ⟨rfl,_⟩ | ⟨b,o,rfl,hb,hc⟩
  · exact ⟨hl,(fun x hx=>by cases hx),A,cc,q',fun i hi=>by simp at hi⟩
  · refine ⟨hl,fun x hx=>?_,_,cc,q',fun i hi=>⟨b,o,rfl,?_,?_⟩⟩
    · obtain ⟨i,hi,rfl⟩:=List.getElem_of_mem hx
      exact (hc i hi).2
    · have hne:ws ≠ []:=fun e=>by rw [e] at hi; simp at hi
      exact (hb hne).elim id fun h=>h.2.elim
    · have:=(hc i hi).1
      rw [getD_get ws 0 hi]
      simpa [blk,Ty.size,stF] using this
theorem con36 {F:Nat→Prop} {W:World} {cv gv wv:Value} {c:Con} {gs:List Grp} {ws:List Int} (hgs:GsOK gs) (hc:CA F W cv c) (hg:GA F W gv gs) (hw:WA F W wv ws) :
    Calls Tryz.prog 36 #[cv,gv,wv] W fun e w'=>e=.returned (.bool ((fitB c && pileB (c.2.1.length:Int) gs) && decide (isB (c.2.1.length:Int) ws)))∧Ext W w':=by
  have hwf:(stF F W).WF:=stF_wf hg.lt
  refine Calls.mono (sim36.2 (c,gs,ws,()) _ (d36_eq hc.shape.1 hgs hw.shape.1) (stF F W) hwf [cv,gv,wv] rfl fun i e he=>?_) fun e w' ⟨v,S',h1,h2,h3,h4,_⟩=>?_
  · match i,he with
    | 0,he=>cases he; exact ⟨_,rfl,hc.rel.1.fut (.inr rfl) ⟨fun b hb=>hb,fun b _ hb=>hb.elim,fun b hb=>rfl⟩ fun _ _=>rfl,hc.rel.2⟩
    | 1,he=>cases he; exact ⟨_,rfl,hg.sr fun b hb=>hb⟩
    | 2,he=>cases he; exact ⟨_,rfl,hw.rel.1.fut (.inr rfl) ⟨fun b hb=>hb,fun b _ hb=>hb.elim,fun b hb=>rfl⟩ fun _ _=>rfl,hw.rel.2⟩
    | i+3,he=>cases he
  · subst h1 h2
    have h5:SR Tryz.prog .bool S' .sh (0,[0]) ((fitB c && pileB (c.2.1.length:Int) gs) && decide (isB (c.2.1.length:Int) ws)) v:=h4
    have h6:=h5.1
    have h7:v=.bool ((fitB c && pileB (c.2.1.length:Int) gs) && decide (isB (c.2.1.length:Int) ws)):=by simpa [Rel,vcells,Ty.agg] using h6
    exact ⟨by rw [h7],frm_ext h3⟩
end Go.Proofs.YtieoleabnjdkfaaGreat
set_option linter.unusedSimpArgs false
set_option linter.unusedVariables false
namespace Go.Proofs.YtieoleabnjdkfaaGreat
open Go Go.Proofs Go.RowKit Go.X
theorem compA_ok:∀ (qs:List (Asn × Value)) (p:Asn × Value),(p::qs).Pairwise (fun x y=>¬ cmpA y.1 x.1 < 0)→ascA ((p::compA p qs).map (·.1))∧∀ a,a∈(p::compA p qs).map (·.1)↔a∈(p::qs).map (·.1)
  | [],p,_=>⟨List.pairwise_singleton _ _,fun a=>Iff.rfl⟩
  | q::r,p,h=>by
    obtain ⟨h1,h2⟩:=List.pairwise_cons.1 h
    obtain ⟨i1,i2⟩:=compA_ok r q h2
    by_cases hz:cmpA q.1 p.1=0
    · have e:q.1=p.1:=(cmpA_zero _ _).1 hz
      have ec:compA p (q::r)=compA q r:=by unfold compA; rw [if_pos hz]; cases r <;> rfl
      rw [ec]
      have e2:(p::compA q r).map (·.1)=(q::compA q r).map (·.1):=by rw [List.map_cons,List.map_cons,e]
      rw [e2]
      refine ⟨i1,fun a=>(i2 a).trans ?_⟩
      simp only [List.map_cons,List.mem_cons,e]
      exact ⟨fun h=>.inr h,fun h=>h.elim .inl id⟩
    · have ec:compA p (q::r)=q::compA q r:=by
        show (if cmpA q.1 p.1=0 then compA q r else q::compA q r)=_
        rw [if_neg hz]
      rw [ec]
      have hpq:cmpA p.1 q.1 < 0:=by
        have h3:=h1 q (by simp)
        have h4:=cmpA_anti p.1 q.1
        omega
      refine ⟨List.pairwise_cons.2 ⟨fun a ha=>?_,i1⟩,fun a=>?_⟩
      · rw [List.map_cons,List.mem_cons] at ha
        rcases ha with rfl | ha
        · exact hpq
        · exact cmpA_trans hpq ((List.pairwise_cons.1 i1).1 a ha)
      · have e1:∀ t:List (Asn × Value),a∈(p::t).map (·.1)↔a=p.1∨a∈t.map (·.1):=fun t=>by rw [List.map_cons,List.mem_cons]
        exact ((e1 _).trans (or_congr_right (i2 a))).trans (e1 _).symm
theorem comp_sorted {l:List Asn} {ps qs:List (Asn × Value)} (hl:l=ps.map (·.1)) (hp:qs.Perm ps) (hs:∀ i j,i < j→j < qs.length→¬ cmpA (qs.getD j (zA,undef)).1 (qs.getD i (zA,undef)).1 < 0):(compL qs).map (·.1)=sortedP l:=by
  have hpw:qs.Pairwise (fun x y=>¬ cmpA y.1 x.1 < 0):=by
    rw [List.pairwise_iff_getElem]
    intro i j hi hj hij
    have:=hs i j hij hj
    rw [List.getD_eq_getElem?_getD,List.getD_eq_getElem?_getD,List.getElem?_eq_getElem hi,List.getElem?_eq_getElem hj] at this
    exact this
  have hmem:∀ a,a∈qs.map (·.1)↔a∈l:=fun a=>by rw [hl]; exact (hp.map _).mem_iff
  have key:ascA ((compL qs).map (·.1))∧∀ a,a∈(compL qs).map (·.1)↔a∈qs.map (·.1):=by
    cases qs with
    | nil=>exact ⟨List.Pairwise.nil,fun a=>Iff.rfl⟩
    | cons q r=>exact compA_ok r q hpw
  exact ascA_uniq key.1 (sortedP_asc l) fun a=>((key.2 a).trans (hmem a)).trans sortedP_iff.symm
theorem AR.ag {base g n cap:Nat} {l:List Asn} {w:World} (h:AR base (.slice (some ⟨g,0,none⟩) n cap) l w):∃ ps:List (Asn × Value),l=ps.map (·.1)∧n=ps.length∧AG base g cap ps w:=by
  obtain ⟨ps,rfl,h1,h2⟩:=h
  have hn:n=ps.length:=by
    obtain ⟨_,h⟩:=h1
    rcases h with ⟨h,_⟩ | ⟨g',cap',cur,e,_⟩
    · cases h
    · simp at e; exact e.2.1
  subst hn
  exact ⟨ps,rfl,rfl,h1,h2⟩
theorem AG.ar {base g cap:Nat} {ps:List (Asn × Value)} {w:World} (h:AG base g cap ps w):AR base (.slice (some ⟨g,0,none⟩) ps.length cap) (ps.map (·.1)) w:=⟨ps,rfl,h.1,h.2⟩
end Go.Proofs.YtieoleabnjdkfaaGreat
set_option linter.unusedSimpArgs false
set_option linter.unusedVariables false
set_option linter.unnecessarySimpa false
namespace Go.Proofs.YtieoleabnjdkfaaGreat
open Go Go.Proofs Go.RowKit Go.X
attribute [local go_sem] Oper.semAt_some
def FrI1 (gv wv ov:Value) (B n i:Nat) (a:Act):Prop:=∃ v:Nat→Value,a={ tmps:=#[v 0,gv,wv,v 3,v 4,v 5,v 6,v 7,.int .i64 (n:Int),ov,.pointer (some ⟨B,0,none⟩),v 11,v 12,v 13,v 14,v 15,v 16,v 17,v 18,v 19,v 20,v 21,v 22,v 23,v 24,v 25,v 26,v 27,v 28,v 29,v 30,v 31,v 32,v 33,v 34,v 35,v 36,v 37,v 38,v 39,v 40,v 41,v 42,v 43,v 44,v 45,v 46,v 47,v 48,.int .i64 (n:Int),.int .i64 (i:Int),v 51,v 52,v 53,v 54,v 55,v 56,v 57,v 58,v 59,v 60,v 61,v 62,v 63,v 64,v 65,v 66,v 67,v 68,v 69,v 70,v 71,v 72,v 73,v 74,v 75,v 76,v 77,v 78,v 79,v 80,v 81,v 82,v 83,v 84,v 85,v 86,v 87,v 88,v 89],defers:=[] }
theorem FrI1.mk {gv wv ov:Value} {B n i:Nat} {x0 x3 x4 x5 x6 x7 x11 x12 x13 x14 x15 x16 x17 x18 x19 x20 x21 x22 x23 x24 x25 x26 x27 x28 x29 x30 x31 x32 x33 x34 x35 x36 x37 x38 x39 x40 x41 x42 x43 x44 x45 x46 x47 x48 x51 x52 x53 x54 x55 x56 x57 x58 x59 x60 x61 x62 x63 x64 x65 x66 x67 x68 x69 x70 x71 x72 x73 x74 x75 x76 x77 x78 x79 x80 x81 x82 x83 x84 x85 x86 x87 x88 x89:Value}:FrI1 gv wv ov B n i { tmps:=#[x0,gv,wv,x3,x4,x5,x6,x7,.int .i64 (n:Int),ov,.pointer (some ⟨B,0,none⟩),x11,x12,x13,x14,x15,x16,x17,x18,x19,x20,x21,x22,x23,x24,x25,x26,x27,x28,x29,x30,x31,x32,x33,x34,x35,x36,x37,x38,x39,x40,x41,x42,x43,x44,x45,x46,x47,x48,.int .i64 (n:Int),.int .i64 (i:Int),x51,x52,x53,x54,x55,x56,x57,x58,x59,x60,x61,x62,x63,x64,x65,x66,x67,x68,x69,x70,x71,x72,x73,x74,x75,x76,x77,x78,x79,x80,x81,x82,x83,x84,x85,x86,x87,x88,x89],defers:=[] }:=⟨fun k=>([x0,undef,undef,x3,x4,x5,x6,x7,undef,undef,undef,x11,x12,x13,x14,x15,x16,x17,x18,x19,x20,x21,x22,x23,x24,x25,x26,x27,x28,x29,x30,x31,x32,x33,x34,x35,x36,x37,x38,x39,x40,x41,x42,x43,x44,x45,x46,x47,x48,undef,undef,x51,x52,x53,x54,x55,x56,x57,x58,x59,x60,x61,x62,x63,x64,x65,x66,x67,x68,x69,x70,x71,x72,x73,x74,x75,x76,x77,x78,x79,x80,x81,x82,x83,x84,x85,x86,x87,x88,x89]:List Value).getD k undef,rfl⟩
theorem FrI1.elim {gv wv ov:Value} {B n i:Nat} {a:Act} {P:Prop} (h:FrI1 gv wv ov B n i a) (k:∀ v:Nat→Value,a={ tmps:=#[v 0,gv,wv,v 3,v 4,v 5,v 6,v 7,.int .i64 (n:Int),ov,.pointer (some ⟨B,0,none⟩),v 11,v 12,v 13,v 14,v 15,v 16,v 17,v 18,v 19,v 20,v 21,v 22,v 23,v 24,v 25,v 26,v 27,v 28,v 29,v 30,v 31,v 32,v 33,v 34,v 35,v 36,v 37,v 38,v 39,v 40,v 41,v 42,v 43,v 44,v 45,v 46,v 47,v 48,.int .i64 (n:Int),.int .i64 (i:Int),v 51,v 52,v 53,v 54,v 55,v 56,v 57,v 58,v 59,v 60,v 61,v 62,v 63,v 64,v 65,v 66,v 67,v 68,v 69,v 70,v 71,v 72,v 73,v 74,v 75,v 76,v 77,v 78,v 79,v 80,v 81,v 82,v 83,v 84,v 85,v 86,v 87,v 88,v 89],defers:=[] }→P):P:=match h with | ⟨v,e⟩=>k v e
def FrI2 (gv wv ov:Value) (B n ln i:Nat) (a:Act):Prop:=∃ v:Nat→Value,a={ tmps:=#[v 0,gv,wv,.pointer (some ⟨B,0,none⟩),v 4,v 5,v 6,v 7,.int .i64 (n:Int),ov,v 10,v 11,v 12,v 13,v 14,v 15,v 16,v 17,v 18,v 19,v 20,v 21,v 22,v 23,v 24,v 25,v 26,v 27,v 28,v 29,v 30,v 31,v 32,v 33,v 34,v 35,v 36,v 37,v 38,v 39,v 40,v 41,v 42,v 43,v 44,v 45,v 46,v 47,v 48,v 49,v 50,v 51,v 52,v 53,v 54,v 55,v 56,v 57,v 58,v 59,v 60,v 61,v 62,v 63,v 64,wv,.int .i64 (ln:Int),.int .i64 (i:Int),v 68,v 69,v 70,v 71,v 72,v 73,v 74,v 75,v 76,v 77,v 78,v 79,v 80,v 81,v 82,v 83,v 84,v 85,v 86,v 87,v 88,v 89],defers:=[] }
theorem FrI2.mk {gv wv ov:Value} {B n ln i:Nat} {x0 x4 x5 x6 x7 x10 x11 x12 x13 x14 x15 x16 x17 x18 x19 x20 x21 x22 x23 x24 x25 x26 x27 x28 x29 x30 x31 x32 x33 x34 x35 x36 x37 x38 x39 x40 x41 x42 x43 x44 x45 x46 x47 x48 x49 x50 x51 x52 x53 x54 x55 x56 x57 x58 x59 x60 x61 x62 x63 x64 x68 x69 x70 x71 x72 x73 x74 x75 x76 x77 x78 x79 x80 x81 x82 x83 x84 x85 x86 x87 x88 x89:Value}:FrI2 gv wv ov B n ln i { tmps:=#[x0,gv,wv,.pointer (some ⟨B,0,none⟩),x4,x5,x6,x7,.int .i64 (n:Int),ov,x10,x11,x12,x13,x14,x15,x16,x17,x18,x19,x20,x21,x22,x23,x24,x25,x26,x27,x28,x29,x30,x31,x32,x33,x34,x35,x36,x37,x38,x39,x40,x41,x42,x43,x44,x45,x46,x47,x48,x49,x50,x51,x52,x53,x54,x55,x56,x57,x58,x59,x60,x61,x62,x63,x64,wv,.int .i64 (ln:Int),.int .i64 (i:Int),x68,x69,x70,x71,x72,x73,x74,x75,x76,x77,x78,x79,x80,x81,x82,x83,x84,x85,x86,x87,x88,x89],defers:=[] }:=⟨fun k=>([x0,undef,undef,undef,x4,x5,x6,x7,undef,undef,x10,x11,x12,x13,x14,x15,x16,x17,x18,x19,x20,x21,x22,x23,x24,x25,x26,x27,x28,x29,x30,x31,x32,x33,x34,x35,x36,x37,x38,x39,x40,x41,x42,x43,x44,x45,x46,x47,x48,x49,x50,x51,x52,x53,x54,x55,x56,x57,x58,x59,x60,x61,x62,x63,x64,undef,undef,undef,x68,x69,x70,x71,x72,x73,x74,x75,x76,x77,x78,x79,x80,x81,x82,x83,x84,x85,x86,x87,x88,x89]:List Value).getD k undef,rfl⟩
theorem FrI2.elim {gv wv ov:Value} {B n ln i:Nat} {a:Act} {P:Prop} (h:FrI2 gv wv ov B n ln i a) (k:∀ v:Nat→Value,a={ tmps:=#[v 0,gv,wv,.pointer (some ⟨B,0,none⟩),v 4,v 5,v 6,v 7,.int .i64 (n:Int),ov,v 10,v 11,v 12,v 13,v 14,v 15,v 16,v 17,v 18,v 19,v 20,v 21,v 22,v 23,v 24,v 25,v 26,v 27,v 28,v 29,v 30,v 31,v 32,v 33,v 34,v 35,v 36,v 37,v 38,v 39,v 40,v 41,v 42,v 43,v 44,v 45,v 46,v 47,v 48,v 49,v 50,v 51,v 52,v 53,v 54,v 55,v 56,v 57,v 58,v 59,v 60,v 61,v 62,v 63,v 64,wv,.int .i64 (ln:Int),.int .i64 (i:Int),v 68,v 69,v 70,v 71,v 72,v 73,v 74,v 75,v 76,v 77,v 78,v 79,v 80,v 81,v 82,v 83,v 84,v 85,v 86,v 87,v 88,v 89],defers:=[] }→P):P:=match h with | ⟨v,e⟩=>k v e
set_option maxRecDepth 100000 in
set_option maxHeartbeats 8000000 in
theorem assert_bad {c:Con} {gs:List Grp} {ws:List Int} (hgs:GsOK gs) {F:Nat→Prop} {W:World} {cv gv wv:Value} (hc:CA F W cv c) (hg:GA F W gv gs) (hw:WA F W wv ws) (hb:((fitB c && pileB (c.2.1.length:Int) gs) && decide (isB (c.2.1.length:Int) ws))=false) :
    Calls Tryz.prog 15 #[cv,gv,wv] W fun e W'=>∃ v,e=.returned (.tuple #[v,.bool (derP c gs ws).2])∧AR W.heap.size v (derP c gs ws).1 W'∧Ext W W':=by
  have hder:derP c gs ws=([],false):=by
    unfold derP
    rw [if_neg fun h=>by rw [h.1,decide_eq_true h.2] at hb; cases hb]
  have hin:∀ c:Int,0≤c→c≤1000→IntKind.i64.wrap c=c:=fun c h0 h1=>w_id (by omega) (by omega)
  obtain ⟨hcl,s0,ca,cc,hcv⟩:=hc.shape
  obtain ⟨hwl,hww,wa,wc,hwv,hwc⟩:=hw.shape
  have hgv:∃ ga gl gc,gv=.slice ga gl gc:=by
    obtain ⟨_,_,a,len,cap,h,_⟩:=hg.rel.1
    exact ⟨a,len,cap,by simpa [vcells,Ty.agg] using h⟩
  obtain ⟨ga,gl,gc,rfl⟩:=hgv
  refine (callsIn_wide (n:=0)).1 (callsIn_of_wp Tryz.func15 rfl trivial ?_ rfl)
  simp only [Tryz.ntmps15,List.size_toArray,List.length_cons,List.length_nil,Nat.reduceAdd,Nat.reduceSub,Array.replicate_succ,Array.replicate_zero,List.push_toArray,List.append_toArray,List.nil_append,List.cons_append]
  have fd:Fence.wide.depth=none:=rfl
  have f36:Fence.wide.fn 36:=trivial
  have f18:Fence.wide.fn 18:=trivial
  have f37:Fence.wide.fn 37:=trivial
  have f38:Fence.wide.fn 38:=trivial
  have f23:Fence.wide.fn 23:=trivial
  have f39:Fence.wide.fn 39:=trivial
  have f41:Fence.wide.fn 41:=trivial
  subst hcv hwv
  have e1:=Ext.alloc W (.cells #[.string s0,.slice ca c.2.1.length cc,.int .i64 c.2.2.1,.int .i64 c.2.2.2.1,.int .i64 c.2.2.2.2.1,.int .i64 c.2.2.2.2.2.1,.int .i64 c.2.2.2.2.2.2.1,.int .i64 c.2.2.2.2.2.2.2.1,.int .i64 c.2.2.2.2.2.2.2.2] 24)
  have n1:=own_new W #[.string s0,.slice ca c.2.1.length cc,.int .i64 c.2.2.1,.int .i64 c.2.2.2.1,.int .i64 c.2.2.2.2.1,.int .i64 c.2.2.2.2.2.1,.int .i64 c.2.2.2.2.2.2.1,.int .i64 c.2.2.2.2.2.2.2.1,.int .i64 c.2.2.2.2.2.2.2.2] 24
  obtain ⟨w1,hw1⟩:∃ w1,W.alloc (.cells #[.string s0,.slice ca c.2.1.length cc,.int .i64 c.2.2.1,.int .i64 c.2.2.2.1,.int .i64 c.2.2.2.2.1,.int .i64 c.2.2.2.2.2.1,.int .i64 c.2.2.2.2.2.2.1,.int .i64 c.2.2.2.2.2.2.2.1,.int .i64 c.2.2.2.2.2.2.2.2] 24)=w1:=⟨_,rfl⟩
  rw [hw1] at e1 n1
  have a0:=n1.cell (i:=0) (by simp)
  have a1:=n1.cell (i:=1) (by simp)
  have a2:=n1.cell (i:=2) (by simp)
  have a3:=n1.cell (i:=3) (by simp)
  have a4:=n1.cell (i:=4) (by simp)
  have a5:=n1.cell (i:=5) (by simp)
  have a6:=n1.cell (i:=6) (by simp)
  have a7:=n1.cell (i:=7) (by simp)
  have a8:=n1.cell (i:=8) (by simp)
  simp at a0 a1 a2 a3 a4 a5 a6 a7 a8
  have kA:Kx (fun _=>False) W w1:=Kx.of_ext e1
  have c36:=con36 hgs (hc.keep kA fun _ _ h=>h) (hg.keep kA fun _ _ h=>h) (hw.keep kA fun _ _ h=>h)
  rw [hb] at c36
  clear hb
  gi_wp2_with (first
    | (gi_at_call 36; refine (callsIn_wide.2 c36).mono ?_; rintro e w2 ⟨rfl,he2⟩
       have n2:=n1.ext he2
       have b1:=n2.cell (i:=1) (by simp)
       have b2:=n2.cell (i:=2) (by simp)
       have b3:=n2.cell (i:=3) (by simp)
       simp at b1 b2 b3))
  exact ⟨rfl,_,results_tmp2 (t:=6) (u:=7) rfl _ _ _,_,by (first | rfl | (rw [hder]; rfl)),(by rw [hder]; exact AR.nil _ _),e1.trans he2⟩
end Go.Proofs.YtieoleabnjdkfaaGreat
set_option linter.unusedSimpArgs false
set_option linter.unusedVariables false
set_option linter.unnecessarySimpa false
namespace Go.Proofs.YtieoleabnjdkfaaGreat
open Go Go.Proofs Go.RowKit Go.X
attribute [local go_sem] Oper.semAt_some
set_option maxRecDepth 100000 in
set_option maxHeartbeats 8000000 in
theorem assert_few {c:Con} {gs:List Grp} {ws:List Int} (hgs:GsOK gs) {F:Nat→Prop} {W:World} {cv gv wv:Value} (hc:CA F W cv c) (hg:GA F W gv gs) (hw:WA F W wv ws) (hb:((fitB c && pileB (c.2.1.length:Int) gs) && decide (isB (c.2.1.length:Int) ws))=true) (hns:(c.2.1.length:Int)≤c.2.2.2.1) :
    Calls Tryz.prog 15 #[cv,gv,wv] W fun e W'=>∃ v,e=.returned (.tuple #[v,.bool (derP c gs ws).2])∧AR W.heap.size v (derP c gs ws).1 W'∧Ext W W':=by
  have hcond:(fitB c && pileB (c.2.1.length:Int) gs)=true∧isB (c.2.1.length:Int) ws:=by
    obtain ⟨h1,h2⟩:=(Bool.and_eq_true _ _).mp hb
    exact ⟨h1,of_decide_eq_true h2⟩
  have hder:derP c gs ws=([],decide ((ws.length:Int)=(c.2.1.length:Int))):=by
    unfold derP
    rw [if_pos hcond,if_pos hns]
  have hin:∀ c:Int,0≤c→c≤1000→IntKind.i64.wrap c=c:=fun c h0 h1=>w_id (by omega) (by omega)
  obtain ⟨hcl,s0,ca,cc,hcv⟩:=hc.shape
  obtain ⟨hwl,hww,wa,wc,hwv,hwc⟩:=hw.shape
  have hgv:∃ ga gl gc,gv=.slice ga gl gc:=by
    obtain ⟨_,_,a,len,cap,h,_⟩:=hg.rel.1
    exact ⟨a,len,cap,by simpa [vcells,Ty.agg] using h⟩
  obtain ⟨ga,gl,gc,rfl⟩:=hgv
  refine (callsIn_wide (n:=0)).1 (callsIn_of_wp Tryz.func15 rfl trivial ?_ rfl)
  simp only [Tryz.ntmps15,List.size_toArray,List.length_cons,List.length_nil,Nat.reduceAdd,Nat.reduceSub,Array.replicate_succ,Array.replicate_zero,List.push_toArray,List.append_toArray,List.nil_append,List.cons_append]
  have fd:Fence.wide.depth=none:=rfl
  have f36:Fence.wide.fn 36:=trivial
  have f18:Fence.wide.fn 18:=trivial
  have f37:Fence.wide.fn 37:=trivial
  have f38:Fence.wide.fn 38:=trivial
  have f23:Fence.wide.fn 23:=trivial
  have f39:Fence.wide.fn 39:=trivial
  have f41:Fence.wide.fn 41:=trivial
  subst hcv hwv
  have e1:=Ext.alloc W (.cells #[.string s0,.slice ca c.2.1.length cc,.int .i64 c.2.2.1,.int .i64 c.2.2.2.1,.int .i64 c.2.2.2.2.1,.int .i64 c.2.2.2.2.2.1,.int .i64 c.2.2.2.2.2.2.1,.int .i64 c.2.2.2.2.2.2.2.1,.int .i64 c.2.2.2.2.2.2.2.2] 24)
  have n1:=own_new W #[.string s0,.slice ca c.2.1.length cc,.int .i64 c.2.2.1,.int .i64 c.2.2.2.1,.int .i64 c.2.2.2.2.1,.int .i64 c.2.2.2.2.2.1,.int .i64 c.2.2.2.2.2.2.1,.int .i64 c.2.2.2.2.2.2.2.1,.int .i64 c.2.2.2.2.2.2.2.2] 24
  obtain ⟨w1,hw1⟩:∃ w1,W.alloc (.cells #[.string s0,.slice ca c.2.1.length cc,.int .i64 c.2.2.1,.int .i64 c.2.2.2.1,.int .i64 c.2.2.2.2.1,.int .i64 c.2.2.2.2.2.1,.int .i64 c.2.2.2.2.2.2.1,.int .i64 c.2.2.2.2.2.2.2.1,.int .i64 c.2.2.2.2.2.2.2.2] 24)=w1:=⟨_,rfl⟩
  rw [hw1] at e1 n1
  have a0:=n1.cell (i:=0) (by simp)
  have a1:=n1.cell (i:=1) (by simp)
  have a2:=n1.cell (i:=2) (by simp)
  have a3:=n1.cell (i:=3) (by simp)
  have a4:=n1.cell (i:=4) (by simp)
  have a5:=n1.cell (i:=5) (by simp)
  have a6:=n1.cell (i:=6) (by simp)
  have a7:=n1.cell (i:=7) (by simp)
  have a8:=n1.cell (i:=8) (by simp)
  simp at a0 a1 a2 a3 a4 a5 a6 a7 a8
  have kA:Kx (fun _=>False) W w1:=Kx.of_ext e1
  have c36:=con36 hgs (hc.keep kA fun _ _ h=>h) (hg.keep kA fun _ _ h=>h) (hw.keep kA fun _ _ h=>h)
  rw [hb] at c36
  clear hb hcond
  gi_wp2_with (first
    | (gi_at_call 36; refine (callsIn_wide.2 c36).mono ?_; rintro e w2 ⟨rfl,he2⟩
       have n2:=n1.ext he2
       have b1:=n2.cell (i:=1) (by simp)
       have b2:=n2.cell (i:=2) (by simp)
       have b3:=n2.cell (i:=3) (by simp)
       simp at b1 b2 b3))
  exact ⟨rfl,_,results_tmp2 (t:=6) (u:=7) rfl _ _ _,_,by (first | rfl | (rw [hder]; rfl)),(by rw [hder]; exact AR.nil _ _),e1.trans he2⟩
end Go.Proofs.YtieoleabnjdkfaaGreat
set_option linter.unusedSimpArgs false
set_option linter.unusedVariables false
set_option linter.unnecessarySimpa false
namespace Go.Proofs.YtieoleabnjdkfaaGreat
open Go Go.Proofs Go.RowKit Go.X
attribute [local go_sem] Oper.semAt_some
set_option maxRecDepth 100000 in
set_option maxHeartbeats 8000000 in
theorem assert_len {c:Con} {gs:List Grp} {ws:List Int} (hgs:GsOK gs) {F:Nat→Prop} {W:World} {cv gv wv:Value} (hc:CA F W cv c) (hg:GA F W gv gs) (hw:WA F W wv ws) (hb:((fitB c && pileB (c.2.1.length:Int) gs) && decide (isB (c.2.1.length:Int) ws))=true) (hns:¬ (c.2.1.length:Int)≤c.2.2.2.1) (hws:¬ (ws.length:Int)=c.2.2.2.1) :
    Calls Tryz.prog 15 #[cv,gv,wv] W fun e W'=>∃ v,e=.returned (.tuple #[v,.bool (derP c gs ws).2])∧AR W.heap.size v (derP c gs ws).1 W'∧Ext W W':=by
  have hcond:(fitB c && pileB (c.2.1.length:Int) gs)=true∧isB (c.2.1.length:Int) ws:=by
    obtain ⟨h1,h2⟩:=(Bool.and_eq_true _ _).mp hb
    exact ⟨h1,of_decide_eq_true h2⟩
  have hder:derP c gs ws=([],false):=by
    unfold derP
    rw [if_pos hcond,if_neg hns,if_neg hws]
  have hin:∀ c:Int,0≤c→c≤1000→IntKind.i64.wrap c=c:=fun c h0 h1=>w_id (by omega) (by omega)
  obtain ⟨hcl,s0,ca,cc,hcv⟩:=hc.shape
  obtain ⟨hwl,hww,wa,wc,hwv,hwc⟩:=hw.shape
  have hgv:∃ ga gl gc,gv=.slice ga gl gc:=by
    obtain ⟨_,_,a,len,cap,h,_⟩:=hg.rel.1
    exact ⟨a,len,cap,by simpa [vcells,Ty.agg] using h⟩
  obtain ⟨ga,gl,gc,rfl⟩:=hgv
  refine (callsIn_wide (n:=0)).1 (callsIn_of_wp Tryz.func15 rfl trivial ?_ rfl)
  simp only [Tryz.ntmps15,List.size_toArray,List.length_cons,List.length_nil,Nat.reduceAdd,Nat.reduceSub,Array.replicate_succ,Array.replicate_zero,List.push_toArray,List.append_toArray,List.nil_append,List.cons_append]
  have fd:Fence.wide.depth=none:=rfl
  have f36:Fence.wide.fn 36:=trivial
  have f18:Fence.wide.fn 18:=trivial
  have f37:Fence.wide.fn 37:=trivial
  have f38:Fence.wide.fn 38:=trivial
  have f23:Fence.wide.fn 23:=trivial
  have f39:Fence.wide.fn 39:=trivial
  have f41:Fence.wide.fn 41:=trivial
  subst hcv hwv
  have e1:=Ext.alloc W (.cells #[.string s0,.slice ca c.2.1.length cc,.int .i64 c.2.2.1,.int .i64 c.2.2.2.1,.int .i64 c.2.2.2.2.1,.int .i64 c.2.2.2.2.2.1,.int .i64 c.2.2.2.2.2.2.1,.int .i64 c.2.2.2.2.2.2.2.1,.int .i64 c.2.2.2.2.2.2.2.2] 24)
  have n1:=own_new W #[.string s0,.slice ca c.2.1.length cc,.int .i64 c.2.2.1,.int .i64 c.2.2.2.1,.int .i64 c.2.2.2.2.1,.int .i64 c.2.2.2.2.2.1,.int .i64 c.2.2.2.2.2.2.1,.int .i64 c.2.2.2.2.2.2.2.1,.int .i64 c.2.2.2.2.2.2.2.2] 24
  obtain ⟨w1,hw1⟩:∃ w1,W.alloc (.cells #[.string s0,.slice ca c.2.1.length cc,.int .i64 c.2.2.1,.int .i64 c.2.2.2.1,.int .i64 c.2.2.2.2.1,.int .i64 c.2.2.2.2.2.1,.int .i64 c.2.2.2.2.2.2.1,.int .i64 c.2.2.2.2.2.2.2.1,.int .i64 c.2.2.2.2.2.2.2.2] 24)=w1:=⟨_,rfl⟩
  rw [hw1] at e1 n1
  have a0:=n1.cell (i:=0) (by simp)
  have a1:=n1.cell (i:=1) (by simp)
  have a2:=n1.cell (i:=2) (by simp)
  have a3:=n1.cell (i:=3) (by simp)
  have a4:=n1.cell (i:=4) (by simp)
  have a5:=n1.cell (i:=5) (by simp)
  have a6:=n1.cell (i:=6) (by simp)
  have a7:=n1.cell (i:=7) (by simp)
  have a8:=n1.cell (i:=8) (by simp)
  simp at a0 a1 a2 a3 a4 a5 a6 a7 a8
  have kA:Kx (fun _=>False) W w1:=Kx.of_ext e1
  have c36:=con36 hgs (hc.keep kA fun _ _ h=>h) (hg.keep kA fun _ _ h=>h) (hw.keep kA fun _ _ h=>h)
  rw [hb] at c36
  clear hb hcond
  gi_wp2_with (first
    | (gi_at_call 36; refine (callsIn_wide.2 c36).mono ?_; rintro e w2 ⟨rfl,he2⟩
       have n2:=n1.ext he2
       have b1:=n2.cell (i:=1) (by simp)
       have b2:=n2.cell (i:=2) (by simp)
       have b3:=n2.cell (i:=3) (by simp)
       simp at b1 b2 b3))
  exact ⟨rfl,_,results_tmp2 (t:=6) (u:=7) rfl _ _ _,_,by (first | rfl | (rw [hder]; rfl)),(by rw [hder]; exact AR.nil _ _),e1.trans he2⟩
end Go.Proofs.YtieoleabnjdkfaaGreat
set_option linter.unusedSimpArgs false
set_option linter.unusedVariables false
set_option linter.unnecessarySimpa false
namespace Go.Proofs.YtieoleabnjdkfaaGreat
open Go Go.Proofs Go.RowKit Go.X
attribute [local go_sem] Oper.semAt_some
set_option maxRecDepth 100000 in
set_option maxHeartbeats 8000000 in
theorem assert_zero {c:Con} {gs:List Grp} {ws:List Int} (hgs:GsOK gs) {F:Nat→Prop} {W:World} {cv gv wv:Value} (hc:CA F W cv c) (hg:GA F W gv gs) (hw:WA F W wv ws) (hb:((fitB c && pileB (c.2.1.length:Int) gs) && decide (isB (c.2.1.length:Int) ws))=true) (hns:¬ (c.2.1.length:Int)≤c.2.2.2.1) (hws:(ws.length:Int)=c.2.2.2.1) (hm:c.2.2.1=1) (hb0:(setP c.2.1.length gs (ws.getD 0 0)).1=0) :
    Calls Tryz.prog 15 #[cv,gv,wv] W fun e W'=>∃ v,e=.returned (.tuple #[v,.bool (derP c gs ws).2])∧AR W.heap.size v (derP c gs ws).1 W'∧Ext W W':=by
  obtain ⟨nm,cs,m,s,z1,z2,z3,z4,z5⟩:=c
  dsimp only at hb hns hws hm hb0 hc
  subst hws
  subst hm
  have hcond:(fitB (nm,cs,1,(ws.length:Int),z1,z2,z3,z4,z5) && pileB (cs.length:Int) gs)=true∧isB (cs.length:Int) ws:=by
    obtain ⟨h1,h2⟩:=(Bool.and_eq_true _ _).mp hb
    exact ⟨h1,of_decide_eq_true h2⟩
  have hws1:ws.length=1:=by
    obtain ⟨hfit,hpb⟩:=(Bool.and_eq_true _ _).mp hcond.1
    obtain ⟨_,_,_,_,_,_,hirv⟩:=fit_n hfit
    have:=hirv rfl
    dsimp only at this
    omega
  have hder:derP (nm,cs,1,(ws.length:Int),z1,z2,z3,z4,z5) gs ws=([],false):=by
    unfold derP
    rw [if_pos hcond,if_neg hns,if_pos rfl,if_pos rfl,if_pos (by dsimp only; omega)]
  have hbest:=hb0
  have hwn:wI (cs.length:Int):=by
    obtain ⟨hfit,hpb⟩:=(Bool.and_eq_true _ _).mp hcond.1
    obtain ⟨hn1,hn7,_⟩:=fit_n hfit
    dsimp only at hn1 hn7
    exact w_id (by omega) (by omega)
  have hin:∀ c:Int,0≤c→c≤1000→IntKind.i64.wrap c=c:=fun c h0 h1=>w_id (by omega) (by omega)
  obtain ⟨hcl,s0,ca,cc,hcv⟩:=hc.shape
  try dsimp only at hcv
  obtain ⟨hwl,hww,wa,wc,hwv,hwc⟩:=hw.shape
  have hgv:∃ ga gl gc,gv=.slice ga gl gc:=by
    obtain ⟨_,_,a,len,cap,h,_⟩:=hg.rel.1
    exact ⟨a,len,cap,by simpa [vcells,Ty.agg] using h⟩
  obtain ⟨ga,gl,gc,rfl⟩:=hgv
  refine (callsIn_wide (n:=0)).1 (callsIn_of_wp Tryz.func15 rfl trivial ?_ rfl)
  simp only [Tryz.ntmps15,List.size_toArray,List.length_cons,List.length_nil,Nat.reduceAdd,Nat.reduceSub,Array.replicate_succ,Array.replicate_zero,List.push_toArray,List.append_toArray,List.nil_append,List.cons_append]
  have fd:Fence.wide.depth=none:=rfl
  have f36:Fence.wide.fn 36:=trivial
  have f18:Fence.wide.fn 18:=trivial
  have f37:Fence.wide.fn 37:=trivial
  have f38:Fence.wide.fn 38:=trivial
  have f23:Fence.wide.fn 23:=trivial
  have f39:Fence.wide.fn 39:=trivial
  have f41:Fence.wide.fn 41:=trivial
  subst hcv hwv
  have e1:=Ext.alloc W (.cells #[.string s0,.slice ca cs.length cc,.int .i64 1,.int .i64 (ws.length:Int),.int .i64 z1,.int .i64 z2,.int .i64 z3,.int .i64 z4,.int .i64 z5] 24)
  have n1:=own_new W #[.string s0,.slice ca cs.length cc,.int .i64 1,.int .i64 (ws.length:Int),.int .i64 z1,.int .i64 z2,.int .i64 z3,.int .i64 z4,.int .i64 z5] 24
  obtain ⟨w1,hw1⟩:∃ w1,W.alloc (.cells #[.string s0,.slice ca cs.length cc,.int .i64 1,.int .i64 (ws.length:Int),.int .i64 z1,.int .i64 z2,.int .i64 z3,.int .i64 z4,.int .i64 z5] 24)=w1:=⟨_,rfl⟩
  rw [hw1] at e1 n1
  have a0:=n1.cell (i:=0) (by simp)
  have a1:=n1.cell (i:=1) (by simp)
  have a2:=n1.cell (i:=2) (by simp)
  have a3:=n1.cell (i:=3) (by simp)
  have a4:=n1.cell (i:=4) (by simp)
  have a5:=n1.cell (i:=5) (by simp)
  have a6:=n1.cell (i:=6) (by simp)
  have a7:=n1.cell (i:=7) (by simp)
  have a8:=n1.cell (i:=8) (by simp)
  simp at a0 a1 a2 a3 a4 a5 a6 a7 a8
  have kA:Kx (fun _=>False) W w1:=Kx.of_ext e1
  have c36:=con36 hgs (hc.keep kA fun _ _ h=>h) (hg.keep kA fun _ _ h=>h) (hw.keep kA fun _ _ h=>h)
  try dsimp only at c36
  rw [hb] at c36
  obtain ⟨wb,wo,rfl,hwF,hwcell⟩:=hwc 0 (by omega)
  rw [Nat.add_zero] at hwcell
  have hwlt:wb < W.heap.size:=hw.lt wb hwF
  have hgt:(0:Int) < (ws.length:Int):=by omega
  generalize hw0:ws.getD 0 0=w0 at hwcell hbest hb0 hder
  have c18:=fun (w2:World) (he:Ext W w2)=>best_ok hwn hgs (hg.keep (Kx.of_ext (X:=fun _=>False) he) fun _ _ h=>h) (wn:=w0)
  clear hb hcond hwc hb0 hws1 hw0
  gi_wp2_with (first
    | (gi_at_call 36; refine (callsIn_wide.2 c36).mono ?_; rintro e w2 ⟨rfl,he2⟩
       have n2:=n1.ext he2
       have b1:=n2.cell (i:=1) (by simp)
       have b2:=n2.cell (i:=2) (by simp)
       have b3:=n2.cell (i:=3) (by simp)
       simp at b1 b2 b3
       have d0:w2.cell? ⟨wb,wo,none⟩=some (.int .i64 w0):=(World.cell?_of_block (w:=W) (a:=⟨wb,wo,none⟩) ((e1.trans he2).block wb hwlt)).trans hwcell
       have c18':=c18 w2 (e1.trans he2)
       rw [Int.toNat_natCast,hbest] at c18')
    | (gi_at_call 18; refine (callsIn_wide.2 c18').mono ?_; rintro e w3 ⟨rfl,he3⟩))
  exact ⟨rfl,_,results_tmp2 (t:=6) (u:=7) rfl _ _ _,_,by (first | rfl | (rw [hder]; rfl)),(by rw [hder]; exact AR.nil _ _),(e1.trans he2).trans he3⟩
end Go.Proofs.YtieoleabnjdkfaaGreat
set_option linter.unusedSimpArgs false
set_option linter.unusedVariables false
set_option linter.unnecessarySimpa false
namespace Go.Proofs.YtieoleabnjdkfaaGreat
open Go Go.Proofs Go.RowKit Go.X
open Go.Maps (Keyed)
attribute [local go_sem] Oper.semAt_some
def FrL1 (B:Nat) (tv ov cv:Value) (ln i:Nat) (a:Act):Prop:=∃ (x2 x3 x4 x5 x6 x8 x9 x10 x11 x12 x13 x14 x15 x16 x17 x18 x19 x20 x21 x22 x23 x24 x28 x29 x30 x31 x32 x33 x34 x35 x36 x37:Value),a={ tmps:=#[.pointer (some ⟨B,0,none⟩),tv,x2,x3,x4,x5,x6,ov,x8,x9,x10,x11,x12,x13,x14,x15,x16,x17,x18,x19,x20,x21,x22,x23,x24,cv,.int .i64 (ln:Int),.int .i64 (i:Int),x28,x29,x30,x31,x32,x33,x34,x35,x36,x37],defers:=[] }
theorem FrL1.mk {B:Nat} {tv ov cv:Value} {ln i:Nat} {x2 x3 x4 x5 x6 x8 x9 x10 x11 x12 x13 x14 x15 x16 x17 x18 x19 x20 x21 x22 x23 x24 x28 x29 x30 x31 x32 x33 x34 x35 x36 x37:Value}:FrL1 B tv ov cv ln i { tmps:=#[.pointer (some ⟨B,0,none⟩),tv,x2,x3,x4,x5,x6,ov,x8,x9,x10,x11,x12,x13,x14,x15,x16,x17,x18,x19,x20,x21,x22,x23,x24,cv,.int .i64 (ln:Int),.int .i64 (i:Int),x28,x29,x30,x31,x32,x33,x34,x35,x36,x37],defers:=[] }:=⟨x2,x3,x4,x5,x6,x8,x9,x10,x11,x12,x13,x14,x15,x16,x17,x18,x19,x20,x21,x22,x23,x24,x28,x29,x30,x31,x32,x33,x34,x35,x36,x37,rfl⟩
theorem FrL1.elim {B:Nat} {tv ov cv:Value} {ln i:Nat} {a:Act} {P:Prop} (h:FrL1 B tv ov cv ln i a) (k:∀ (x2 x3 x4 x5 x6 x8 x9 x10 x11 x12 x13 x14 x15 x16 x17 x18 x19 x20 x21 x22 x23 x24 x28 x29 x30 x31 x32 x33 x34 x35 x36 x37:Value),a={ tmps:=#[.pointer (some ⟨B,0,none⟩),tv,x2,x3,x4,x5,x6,ov,x8,x9,x10,x11,x12,x13,x14,x15,x16,x17,x18,x19,x20,x21,x22,x23,x24,cv,.int .i64 (ln:Int),.int .i64 (i:Int),x28,x29,x30,x31,x32,x33,x34,x35,x36,x37],defers:=[] }→P):P:=by
  obtain ⟨x2,x3,x4,x5,x6,x8,x9,x10,x11,x12,x13,x14,x15,x16,x17,x18,x19,x20,x21,x22,x23,x24,x28,x29,x30,x31,x32,x33,x34,x35,x36,x37,e⟩:=h
  exact k x2 x3 x4 x5 x6 x8 x9 x10 x11 x12 x13 x14 x15 x16 x17 x18 x19 x20 x21 x22 x23 x24 x28 x29 x30 x31 x32 x33 x34 x35 x36 x37 e
def lTs (n:Nat) (gs:List Grp) (t:List Int) (l:List Int):List Asn:=l.flatMap fun c=>lT n gs (c::t)
theorem lTs_snoc (n:Nat) (gs:List Grp) (t:List Int) (l:List Int) (c:Int):lTs n gs t (l++[c])=lTs n gs t l++lT n gs (c::t):=by
  unfold lTs
  rw [List.flatMap_append,List.flatMap_singleton]
theorem lTs_len {n:Nat} (hn:n≤7) (gs:List Grp) (t:List Int):∀ (l:List Int),(∀ c∈l,isB n (c::t))→(lTs n gs t l).length≤l.length * 823543
  | [],_=>by simp [lTs]
  | c::l,h=>by
    have ih:=lTs_len hn gs t l fun c hc=>h c (List.mem_cons_of_mem _ hc)
    have h1:=lT_len hn gs (h c (by simp))
    unfold lTs at ih ⊢
    rw [List.flatMap_cons,List.length_append,List.length_cons,Nat.succ_mul]
    omega
set_option maxRecDepth 100000 in
set_option maxHeartbeats 8000000 in
theorem listW_ok {n:Nat} (hn:2≤n∧n≤7) {gs:List Grp} {N:Int} (hp:PileOK (n:Int) gs N) {F:Nat→Prop} {B Mv Mw:Nat}:∀ (k:Nat) (t:List Int),isB n t→0 < t.length→n < k+t.length→k≤8→∀ {nv nw:Nat} (hnv:nv+16 ^ k≤1099511627776) (hnw:nw+16 ^ k≤1099511627776) {X:Nat→Prop} {W:World} (hs:SX X n gs F B Mv Mw nv nw W) (hXl:∀ b,X b→b < W.heap.size) {tv:Value} {tb:Nat} (hti:SI W tv t tb) (hx:¬ Xm Mv Mw tb),
    Calls Tryz.prog 38 #[.pointer (some ⟨B,0,none⟩),tv] W fun e W'=>∃ v,e=.returned v∧AR W.heap.size v (lT n gs t) W'∧SX X n gs F B Mv Mw (nv+16 ^ k) (nw+16 ^ k) W'∧Kx (Xm Mv Mw) W W':=by
  intro k
  induction k with
  | zero=>intro t ht h0 hk; have:=isB_le ht; omega
  | succ k ih =>
    intro t ht h0 hk hk8 nv nw hnv hnw X W hs hXl tv tb hti hx
    obtain ⟨A,hA1,hA⟩:∃ A,1≤A∧16 ^ k=A:=⟨_,Nat.pow_pos (by omega),rfl⟩
    rw [Nat.pow_succ,hA] at hnv hnw ⊢
    simp only [hA] at ih
    have hV8:∃ V8,V8≤A * 8∧8 ^ (k+1)=V8:=⟨_,by rw [Nat.pow_succ,← hA]; exact Nat.mul_le_mul_right _ (Nat.pow_le_pow_left (by omega) k),rfl⟩
    obtain ⟨V8,hV8,hV⟩:=hV8
    clear hA
    have htl:t.length≤7:=isB_len ht (by omega)
    have hin:∀ c:Int,0≤c→c≤1000→IntKind.i64.wrap c=c:=fun c h0 h1=>w_id (by omega) (by omega)
    obtain ⟨t0,r,rfl⟩:∃ t0 r,t=t0::r:=by
      match t,h0 with
      | t0::r,_=>exact ⟨t0,r,rfl⟩
    obtain ⟨_,_,htb,off,tc,rfl,htc,hcell⟩:=id hti
    refine (callsIn_wide (n:=0)).1 (callsIn_of_wp Tryz.func38 rfl trivial ?_ rfl)
    simp only [Tryz.ntmps38,List.size_toArray,List.length_cons,List.length_nil,Nat.reduceAdd,Nat.reduceSub,Array.replicate_succ,Array.replicate_zero,List.push_toArray,List.append_toArray,List.nil_append,List.cons_append]
    have fd:Fence.wide.depth=none:=rfl
    have f65:Fence.wide.fn 65:=trivial
    have f66:Fence.wide.fn 66:=trivial
    have f48:Fence.wide.fn 48:=trivial
    have f38:Fence.wide.fn 38:=trivial
    have hMv:=hs.votes.lt
    have hMw:=hs.vals.lt
    have c65:=own_ok (t0:=t0) (r:=r) ⟨by omega,hn.2⟩ hp (show nv < 1099511627776 by omega) hs hXl ht hti hx
    have hlt:=lT_eq gs hn.2 ht
    have hvalue:∀ (W1:World),SX X n gs F B Mv Mw (nv+1) nw W1→(∀ b,X b→b < W1.heap.size)→SI W1 (.slice (some ⟨tb,off,none⟩) (r.length+1) tc) (t0::r) tb→Calls Tryz.prog 48 #[.pointer (some ⟨B,0,none⟩),(.slice (some ⟨tb,off,none⟩) (r.length+1) tc)] W1 fun e W'=>e=.returned (.int .i64 (vT n gs (t0::r)))∧SX X n gs F B Mv Mw (nv+1+V8) (nw+V8) W'∧Kx (Xm Mv Mw) W1 W':=by
      intro W1 hs1 hX1 ht1
      rw [← hV]
      exact value_ok hn hp (k+1) (t0::r) ht (by simp) (by omega) (nv:=nv+1) (nw:=nw) (by omega) (by omega) hs1 hX1 ht1 hx
    clear hV
    by_cases hov:ov n gs (t0::r)=vT n gs (t0::r)
    · rw [if_pos hov] at hlt
      have hov':(ownP n gs (t0::r)).2.1=vT n gs (t0::r):=hov
      generalize vT n gs (t0::r)=vv at hov' hvalue
      gi_wp2_with (first
        | (gi_at_call 65; refine (callsIn_wide.2 c65).mono ?_; rintro e w2 ⟨av,rfl,hav,hs2,hk2⟩
           obtain ⟨sv,rfl,hsl,haw⟩:=hav
           obtain ⟨sa,sl,sc,rfl⟩:∃ sa sl sc,sv=.slice sa sl sc:=hsl.slice
           have ex5:=own_store5 (w:=w2) (v0:=.int .i64 (ownP n gs (t0::r)).1.1) (v1:=.int .i64 (ownP n gs (t0::r)).1.2.1) (v2:=.int .i64 (ownP n gs (t0::r)).1.2.2.1) (v3:=.slice sa sl sc) (v4:=.int .i64 (ownP n gs (t0::r)).1.2.2.2.2)
           have nA:=own_new w2 #[.int .i64 0,.int .i64 0,.int .i64 0,.slice none 0 0,.int .i64 0] 49
           simp only at ex5
           obtain ⟨wA,hwA⟩:∃ wA,w2.alloc (.cells #[.int .i64 0,.int .i64 0,.int .i64 0,.slice none 0 0,.int .i64 0] 49)=wA:=⟨_,rfl⟩
           rw [hwA] at ex5 nA
           have n5:=own_set5 (u0:=.int .i64 (ownP n gs (t0::r)).1.1) (u1:=.int .i64 (ownP n gs (t0::r)).1.2.1) (u2:=.int .i64 (ownP n gs (t0::r)).1.2.2.1) (u3:=.slice sa sl sc) (u4:=.int .i64 (ownP n gs (t0::r)).1.2.2.2.2) nA
           have a0:=nA.cell (i:=0) (by simp)
           have a1:=nA.cell (i:=1) (by simp)
           have a2:=nA.cell (i:=2) (by simp)
           have a3:=nA.cell (i:=3) (by simp)
           have a4:=nA.cell (i:=4) (by simp)
           simp at a0 a1 a2 a3 a4
           have az:=nA.frozen
           have hti2:=hti.keep hk2 hx
           obtain ⟨gv2,bv2,hB2,_,_⟩:=id hs2.cell
           have hBlt2:B < w2.heap.size:=(Array.getElem?_eq_some_iff.1 hB2).1
           have hMv2:=hs2.votes.lt
           have hMw2:=hs2.vals.lt)
        | (gi_at_call 48; refine (callsIn_wide.2 (hvalue _ (hs2.ext ex5) (fun b h=>Nat.lt_of_lt_of_le (hXl b h) (Nat.le_trans hk2.size ex5.size)) (hti2.keep (Kx.of_ext (X:=fun _=>False) ex5) id))).mono ?_; rintro e w4 ⟨rfl,hs4,hk4⟩
           have n6:=n5.same (hk4.block _ n5.lt (by rintro (h | h) <;> omega))
           have d0:=n6.cell (i:=0) (by simp)
           have d1:=n6.cell (i:=1) (by simp)
           have d2:=n6.cell (i:=2) (by simp)
           have d3:=n6.cell (i:=3) (by simp)
           have d4:=n6.cell (i:=4) (by simp)
           simp at d0 d1 d2 d3 d4))
      have hk24:Kx (Xm Mv Mw) w2 w4:=(Kx.of_ext ex5).trans hk4
      have hk04:=hk2.trans hk24
      have hsl4:SL (fun b=>b < W.heap.size) w4 (.slice sa sl sc) (ownP n gs (t0::r)).1.2.2.2.1:=hsl.keep (kx_sub hk24 fun b h=>by rcases h with h | h <;> omega)
      have hone:=AR.one (a:=(ownP n gs (t0::r)).1) hsl4 haw hk04.size
      have e9:=Ext.alloc w4 (.cells #[.int .i64 (ownP n gs (t0::r)).1.1,.int .i64 (ownP n gs (t0::r)).1.2.1,.int .i64 (ownP n gs (t0::r)).1.2.2.1,.slice sa sl sc,.int .i64 (ownP n gs (t0::r)).1.2.2.2.2] 49)
      exact ⟨rfl,_,results_tmp (t:=4) rfl _ _ _,_,rfl,by rw [hlt]; exact hone,(hs4.ext e9).mono (by omega) (by omega),hk04.trans (Kx.of_ext e9)⟩
    · rw [if_neg hov] at hlt
      have hov':¬ (ownP n gs (t0::r)).2.1=vT n gs (t0::r):=hov
      have hch:chL n (t0::r) ≠ []:=fun h=>by
        have:=vT_eq gs hn.2 ht
        rw [if_pos h] at this
        exact hov this.symm
      generalize vT n gs (t0::r)=vv at hov' hvalue
      clear hov
      obtain ⟨c0,cs,hcs⟩:∃ c0 cs,chL n (t0::r)=c0::cs:=by
        cases h:chL n (t0::r) with
        | nil=>exact absurd h hch
        | cons a b=>exact ⟨a,b,rfl⟩
      have hcl:(c0::cs).length≤7:=by
        have:=chT_len (t0::r) n
        have h2:(chT (t0::r) n).length=(chL n (t0::r)).length:=List.length_map ..
        rw [h2,hcs] at this
        omega
      rw [hcs] at hlt
      have hkid:∀ c∈c0::cs,isB n (c::t0::r):=fun c hc=>isB_kid ht (by rw [hcs]; exact hc)
      have hc0:0 < (c0::cs).length:=by simp
      generalize c0::cs=L at hcs hcl hlt hkid hc0
      have hL:(L.map (·::t0::r)).length=L.length:=by simp
      gi_wp2_with (first
        | (gi_at_call 65; refine (callsIn_wide.2 c65).mono ?_; rintro e w2 ⟨av,rfl,hav,hs2,hk2⟩
           obtain ⟨sv,rfl,hsl,haw⟩:=hav
           obtain ⟨sa,sl,sc,rfl⟩:∃ sa sl sc,sv=.slice sa sl sc:=hsl.slice
           have ex5:=own_store5 (w:=w2) (v0:=.int .i64 (ownP n gs (t0::r)).1.1) (v1:=.int .i64 (ownP n gs (t0::r)).1.2.1) (v2:=.int .i64 (ownP n gs (t0::r)).1.2.2.1) (v3:=.slice sa sl sc) (v4:=.int .i64 (ownP n gs (t0::r)).1.2.2.2.2)
           have nA:=own_new w2 #[.int .i64 0,.int .i64 0,.int .i64 0,.slice none 0 0,.int .i64 0] 49
           simp only at ex5
           obtain ⟨wA,hwA⟩:∃ wA,w2.alloc (.cells #[.int .i64 0,.int .i64 0,.int .i64 0,.slice none 0 0,.int .i64 0] 49)=wA:=⟨_,rfl⟩
           rw [hwA] at ex5 nA
           have n5:=own_set5 (u0:=.int .i64 (ownP n gs (t0::r)).1.1) (u1:=.int .i64 (ownP n gs (t0::r)).1.2.1) (u2:=.int .i64 (ownP n gs (t0::r)).1.2.2.1) (u3:=.slice sa sl sc) (u4:=.int .i64 (ownP n gs (t0::r)).1.2.2.2.2) nA
           have a0:=nA.cell (i:=0) (by simp)
           have a1:=nA.cell (i:=1) (by simp)
           have a2:=nA.cell (i:=2) (by simp)
           have a3:=nA.cell (i:=3) (by simp)
           have a4:=nA.cell (i:=4) (by simp)
           simp at a0 a1 a2 a3 a4
           have az:=nA.frozen
           have hti2:=hti.keep hk2 hx
           obtain ⟨gv2,bv2,hB2,_,_⟩:=id hs2.cell
           have hBlt2:B < w2.heap.size:=(Array.getElem?_eq_some_iff.1 hB2).1
           have hMv2:=hs2.votes.lt
           have hMw2:=hs2.vals.lt)
        | (gi_at_call 48; refine (callsIn_wide.2 (hvalue _ (hs2.ext ex5) (fun b h=>Nat.lt_of_lt_of_le (hXl b h) (Nat.le_trans hk2.size ex5.size)) (hti2.keep (Kx.of_ext (X:=fun _=>False) ex5) id))).mono ?_; rintro e w4 ⟨rfl,hs4,hk4⟩
           obtain ⟨gv4,bv4,hB4,_,_⟩:=id hs4.cell
           have hk24:Kx (Xm Mv Mw) w2 w4:=(Kx.of_ext ex5).trans hk4
           have hk04:=hk2.trans hk24
           have hti4:=hti2.keep hk24 hx
           have hMv4:=hs4.votes.lt
           have hMw4:=hs4.vals.lt)
        | (gi_at_call 66; refine (callsIn_wide.2 (children_ok ⟨by omega,hn.2⟩ hB4 ht hti4)).mono ?_; rintro e w5 ⟨ov,rfl,hll,he5⟩
           rw [hcs] at hll
           obtain ⟨g,cap,rfl,hg1,hcap,hget⟩:=hll.get hL hc0
           have hs5:=hs4.ext he5))
      refine wpIn_wide.2 (loop_inv (R:=fun m a w=>∃ (i:Nat) (ov:Value),i≤L.length∧m=L.length - i∧(∃ Y:Nat→Prop,(∀ b,b < W.heap.size→Y b→X b)∧(∀ b,X b→Y b)∧(∀ b,Y b→b < w.heap.size)∧(∀ b,ov.ownBlock=some b→Y b)∧SX Y n gs F B Mv Mw (nv+1+V8+A * i) (nw+V8+A * i) w)∧Kx (Xm Mv Mw) W w∧LL w4.heap.size (.slice (some ⟨g,0,none⟩) L.length cap) (L.map (·::t0::r)) w∧AR W.heap.size ov (lTs n gs (t0::r) (L.take i)) w∧FrL1 B (.slice (some ⟨tb,off,none⟩) (r.length+1) tc) ov (.slice (some ⟨g,0,none⟩) L.length cap) L.length i a) (m:=L.length) ?step1 ?init1)
      case init1=>exact ⟨0,_,by omega,by omega,⟨X,fun _ _ h=>h,fun _ h=>h,fun b h=>Nat.lt_of_lt_of_le (hXl b h) (Nat.le_trans hk04.size he5.size),(fun b h=>by cases h),hs5.mono (by omega) (by omega)⟩,hk04.trans (Kx.of_ext he5),hll,AR.nil _ _,FrL1.mk⟩
      case step1 =>
        rintro m a w ⟨i,ov,hi,rfl,⟨Y,hYX,hXY,hYl,hYo,hsw⟩,hkW,hllw,har,hfr⟩
        refine hfr.elim ?_
        intro x2 x3 x4 x5 x6 x8 x9 x10 x11 x12 x13 x14 x15 x16 x17 x18 x19 x20 x21 x22 x23 x24 x28 x29 x30 x31 x32 x33 x34 x35 x36 x37 hfe
        subst hfe
        refine (wpIn_wide (n:=0)).1 ?_
        rcases Nat.lt_or_ge i L.length with hlt2 | hge
        · have hlt':(i:Int) < (L.length:Int):=by omega
          have hwi:IntKind.i64.wrap ((i:Int)+1)=((i+1:Nat):Int):=by rw [hin _ (by omega) (by omega)]; omega
          obtain ⟨cv,cb,hc,hkv,hbv⟩:=hget w hllw i (by rw [hL]; omega)
          rw [List.getElem_map] at hkv
          have hxv:¬ Xm Mv Mw cb:=by rintro (h | h) <;> omega
          have hkb:=hkid _ (List.getElem_mem hlt2)
          have hm7:A * i≤A * 6:=Nat.mul_le_mul_left _ (by omega)
          have hms:A * (i+1)=A * i+A:=Nat.mul_succ _ _
          have c38:=ih (L[i]::t0::r) hkb (by simp) (by rw [List.length_cons]; omega) (by omega) (nv:=nv+1+V8+A * i) (nw:=nw+V8+A * i) (by omega) (by omega) hsw hYl hkv.si hxv
          have hlen1:=lTs_len hn.2 gs (t0::r) (L.take i) fun c hc=>hkid c (List.mem_of_mem_take hc)
          have hlen2:=lT_len hn.2 gs hkb
          have hne:=lT_ne gs hn.2 8 (L[i]::t0::r) hkb (by rw [List.length_cons,List.length_cons]; omega)
          have htk:L.take (i+1)=L.take i++[L[i]]:=(List.take_append_getElem hlt2).symm
          have hsn:=lTs_snoc n gs (t0::r) (L.take i) L[i]
          rw [← htk] at hsn
          rw [List.length_take,Nat.min_eq_left hi] at hlen1
          have hlen3:(lTs n gs (t0::r) (L.take i)).length≤7 * 823543:=Nat.le_trans hlen1 (Nat.mul_le_mul_right _ (by omega))
          gi_wp2_with (first
            | (gi_at_call 38; refine (callsIn_wide.2 c38).mono ?_; rintro e w7 ⟨nv7,rfl,har7,hs7,hk7⟩
               obtain ⟨g7,cap7,rfl,hg7,_⟩:=har7.row hne
               have harw:=har.keep hk7 fun b h=>by rcases h with h | h <;> omega
               obtain ⟨v8,w8,hr8,har8,hgr8,hob8⟩:=AR.append harw har7 hkW.size (Nat.le_trans hkW.size hk7.size) (by omega))
            | (gi_at_builtin; refine wpListIn_append_known rfl _ _ 36 rfl rfl rfl hr8 ?_))
          have hWw:W.heap.size≤w.heap.size:=hkW.size
          have hllw7:LL w4.heap.size (.slice (some ⟨g,0,none⟩) L.length cap) (L.map (·::t0::r)) w7:=hllw.keep hk7 fun b h=>by rcases h with h | h <;> omega
          have hown8:∀ b,ov.ownBlock=some b→W.heap.size≤b:=fun b e=>by
            obtain ⟨_,_,hro,_⟩:=harw
            exact (hro.lt b e).1
          have hll8:LL w4.heap.size (.slice (some ⟨g,0,none⟩) L.length cap) (L.map (·::t0::r)) w8:=by
            obtain ⟨_,_,hro,_⟩:=harw
            exact hllw7.grown hro hgr8
          have hZ:Kx (fun b=>ov.ownBlock=some b) w7 w8:=⟨hgr8.os,hgr8.tape,hgr8.output,hgr8.size,fun b hb hx=>hgr8.block b hb fun e=>hx e.symm⟩
          have hZm:∀ b,Xm Mv Mw b→¬ ov.ownBlock=some b:=fun b h e=>by
            have:=hown8 b e
            rcases h with h | h <;> omega
          have hs8:∃ Y8:Nat→Prop,(∀ b,b < W.heap.size→Y8 b→X b)∧(∀ b,X b→Y8 b)∧(∀ b,Y8 b→b < w8.heap.size)∧(∀ b,v8.ownBlock=some b→Y8 b)∧SX Y8 n gs F B Mv Mw (nv+1+V8+A * i+A) (nw+V8+A * i+A) w8:=by
            rcases hob8 with e | e
            · exact ⟨Y,hYX,hXY,fun b h=>Nat.lt_of_lt_of_le (hYl b h) (Nat.le_trans hk7.size hgr8.size),fun b h=>hYo b (e ▸ h),hs7.keep hZ hYo hZm⟩
            · have hlt8:w7.heap.size < w8.heap.size:=by
                obtain ⟨_,_,hro,_⟩:=har8
                exact (hro.lt _ e).2
              refine ⟨fun b=>Y b∨b=w7.heap.size,fun b hb h=>?_,fun b h=>.inl (hXY b h),fun b h=>?_,fun b h=>?_,?_⟩
              · rcases h with h | h
                · exact hYX b hb h
                · have:=hk7.size; omega
              · rcases h with h | h
                · exact Nat.lt_of_lt_of_le (hYl b h) (Nat.le_trans hk7.size hgr8.size)
                · omega
              · rw [e] at h
                exact .inr (Option.some.inj h).symm
              · exact (hs7.weak (Y:=fun b=>Y b∨b=w7.heap.size) (fun b hb h1 h2=>by rcases h2 with h2 | h2; exact h1 h2; omega) fun b h=>.inl (hs7.xm b h)).keep hZ (fun b h=>.inl (hYo b h)) hZm
          obtain ⟨Y8,y1,y2,y3,y4,y5⟩:=hs8
          refine ⟨L.length - (i+1),by omega,i+1,v8,by omega,rfl,⟨Y8,y1,y2,y3,y4,y5.mono (by omega) (by omega)⟩,kx_grow (hkW.trans hk7) hgr8 hown8,hll8,by rw [hsn]; exact har8,FrL1.mk⟩
        · obtain rfl:i=L.length:=by omega
          have hge':¬ ((L.length:Nat):Int) < (L.length:Int):=by omega
          have hm7:A * L.length≤A * 7:=Nat.mul_le_mul_left _ (by omega)
          rw [List.take_length] at har
          gi_wp2
          exact ⟨rfl,_,results_tmp (t:=4) rfl _ _ _,_,rfl,(by first | exact har | (rw [hlt]; exact har)),(hsw.weak (fun b hb h1 h2=>h1 (hXY b h2)) hs.xm).mono (by omega) (by omega),hkW⟩
end Go.Proofs.YtieoleabnjdkfaaGreat
set_option linter.unusedSimpArgs false
set_option linter.unusedVariables false
set_option linter.unnecessarySimpa false
namespace Go.Proofs.YtieoleabnjdkfaaGreat
open Go Go.Proofs Go.RowKit Go.X
attribute [local go_sem] Oper.semAt_some
def RI (n:Nat) (gs:List Grp) (F:Nat→Prop) (w0:Int) (gv wv:Value) (M:Nat) (w4:World) (m:Nat) (a:Act) (w:World):Prop:=∃ (i:Nat) (ov:Value),i≤n∧m=n - i∧(∃ Y:Nat→Prop,(∀ b,Xm M (M+1) b→Y b)∧(∀ b,Y b→b < w.heap.size)∧(∀ b,ov.ownBlock=some b→Y b)∧SX Y n gs F (M+2) M (M+1) (268435456 * i) (268435456 * i) w)∧Kx (Xm M (M+1)) w4 w∧AR w4.heap.size ov (setTo n gs w0 i).2 w∧FrI1 gv wv ov (M+2) n i a
theorem setTo_ne {n:Nat} (hn:n≤7) (h2:2≤n) (gs:List Grp) {wn:Int}:(setTo n gs wn n).2 ≠ []:=by
  have hc:∃ c:Nat,c < n∧(c:Int) ≠ wn:=by
    by_cases h:(0:Int)=wn
    · exact ⟨1,by omega,by omega⟩
    · exact ⟨0,by omega,h⟩
  obtain ⟨c,hcn,hcw⟩:=hc
  have hne:=lT_ne gs hn 8 [(c:Int)] (isB_one hcn) (by simp; omega)
  obtain ⟨a,ha⟩:∃ a,a∈lT n gs [(c:Int)]:=by
    cases h:lT n gs [(c:Int)] with
    | nil=>exact absurd h hne
    | cons x y=>exact ⟨x,by simp⟩
  have:=(setTo_list gs wn (a:=a) n).2 ⟨c,hcn,hcw,ha⟩
  intro h
  rw [h] at this
  cases this
set_option maxRecDepth 100000 in
set_option maxHeartbeats 8000000 in
theorem assert_irv {c:Con} {gs:List Grp} {ws:List Int} (hgs:GsOK gs) {F:Nat→Prop} {W:World} {cv gv wv:Value} (hc:CA F W cv c) (hg:GA F W gv gs) (hw:WA F W wv ws) (hb:((fitB c && pileB (c.2.1.length:Int) gs) && decide (isB (c.2.1.length:Int) ws))=true) (hns:¬ (c.2.1.length:Int)≤c.2.2.2.1) (hws:(ws.length:Int)=c.2.2.2.1) (hm:c.2.2.1=1) (hb0:¬ (setP c.2.1.length gs (ws.getD 0 0)).1=0) :
    Calls Tryz.prog 15 #[cv,gv,wv] W fun e W'=>∃ v,e=.returned (.tuple #[v,.bool (derP c gs ws).2])∧AR W.heap.size v (derP c gs ws).1 W'∧Ext W W':=by
  obtain ⟨nm,cs,m,s,z1,z2,z3,z4,z5⟩:=c
  dsimp only at hb hns hws hm hb0 hc
  subst hws
  subst hm
  have hcond:(fitB (nm,cs,1,(ws.length:Int),z1,z2,z3,z4,z5) && pileB (cs.length:Int) gs)=true∧isB (cs.length:Int) ws:=by
    obtain ⟨h1,h2⟩:=(Bool.and_eq_true _ _).mp hb
    exact ⟨h1,of_decide_eq_true h2⟩
  have hws1:ws.length=1:=by
    obtain ⟨hfit,hpb⟩:=(Bool.and_eq_true _ _).mp hcond.1
    obtain ⟨_,_,_,_,_,_,hirv⟩:=fit_n hfit
    have:=hirv rfl
    dsimp only at this
    omega
  obtain ⟨hn1,hn7⟩:2≤cs.length∧cs.length≤7:=by
    obtain ⟨hfit,hpb⟩:=(Bool.and_eq_true _ _).mp hcond.1
    obtain ⟨_,hn7,hs1,_⟩:=fit_n hfit
    dsimp only at hn7 hs1
    omega
  have hp:PileOK (cs.length:Int) gs _:=(pileB_ok ((Bool.and_eq_true _ _).mp hcond.1).2).2.2
  have hder:derP (nm,cs,1,(ws.length:Int),z1,z2,z3,z4,z5) gs ws=(sortedP (setTo cs.length gs (ws.getD 0 0) cs.length).2,true):=by
    have hwb:=hcond.2.2 (ws.getD 0 0) (by rw [getD_get ws 0 (by omega)]; exact List.getElem_mem _)
    have hsp:(setP cs.length gs (ws.getD 0 0)).2=(setTo cs.length gs (ws.getD 0 0) cs.length).2:=by
      unfold setP
      rw [if_pos ⟨((Bool.and_eq_true _ _).mp hcond.1).2,hwb⟩]
    have hbd:=setP_bounds (n:=cs.length) gs (ws.getD 0 0)
    unfold derP
    rw [if_pos hcond,if_neg hns,if_pos rfl,if_pos rfl,if_neg (by dsimp only; omega)]
    dsimp only
    rw [hsp]
  have hbest:=(rfl:(setP cs.length gs (ws.getD 0 0)).1=(setP cs.length gs (ws.getD 0 0)).1)
  have hwn:wI (cs.length:Int):=w_id (by omega) (by omega)
  have hin:∀ c:Int,0≤c→c≤1000→IntKind.i64.wrap c=c:=fun c h0 h1=>w_id (by omega) (by omega)
  obtain ⟨hcl,s0,ca,cc,hcv⟩:=hc.shape
  try dsimp only at hcv
  obtain ⟨hwl,hww,wa,wc,hwv,hwc⟩:=hw.shape
  have hgv:∃ ga gl gc,gv=.slice ga gl gc:=by
    obtain ⟨_,_,a,len,cap,h,_⟩:=hg.rel.1
    exact ⟨a,len,cap,by simpa [vcells,Ty.agg] using h⟩
  obtain ⟨ga,gl,gc,rfl⟩:=hgv
  refine (callsIn_wide (n:=0)).1 (callsIn_of_wp Tryz.func15 rfl trivial ?_ rfl)
  simp only [Tryz.ntmps15,List.size_toArray,List.length_cons,List.length_nil,Nat.reduceAdd,Nat.reduceSub,Array.replicate_succ,Array.replicate_zero,List.push_toArray,List.append_toArray,List.nil_append,List.cons_append]
  have fd:Fence.wide.depth=none:=rfl
  have f36:Fence.wide.fn 36:=trivial
  have f18:Fence.wide.fn 18:=trivial
  have f37:Fence.wide.fn 37:=trivial
  have f38:Fence.wide.fn 38:=trivial
  have f23:Fence.wide.fn 23:=trivial
  have f39:Fence.wide.fn 39:=trivial
  have f41:Fence.wide.fn 41:=trivial
  subst hcv hwv
  have e1:=Ext.alloc W (.cells #[.string s0,.slice ca cs.length cc,.int .i64 1,.int .i64 (ws.length:Int),.int .i64 z1,.int .i64 z2,.int .i64 z3,.int .i64 z4,.int .i64 z5] 24)
  have n1:=own_new W #[.string s0,.slice ca cs.length cc,.int .i64 1,.int .i64 (ws.length:Int),.int .i64 z1,.int .i64 z2,.int .i64 z3,.int .i64 z4,.int .i64 z5] 24
  obtain ⟨w1,hw1⟩:∃ w1,W.alloc (.cells #[.string s0,.slice ca cs.length cc,.int .i64 1,.int .i64 (ws.length:Int),.int .i64 z1,.int .i64 z2,.int .i64 z3,.int .i64 z4,.int .i64 z5] 24)=w1:=⟨_,rfl⟩
  rw [hw1] at e1 n1
  have a0:=n1.cell (i:=0) (by simp)
  have a1:=n1.cell (i:=1) (by simp)
  have a2:=n1.cell (i:=2) (by simp)
  have a3:=n1.cell (i:=3) (by simp)
  have a4:=n1.cell (i:=4) (by simp)
  have a5:=n1.cell (i:=5) (by simp)
  have a6:=n1.cell (i:=6) (by simp)
  have a7:=n1.cell (i:=7) (by simp)
  have a8:=n1.cell (i:=8) (by simp)
  simp at a0 a1 a2 a3 a4 a5 a6 a7 a8
  have kA:Kx (fun _=>False) W w1:=Kx.of_ext e1
  have c36:=con36 hgs (hc.keep kA fun _ _ h=>h) (hg.keep kA fun _ _ h=>h) (hw.keep kA fun _ _ h=>h)
  try dsimp only at c36
  rw [hb] at c36
  obtain ⟨wb,wo,rfl,hwF,hwcell⟩:=hwc 0 (by omega)
  rw [Nat.add_zero] at hwcell
  have hwlt:wb < W.heap.size:=hw.lt wb hwF
  have hgt:(0:Int) < (ws.length:Int):=by omega
  generalize hw0:ws.getD 0 0=w0 at hwcell hbest hb0 hder
  have c18:=fun (w2:World) (he:Ext W w2)=>best_ok hwn hgs (hg.keep (Kx.of_ext (X:=fun _=>False) he) fun _ _ h=>h) (wn:=w0)
  generalize hbst:(setP cs.length gs w0).1=bst at hbest hb0
  have hbest:=hbst
  clear hbst
  clear hb hcond hwc hws1 hw0
  generalize hnn:cs.length=n at *
  gi_wp2_with (first
    | (gi_at_call 36; refine (callsIn_wide.2 c36).mono ?_; rintro e w2 ⟨rfl,he2⟩
       have n2:=n1.ext he2
       have b1:=n2.cell (i:=1) (by simp)
       have b2:=n2.cell (i:=2) (by simp)
       have b3:=n2.cell (i:=3) (by simp)
       simp at b1 b2 b3
       have d0:w2.cell? ⟨wb,wo,none⟩=some (.int .i64 w0):=(World.cell?_of_block (w:=W) (a:=⟨wb,wo,none⟩) ((e1.trans he2).block wb hwlt)).trans hwcell
       have c18':=c18 w2 (e1.trans he2)
       rw [Int.toNat_natCast,hbest] at c18')
    | (gi_at_call 18; refine (callsIn_wide.2 c18').mono ?_; rintro e w3 ⟨rfl,he3⟩
       have c37:=newSearch_ok (n:=n) ⟨by omega,by omega⟩ hgs (hg.keep (Kx.of_ext (X:=fun _=>False) ((e1.trans he2).trans he3)) fun _ _ h=>h))
    | (gi_at_call 37; refine (callsIn_wide.2 c37).mono ?_; rintro e w4 ⟨rfl,hs4,he4⟩))
  have e4:=((e1.trans he2).trans he3).trans he4
  have hs3:W.heap.size≤w3.heap.size:=((e1.trans he2).trans he3).size
  generalize hM:w3.heap.size=M at hs4 hs3
  refine wpIn_wide.2 (loop_inv (R:=RI n gs F w0 (.slice ga gl gc) (.slice (some ⟨wb,wo,none⟩) ws.length wc) M w4) (m:=n) ?step1 ?init1)
  case init1 =>
    refine ⟨0,_,by omega,by omega,⟨Xm M (M+1),fun _ h=>h,fun b h=>?_,(fun b h=>by cases h),hs4⟩,Kx.refl _ _,AR.nil _ _,FrI1.mk⟩
    rcases h with h | h
    · rw [h]; exact hs4.votes.lt
    · rw [h]; exact hs4.vals.lt
  case step1 =>
    clear n1 n2 a0 a1 a2 a3 a4 a5 a6 a7 a8 b1 b2 b3 c36 c37 c18 c18' hc hg hw kA hgs
    rintro m a w ⟨i,ov,hi,rfl,⟨Y,hXY,hYl,hYo,hsw⟩,hkw,har,hfr⟩
    refine hfr.elim ?_
    intro v hfe
    subst hfe
    refine (wpIn_wide (n:=0)).1 ?_
    have hMw:=hsw.votes.lt
    have hMw2:=hsw.vals.lt
    rcases Nat.lt_or_ge i n with hlt | hge
    · have hlt':(i:Int) < (n:Int):=by omega
      have hwi:IntKind.i64.wrap ((i:Int)+1)=((i+1:Nat):Int):=by rw [hin _ (by omega) (by omega)]; omega
      have dw:w.cell? ⟨wb,wo,none⟩=some (.int .i64 w0):=(World.cell?_of_block (w:=W) (a:=⟨wb,wo,none⟩) ((hkw.block wb (Nat.lt_of_lt_of_le hwlt e4.size) (by rintro (h | h) <;> omega)).trans (e4.block wb hwlt))).trans hwcell
      have hst:=setTo_succ n gs w0 i
      unfold setStep at hst
      by_cases hiw:(i:Int)=w0
      · subst hiw
        rw [if_pos rfl] at hst
        gi_wp2
        exact ⟨n - (i+1),by omega,i+1,ov,by omega,rfl,⟨Y,hXY,hYl,hYo,hsw.mono (by omega) (by omega)⟩,hkw,by rw [hst]; exact har,FrI1.mk⟩
      · rw [if_neg hiw] at hst
        have eA:=Ext.alloc w (.cells #[.int .i64 (i:Int)] 3)
        have hki:KI (w.alloc (.cells #[.int .i64 (i:Int)] 3)) (.slice (some ⟨w.heap.size,0,none⟩) 1 1) [(i:Int)] w.heap.size :=
          ⟨by simp,fun x hx=>by rw [List.mem_singleton.1 hx]; exact hin _ (by omega) (by omega),1,_,rfl,Nat.le_refl _,World.alloc_heap_new _ _,fun j hj=>by have:j=0:=(by simpa using hj); subst this; rfl⟩
        have c38:=listW_ok (n:=n) ⟨by omega,by omega⟩ hp 7 [(i:Int)] (isB_one hlt) (by simp) (by simp; omega) (by omega) (nv:=268435456 * i) (nw:=268435456 * i) (by omega) (by omega) (hsw.ext eA) (fun b h=>Nat.lt_of_lt_of_le (hYl b h) eA.size) hki.si (by rintro (h | h) <;> omega)
        have hlen1:=setTo_len hn7 gs w0 i (by omega)
        have hlen2:=lT_len hn7 gs (isB_one hlt)
        have hne:=lT_ne gs hn7 8 [(i:Int)] (isB_one hlt) (by simp; omega)
        have hlen3:(setTo n gs w0 i).2.length≤7 * 823543:=Nat.le_trans hlen1 (Nat.mul_le_mul_right _ (by omega))
        have hM4:M+1 < w4.heap.size:=hs4.vals.lt
        have harA:=har.ext eA
        have hkA:=hkw.trans (Kx.of_ext (X:=Xm M (M+1)) eA)
        have hbase:w4.heap.size≤(w.alloc (.cells #[.int .i64 (i:Int)] 3)).heap.size:=hkA.size
        clear hlen1 har hbest hb0 hns hder
        gi_wp2_with (first
          | (gi_at_call 38; refine (callsIn_wide.2 c38).mono ?_; rintro e w7 ⟨nv7,rfl,har7,hs7,hk7⟩
             obtain ⟨g7,cap7,rfl,hg7,_⟩:=har7.row hne
             have harw:=harA.keep hk7 fun b h=>by rcases h with h | h <;> omega
             obtain ⟨v8,w8,hr8,har8,hgr8,hob8⟩:=AR.append harw har7 hbase (Nat.le_trans hbase hk7.size) (by omega))
          | (gi_at_builtin; refine wpListIn_append_known rfl _ _ 36 rfl rfl rfl hr8 ?_))
        have hown8:∀ b,ov.ownBlock=some b→w4.heap.size≤b:=fun b e=>by
          obtain ⟨_,_,hro,_⟩:=harw
          exact (hro.lt b e).1
        have hZ:Kx (fun b=>ov.ownBlock=some b) w7 w8:=⟨hgr8.os,hgr8.tape,hgr8.output,hgr8.size,fun b hb hx=>hgr8.block b hb fun e=>hx e.symm⟩
        have hZm:∀ b,Xm M (M+1) b→¬ ov.ownBlock=some b:=fun b h e=>by
          have:=hown8 b e
          rcases h with h | h <;> omega
        have hYl7:∀ b,Y b→b < w7.heap.size:=fun b h=>Nat.lt_of_lt_of_le (hYl b h) (Nat.le_trans eA.size hk7.size)
        have hs8:∃ Y8:Nat→Prop,(∀ b,Xm M (M+1) b→Y8 b)∧(∀ b,Y8 b→b < w8.heap.size)∧(∀ b,v8.ownBlock=some b→Y8 b)∧SX Y8 n gs F (M+2) M (M+1) (268435456 * i+16 ^ 7) (268435456 * i+16 ^ 7) w8:=by
          rcases hob8 with e | e
          · exact ⟨Y,hXY,fun b h=>Nat.lt_of_lt_of_le (hYl7 b h) hgr8.size,fun b h=>hYo b (e ▸ h),hs7.keep hZ hYo hZm⟩
          · have hlt8:w7.heap.size < w8.heap.size:=by
              obtain ⟨_,_,hro,_⟩:=har8
              exact (hro.lt _ e).2
            refine ⟨fun b=>Y b∨b=w7.heap.size,fun b h=>.inl (hXY b h),fun b h=>?_,fun b h=>?_,?_⟩
            · rcases h with h | h
              · exact Nat.lt_of_lt_of_le (hYl7 b h) hgr8.size
              · omega
            · rw [e] at h
              exact .inr (Option.some.inj h).symm
            · exact (hs7.weak (Y:=fun b=>Y b∨b=w7.heap.size) (fun b hb h1 h2=>by rcases h2 with h2 | h2; exact h1 h2; omega) fun b h=>.inl (hs7.xm b h)).keep hZ (fun b h=>.inl (hYo b h)) hZm
        obtain ⟨Y8,y1,y2,y3,y4⟩:=hs8
        refine ⟨n - (i+1),by omega,i+1,v8,by omega,rfl,⟨Y8,y1,y2,y3,y4.mono (by omega) (by omega)⟩,kx_grow (hkA.trans hk7) hgr8 hown8,by rw [hst]; exact har8,FrI1.mk⟩
    · obtain rfl:i=n:=by omega
      have hge':¬ ((i:Nat):Int) < (i:Int):=by omega
      have hneF:=setTo_ne hn7 hn1 gs (wn:=w0)
      have hlbF:(setTo i gs w0 i).2.length≤7 * 823543:=Nat.le_trans (setTo_len hn7 gs w0 i (Nat.le_refl _)) (Nat.mul_le_mul_right _ (by omega))
      clear hbest hb0 hns hsw hYo
      generalize (setTo i gs w0 i).2=LL at har hneF hlbF hder
      obtain ⟨gF,capF,rfl,hgF,hgFl⟩:=har.row hneF
      obtain ⟨psF,hpsF,hplF,hagF⟩:=har.ag
      clear hplF har hneF
      subst hpsF
      simp only [List.length_map]
      rw [List.length_map] at hlbF
      have c39:=sort_ok hagF (by omega)
      gi_wp2_with (first
        | (gi_at_call 39; refine (callsIn_wide.2 c39).mono ?_; rintro e w8 ⟨rfl,qs,hperm,hsort,hag8,hk8⟩
           have c41:=compact_ok hag8 (by rw [hperm.length_eq]; omega)
           rw [hperm.length_eq] at c41)
        | (gi_at_call 41; refine (callsIn_wide.2 c41).mono ?_; rintro e w9 ⟨rfl,hag9,hk9⟩))
      have hcs:=comp_sorted rfl hperm (by first | exact hsort | exact fun i j a b=>Int.not_lt.2 (hsort i j a b))
      have hbl:W.heap.size≤w4.heap.size:=e4.size
      refine ⟨rfl,_,results_tmp2 (t:=6) (u:=7) rfl _ _ _,_,by (first | rfl | (rw [hder]; rfl)),?_,(ext_kx (ext_kx (ext_kx e4 hkw fun b h=>by rcases h with h | h <;> omega) hk8 fun b h=>by subst h; omega) hk9 fun b h=>by subst h; omega)⟩
      rw [hder,← hcs]
      exact hag9.ar.lower hbl
end Go.Proofs.YtieoleabnjdkfaaGreat
set_option linter.unusedSimpArgs false
set_option linter.unusedVariables false
set_option linter.unnecessarySimpa false
namespace Go.Proofs.YtieoleabnjdkfaaGreat
open Go Go.Proofs Go.RowKit Go.X
attribute [local go_sem] Oper.semAt_some
theorem con23 {n:Int} {gs:List Grp} (hgs:GsOK gs) {F:Nat→Prop} {W:World} {gv:Value} {x s:Int} (hn:wI n) (hx:wI x) (hs:wI (s+1)) (hg:GA F W gv gs) :
    Calls Tryz.prog 23 #[.int .i64 n,gv,.agg #[.int .i64 3,.int .i64 x,.int .i64 0,.slice none 0 0,.int .i64 (s+1)]] W fun e w'=>e=.returned (.bool (decide (1≤mrg n gs (quotaA x s))))∧Ext W w':=by
  have hwf:(stF F W).WF:=stF_wf hg.lt
  obtain ⟨a,ha'⟩:∃ a,a=quotaA x s:=⟨_,rfl⟩
  have hl:a.2.2.2.1=[]:=by rw [ha']; rfl
  obtain ⟨av,hav⟩:∃ av:Value,av=.agg #[.int .i64 3,.int .i64 x,.int .i64 0,.slice none 0 0,.int .i64 (s+1)]:=⟨_,rfl⟩
  have ha:AV (fun _=>False) W av a:=by rw [ha',hav]; exact ⟨_,rfl,.inl ⟨rfl,rfl⟩,(by decide:wI 3),hx,(by decide:wI 0),hs⟩
  have hno:∀ b,¬ AF av b:=fun b ⟨_,_,_,_,_,_,_,h⟩=>by rw [hav] at h; simp at h
  rw [← ha',← hav]
  refine Calls.mono (sim23.2 (n,gs,a,()) _ (d23_eq hgs (by rw [hl]; simp)) (stF F W) hwf [.int .i64 n,gv,av] rfl fun i e he=>?_) fun e w' ⟨v,S',h1,h2,h3,h4,_⟩=>?_
  · match i,he with
    | 0,he=>cases he; exact ⟨_,rfl,sr_int (.inl rfl) hn⟩
    | 1,he=>cases he; exact ⟨_,rfl,hg.sr fun b hb=>hb⟩
    | 2,he=>cases he; exact ⟨_,rfl,sr_av (S:=stF F W) ha fun b hb=>absurd hb (hno b)⟩
    | i+3,he=>cases he
  · subst h1 h2
    have h5:SR Tryz.prog .bool S' .sh (0,[0]) (decide ((tal n gs a).2 < (tal n gs a).1)) v:=h4
    have h6:=h5.1
    have h7:v=.bool (decide ((tal n gs a).2 < (tal n gs a).1)):=by simpa [Rel,vcells,Ty.agg] using h6
    have h8:decide ((tal n gs a).2 < (tal n gs a).1)=decide (1≤mrg n gs a):=by unfold mrg; exact decide_eq_decide.2 (by omega)
    exact ⟨by rw [h7,h8],frm_ext h3⟩
def RQ (k:Nat) (gs:List Grp) (ws:List Int) (gv wv:Value) (B:Nat) (w2:World) (m:Nat) (a:Act) (w:World):Prop:=∃ (i:Nat) (ov:Value),i≤ws.length∧m=ws.length - i∧Ext w2 w∧AR w2.heap.size ov ((ws.take i).map fun x=>quotaA x (ws.length:Int)) w∧((ws.take i).all fun x=>decide (1≤mrg (k:Int) gs (quotaA x (ws.length:Int))))=true∧FrI2 gv wv ov B k ws.length i a
set_option maxRecDepth 100000 in
set_option maxHeartbeats 8000000 in
theorem assert_quota {c:Con} {gs:List Grp} {ws:List Int} (hgs:GsOK gs) {F:Nat→Prop} {W:World} {cv gv wv:Value} (hc:CA F W cv c) (hg:GA F W gv gs) (hw:WA F W wv ws) (hb:((fitB c && pileB (c.2.1.length:Int) gs) && decide (isB (c.2.1.length:Int) ws))=true) (hns:¬ (c.2.1.length:Int)≤c.2.2.2.1) (hws:(ws.length:Int)=c.2.2.2.1) (hm:¬ c.2.2.1=1) :
    Calls Tryz.prog 15 #[cv,gv,wv] W fun e W'=>∃ v,e=.returned (.tuple #[v,.bool (derP c gs ws).2])∧AR W.heap.size v (derP c gs ws).1 W'∧Ext W W':=by
  obtain ⟨nm,cs,m,s,z1,z2,z3,z4,z5⟩:=c
  dsimp only at hb hns hws hm  hc
  subst hws
  have hcond:(fitB (nm,cs,m,(ws.length:Int),z1,z2,z3,z4,z5) && pileB (cs.length:Int) gs)=true∧isB (cs.length:Int) ws:=by
    obtain ⟨h1,h2⟩:=(Bool.and_eq_true _ _).mp hb
    exact ⟨h1,of_decide_eq_true h2⟩
  obtain ⟨hn1,hn7,hs1,hs5⟩:1≤cs.length∧cs.length≤7∧1≤(ws.length:Int)∧(ws.length:Int)≤5:=by
    obtain ⟨hfit,hpb⟩:=(Bool.and_eq_true _ _).mp hcond.1
    obtain ⟨h1,h2,h3,h4,_⟩:=fit_n hfit
    dsimp only at h1 h2 h3 h4
    exact ⟨h1,h2,h3,h4⟩
  have hwn:wI (cs.length:Int):=w_id (by omega) (by omega)
  have hder0:derP (nm,cs,m,(ws.length:Int),z1,z2,z3,z4,z5) gs ws=if (ws.all fun x=>decide (1≤mrg (cs.length:Int) gs (quotaA x (ws.length:Int))))=true then (sortedP (ws.map fun x=>quotaA x (ws.length:Int)),true) else ([],false):=by
    unfold derP
    rw [if_pos hcond,if_neg hns,if_pos rfl,if_neg hm]
  have hin:∀ c:Int,0≤c→c≤1000→IntKind.i64.wrap c=c:=fun c h0 h1=>w_id (by omega) (by omega)
  obtain ⟨hcl,s0,ca,cc,hcv⟩:=hc.shape
  try dsimp only at hcv
  obtain ⟨hwl,hww,wa,wc,hwv,hwc⟩:=hw.shape
  have hgv:∃ ga gl gc,gv=.slice ga gl gc:=by
    obtain ⟨_,_,a,len,cap,h,_⟩:=hg.rel.1
    exact ⟨a,len,cap,by simpa [vcells,Ty.agg] using h⟩
  obtain ⟨ga,gl,gc,rfl⟩:=hgv
  refine (callsIn_wide (n:=0)).1 (callsIn_of_wp Tryz.func15 rfl trivial ?_ rfl)
  simp only [Tryz.ntmps15,List.size_toArray,List.length_cons,List.length_nil,Nat.reduceAdd,Nat.reduceSub,Array.replicate_succ,Array.replicate_zero,List.push_toArray,List.append_toArray,List.nil_append,List.cons_append]
  have fd:Fence.wide.depth=none:=rfl
  have f36:Fence.wide.fn 36:=trivial
  have f18:Fence.wide.fn 18:=trivial
  have f37:Fence.wide.fn 37:=trivial
  have f38:Fence.wide.fn 38:=trivial
  have f23:Fence.wide.fn 23:=trivial
  have f39:Fence.wide.fn 39:=trivial
  have f41:Fence.wide.fn 41:=trivial
  subst hcv hwv
  have e1:=Ext.alloc W (.cells #[.string s0,.slice ca cs.length cc,.int .i64 m,.int .i64 (ws.length:Int),.int .i64 z1,.int .i64 z2,.int .i64 z3,.int .i64 z4,.int .i64 z5] 24)
  have n1:=own_new W #[.string s0,.slice ca cs.length cc,.int .i64 m,.int .i64 (ws.length:Int),.int .i64 z1,.int .i64 z2,.int .i64 z3,.int .i64 z4,.int .i64 z5] 24
  obtain ⟨w1,hw1⟩:∃ w1,W.alloc (.cells #[.string s0,.slice ca cs.length cc,.int .i64 m,.int .i64 (ws.length:Int),.int .i64 z1,.int .i64 z2,.int .i64 z3,.int .i64 z4,.int .i64 z5] 24)=w1:=⟨_,rfl⟩
  rw [hw1] at e1 n1
  have a0:=n1.cell (i:=0) (by simp)
  have a1:=n1.cell (i:=1) (by simp)
  have a2:=n1.cell (i:=2) (by simp)
  have a3:=n1.cell (i:=3) (by simp)
  have a4:=n1.cell (i:=4) (by simp)
  have a5:=n1.cell (i:=5) (by simp)
  have a6:=n1.cell (i:=6) (by simp)
  have a7:=n1.cell (i:=7) (by simp)
  have a8:=n1.cell (i:=8) (by simp)
  simp at a0 a1 a2 a3 a4 a5 a6 a7 a8
  have kA:Kx (fun _=>False) W w1:=Kx.of_ext e1
  have c36:=con36 hgs (hc.keep kA fun _ _ h=>h) (hg.keep kA fun _ _ h=>h) (hw.keep kA fun _ _ h=>h)
  try dsimp only at c36
  rw [hb] at c36
  have hwI:∀ i,i < ws.length→wI (ws.getD i 0):=fun i hi=>hww _ (by rw [getD_get ws 0 hi]; exact List.getElem_mem hi)
  clear hb hcond
  gi_wp2_with (first
    | (gi_at_call 36; refine (callsIn_wide.2 c36).mono ?_; rintro e w2 ⟨rfl,he2⟩
       have n2:=n1.ext he2
       have b1:=n2.cell (i:=1) (by simp)
       have b2:=n2.cell (i:=2) (by simp)
       have b3:=n2.cell (i:=3) (by simp)
       simp at b1 b2 b3))
  have e4:=e1.trans he2
  refine wpIn_wide.2 (loop_inv (R:=RQ cs.length gs ws (.slice ga gl gc) (.slice wa ws.length wc) W.heap.size w2) (m:=ws.length) ?step1 ?init1)
  case init1=>exact ⟨0,_,by omega,by omega,Ext.refl _,AR.nil _ _,rfl,FrI2.mk⟩
  case step1 =>
    clear a0 a1 a2 a3 a4 a5 a6 a7 a8 n1 kA c36 hc hm hns b1 b2 b3
    rintro m a w ⟨i,ov,hi,rfl,hew,har,hall,hfr⟩
    refine hfr.elim ?_
    intro v hfe
    subst hfe
    refine (wpIn_wide (n:=0)).1 ?_
    have hwz:w2.heap.size≤w.heap.size:=hew.size
    have hW2:W.heap.size≤w2.heap.size:=e4.size
    rcases Nat.lt_or_ge i ws.length with hlt | hge
    · have hlt':(i:Int) < (ws.length:Int):=by omega
      have hwi:IntKind.i64.wrap ((i:Int)+1)=((i+1:Nat):Int):=by rw [hin _ (by omega) (by omega)]; omega
      have hsq:IntKind.i64.wrap ((ws.length:Int)+1)=(ws.length:Int)+1:=hin _ (by omega) (by omega)
      obtain ⟨wb,wo,rfl,hwF,hwcell⟩:=hwc i hlt
      have hwlt:wb < W.heap.size:=hw.lt wb hwF
      have dw:w.cell? ⟨wb,wo+i,none⟩=some (.int .i64 (ws.getD i 0)):=(World.cell?_of_block (w:=W) (a:=⟨wb,wo+i,none⟩) ((hew.block wb (Nat.lt_of_lt_of_le hwlt hW2)).trans (e4.block wb hwlt))).trans hwcell
      have nB:=n2.ext hew
      have b3:=nB.cell (i:=3) (by simp)
      simp at b3
      have hxw:=hwI i hlt
      have htk:ws.take (i+1)=ws.take i++[ws.getD i 0]:=by rw [getD_get ws 0 hlt]; exact (List.take_append_getElem hlt).symm
      generalize hx:ws.getD i 0=x at dw hxw htk
      have ex5:=own_store5 (w:=w) (v0:=.int .i64 3) (v1:=.int .i64 x) (v2:=.int .i64 0) (v3:=.slice none 0 0) (v4:=.int .i64 ((ws.length:Int)+1))
      have nA:=own_new w #[.int .i64 0,.int .i64 0,.int .i64 0,.slice none 0 0,.int .i64 0] 49
      simp only at ex5
      obtain ⟨wA,hwA⟩:∃ wA,w.alloc (.cells #[.int .i64 0,.int .i64 0,.int .i64 0,.slice none 0 0,.int .i64 0] 49)=wA:=⟨_,rfl⟩
      rw [hwA] at ex5 nA
      have n5:=own_set5 (u0:=.int .i64 3) (u1:=.int .i64 x) (u2:=.int .i64 0) (u3:=.slice none 0 0) (u4:=.int .i64 ((ws.length:Int)+1)) nA
      have a0:=nA.cell (i:=0) (by simp)
      have a1:=nA.cell (i:=1) (by simp)
      have a2:=nA.cell (i:=2) (by simp)
      have a3:=nA.cell (i:=3) (by simp)
      have a4:=nA.cell (i:=4) (by simp)
      simp at a0 a1 a2 a3 a4
      have az:=nA.frozen
      have c23:=con23 (n:=(cs.length:Int)) (x:=x) (s:=(ws.length:Int)) hgs hwn hxw hsq (hg.keep (Kx.of_ext (X:=fun _=>False) ((e4.trans hew).trans ex5)) fun _ _ h=>h)
      have haw:AW (quotaA x (ws.length:Int)):=by unfold AW quotaA; exact ⟨(by decide:wI 3),hxw,(by decide:wI 0),hsq⟩
      by_cases hho:1≤mrg (cs.length:Int) gs (quotaA x (ws.length:Int))
      · rw [decide_eq_true hho] at c23
        gi_wp2_with (first
          | (gi_at_call 23; refine (callsIn_wide.2 c23).mono ?_; rintro e w6 ⟨rfl,he6⟩
             have n6:=n5.ext he6
             have d0:=n6.cell (i:=0) (by simp)
             have d1:=n6.cell (i:=1) (by simp)
             have d2:=n6.cell (i:=2) (by simp)
             have d3:=n6.cell (i:=3) (by simp)
             have d4:=n6.cell (i:=4) (by simp)
             simp at d0 d1 d2 d3 d4
             have he06:Ext w w6:=ex5.trans he6
             have hone:=AR.one (base:=w2.heap.size) (a:=quotaA x (ws.length:Int)) (sv:=.slice none 0 0) (w:=w6) (.inl ⟨rfl,rfl⟩) haw (Nat.le_trans hwz he06.size)
             have eB:=Ext.alloc w6 (.cells #[.int .i64 (quotaA x (ws.length:Int)).1,.int .i64 (quotaA x (ws.length:Int)).2.1,.int .i64 (quotaA x (ws.length:Int)).2.2.1,.slice none 0 0,.int .i64 (quotaA x (ws.length:Int)).2.2.2.2] 49)
             obtain ⟨v8,w8,hr8,har8,hgr8,hob8⟩:=AR.append ((har.ext he06).ext eB) hone (Nat.le_refl _) (Nat.le_trans hwz (he06.trans eB).size) (by simp; omega))
          | (gi_at_builtin; refine wpListIn_append_known rfl _ _ 36 rfl rfl rfl hr8 ?_))
        have hown8:∀ b,ov.ownBlock=some b→w2.heap.size≤b:=fun b e=>by
          obtain ⟨_,_,hro,_⟩:=har
          exact (hro.lt b e).1
        refine ⟨ws.length - (i+1),by omega,i+1,v8,by omega,rfl,ext_of_grown (hew.trans (he06.trans eB)) hgr8 hown8,by rw [htk,List.map_append]; exact har8,?_,FrI2.mk⟩
        rw [htk,List.all_append,hall,List.all_cons,List.all_nil,decide_eq_true hho]
        rfl
      · rw [decide_eq_false hho] at c23
        have hder:derP (nm,cs,m,(ws.length:Int),z1,z2,z3,z4,z5) gs ws=([],false):=by
          rw [hder0,if_neg]
          intro h
          have:=List.all_eq_true.1 h x (by rw [← hx,getD_get ws 0 hlt]; exact List.getElem_mem hlt)
          exact hho (of_decide_eq_true this)
        gi_wp2_with (first
          | (gi_at_call 23; refine (callsIn_wide.2 c23).mono ?_; rintro e w6 ⟨rfl,he6⟩))
        exact ⟨rfl,_,results_tmp2 (t:=6) (u:=7) rfl _ _ _,_,by (first | rfl | (rw [hder]; rfl)),(by rw [hder]; exact AR.nil _ _),(e4.trans hew).trans (ex5.trans he6)⟩
    · obtain rfl:i=ws.length:=by omega
      have hge':¬ ((ws.length:Nat):Int) < (ws.length:Int):=by omega
      rw [List.take_length] at har hall
      have hder:derP (nm,cs,m,(ws.length:Int),z1,z2,z3,z4,z5) gs ws=(sortedP (ws.map fun x=>quotaA x (ws.length:Int)),true):=by rw [hder0,if_pos hall]
      have hneF:(ws.map fun x=>quotaA x (ws.length:Int)) ≠ []:=by
        intro h
        have:=congrArg List.length h
        rw [List.length_map,List.length_nil] at this
        omega
      have hlbF:(ws.map fun x=>quotaA x (ws.length:Int)).length≤1000:=by simp; omega
      clear hall hder0
      obtain ⟨w4,hw4⟩:∃ w4,w2=w4:=⟨_,rfl⟩
      rw [hw4] at hew har hwz hW2 e4
      generalize (ws.map fun x=>quotaA x (ws.length:Int))=LL at har hneF hlbF hder
      obtain ⟨gF,capF,rfl,hgF,hgFl⟩:=har.row hneF
      obtain ⟨psF,hpsF,hplF,hagF⟩:=har.ag
      clear hplF har hneF
      subst hpsF
      simp only [List.length_map]
      rw [List.length_map] at hlbF
      have c39:=sort_ok hagF (by omega)
      gi_wp2_with (first
        | (gi_at_call 39; refine (callsIn_wide.2 c39).mono ?_; rintro e w8 ⟨rfl,qs,hperm,hsort,hag8,hk8⟩
           have c41:=compact_ok hag8 (by rw [hperm.length_eq]; omega)
           rw [hperm.length_eq] at c41)
        | (gi_at_call 41; refine (callsIn_wide.2 c41).mono ?_; rintro e w9 ⟨rfl,hag9,hk9⟩))
      have hcs:=comp_sorted rfl hperm (by first | exact hsort | exact fun i j a b=>Int.not_lt.2 (hsort i j a b))
      have hbl:W.heap.size≤w4.heap.size:=e4.size
      refine ⟨rfl,_,results_tmp2 (t:=6) (u:=7) rfl _ _ _,_,by (first | rfl | (rw [hder]; rfl)),?_,(ext_kx (ext_kx (e4.trans hew) hk8 fun b h=>by subst h; omega) hk9 fun b h=>by subst h; omega)⟩
      rw [hder,← hcs]
      exact hag9.ar.lower hbl
end Go.Proofs.YtieoleabnjdkfaaGreat
namespace Go.Proofs.YtieoleabnjdkfaaGreat
open Go Go.Proofs Go.RowKit Go.X
theorem assert_ok {c:Con} {gs:List Grp} {ws:List Int} (hgs:GsOK gs) {F:Nat→Prop} {W:World} {cv gv wv:Value} (hc:CA F W cv c) (hg:GA F W gv gs) (hw:WA F W wv ws) :
    Calls Tryz.prog 15 #[cv,gv,wv] W fun e W'=>∃ v,e=.returned (.tuple #[v,.bool (derP c gs ws).2])∧AR W.heap.size v (derP c gs ws).1 W'∧Ext W W':=by
  cases hb:((fitB c && pileB (c.2.1.length:Int) gs) && decide (isB (c.2.1.length:Int) ws)) with
  | false=>exact assert_bad hgs hc hg hw hb
  | true =>
    by_cases hns:(c.2.1.length:Int)≤c.2.2.2.1
    · exact assert_few hgs hc hg hw hb hns
    by_cases hws:(ws.length:Int)=c.2.2.2.1
    rotate_left
    · exact assert_len hgs hc hg hw hb hns hws
    by_cases hm:c.2.2.1=1
    · by_cases hb0:(setP c.2.1.length gs (ws.getD 0 0)).1=0
      · exact assert_zero hgs hc hg hw hb hns hws hm hb0
      · exact assert_irv hgs hc hg hw hb hns hws hm hb0
    · exact assert_quota hgs hc hg hw hb hns hws hm
end Go.Proofs.YtieoleabnjdkfaaGreat
set_option linter.unusedSimpArgs false
set_option linter.unusedVariables false
set_option linter.unnecessarySimpa false
namespace Go.Proofs.YtieoleabnjdkfaaGreat
open Go Go.Proofs Go.RowKit Go.X
theorem rel_asn {S:St} {p:X.Place} {a:Asn} {sv:Value} {cs:Cs} {base:Nat} (h0:cs 0=some (.int .i64 a.1)) (h1:cs 1=some (.int .i64 a.2.1)) (h2:cs 2=some (.int .i64 a.2.2.1)) (h3:cs 3=some sv) (h4:cs 4=some (.int .i64 a.2.2.2.2))
    (hs:SL (fun b=>b < base) S.w sv a.2.2.2.1) (hw:AW a) (hF:∀ b,base≤b→b < S.w.heap.size→(∃ cur,S.w.heap[b]? = some (.cells cur 3 (0,0)))→S.F b):Rel Tryz.prog y49 S .sh p a cs:=by
  obtain ⟨w0,w1,w2,w4⟩:=hw
  refine ⟨⟨h0,w0⟩,⟨h1,w1⟩,⟨h2,w2⟩,?_,⟨h4,w4⟩⟩
  rcases hs with ⟨rfl,e⟩ | ⟨b,hk,hb⟩
  · rw [e]
    exact ⟨by simp [maxL],by simp [Ty.size],none,0,0,h3,rfl,Nat.le_refl _,.inl ⟨rfl,rfl⟩⟩
  · have hlt:=hk.lt
    obtain ⟨k1,k2,k3⟩:=(sr_si (S:=S) (p:=p) (m:=.sh) (.inl rfl) hk.si (hF b (by omega) hlt (by obtain ⟨_,_,_,cur,_,_,hc,_⟩:=hk; exact ⟨cur,hc⟩))).1
    obtain ⟨A,l,c,k4,k5,k6,k7⟩:=k3
    refine ⟨k1,k2,A,l,c,?_,k5,k6,?_⟩
    · have:some sv=some (Value.slice A l c):=by simpa [vcells,Ty.agg] using k4
      rw [← this]; exact h3
    · exact k7.imp id fun ⟨b',o,e,h,k⟩=>⟨b',o,e,h,fun i hi=>(k i hi).fut (.inl rfl) ⟨fun _ h=>h,fun _ h _=>(by cases h),fun _ _=>rfl⟩ fun _ _=>rfl⟩
theorem sr_ar {S:St} {p:X.Place} {l:List Asn} {v:Value} {base:Nat} (h:AR base v l S.w) (hl:l.length≤10000000) (hv:S.hv p=v) (ho:∀ g,v.ownBlock=some g→S.own g=some p) (hF:∀ b,base≤b→b < S.w.heap.size→v.ownBlock ≠ some b→S.F b):SR Tryz.prog y36 S (.own 49 .sh) p l v:=by
  obtain ⟨ps,e,⟨hlen,hr⟩,hel⟩:=id h
  refine ⟨⟨Nat.le_trans hl (by decide),by simp [Ty.size],by rw [hv]; simp [vcells,Ty.agg],?_⟩,fun h=>by cases h⟩
  rcases hr with ⟨rfl,hz⟩ | ⟨g,cap,cur,rfl,r2,r3,r4,r5,r6,r7⟩
  · have:ps=[]:=List.length_eq_zero_iff.1 hz
    subst this
    exact .inl ⟨hv,e⟩
  · have hag:AG base g cap ps S.w:=⟨⟨hlen,.inr ⟨g,cap,cur,rfl,r2,r3,r4,r5,r6,r7⟩⟩,hel⟩
    have hrg:=hag.rg
    have hll:l.length=ps.length:=by rw [e,List.length_map]
    refine .inr ⟨g,cap,cur,by rw [hv,hll],ho g rfl,r3,by omega,r5,by rw [r6]; rfl,fun i hi=>?_⟩
    have hi':i < ps.length:=by omega
    have hel2:l[i]=(ps.getD i d0E).1:=by
      have:l[i]? = (ps.map (·.1))[i]?:=by rw [e]
      rw [List.getElem?_eq_getElem hi,List.getElem?_map,List.getElem?_eq_getElem hi'] at this
      rw [Option.some.inj this,List.getD_eq_getElem?_getD,List.getElem?_eq_getElem hi']
      rfl
    have hok:okE base S.w (ps.getD i d0E):=hrg.2.2 _ (by rw [List.getD_eq_getElem?_getD,List.getElem?_eq_getElem hi']; exact List.getElem_mem hi')
    rw [hel2]
    have hc:∀ j,j < 5→cur[i * 5+j]? = (AC (ps.getD i d0E).1 (ps.getD i d0E).2)[j]?:=fun j hj=>by
      have:=hrg.cell hi' (j:=j) hj
      rw [World.cell?,r3] at this
      simpa using this
    have h0:=hc 0 (by omega)
    have h1:=hc 1 (by omega)
    have h2:=hc 2 (by omega)
    have h3:=hc 3 (by omega)
    have h4:=hc 4 (by omega)
    refine rel_asn (base:=base) (sv:=(ps.getD i d0E).2) ?_ ?_ ?_ ?_ ?_ hok.1 hok.2 fun b q1 q2 q3=>hF b q1 q2 fun hb=>?_
    · simpa [Ty.size,AC] using h0
    · simpa [Ty.size,AC] using h1
    · simpa [Ty.size,AC] using h2
    · simpa [Ty.size,AC] using h3
    · simpa [Ty.size,AC] using h4
    · obtain ⟨cc,hcc⟩:=q3
      have:g=b:=by simpa [Value.ownBlock] using hb
      subst this
      rw [r3] at hcc
      simp at hcc
open Classical in
noncomputable def d18 (n:Int) (gs:List Grp) (wn:Int):Option Int:=if GsOK gs then some (setP n.toNat gs wn).1 else none
open Classical in
noncomputable def d15 (c:Con) (gs:List Grp) (ws:List Int):Option (List Asn × Bool):=if GsOK gs then some (derP c gs ws) else none
def sg15:Sig:=⟨[(y23,.bw),(y25,.bw),(y26,.bw)],[(y36,.own 49 .sh),(y4,.sh)]⟩
theorem ent15:Enters Tryz.prog 15:=enters_of Tryz.func15 (by kernel_rfl) rfl
theorem sim15:Sim Tryz.prog 15 sg15 d15:=by
  refine ⟨ent15,fun xs y hy S hS vs hvs hargs=>?_⟩
  obtain ⟨c,gs,ws,u⟩:=xs
  have hy0:d15 c gs ws=some y:=hy
  have hl:vs.length=3:=hvs
  obtain ⟨v0,v1,v2,rfl⟩:∃ v0 v1 v2,vs=[v0,v1,v2]:=by
    match vs,hl with
    | [a,b,c],_=>exact ⟨a,b,c,rfl⟩
  obtain ⟨q0,e0,r0⟩:=hargs 0 ⟨y23,.bw,c⟩ rfl
  obtain ⟨q1,e1,r1⟩:=hargs 1 ⟨y25,.bw,gs⟩ rfl
  obtain ⟨q2,e2,r2⟩:=hargs 2 ⟨y26,.bw,ws⟩ rfl
  obtain rfl:v0=q0:=by simpa using e0
  obtain rfl:v1=q1:=by simpa using e1
  obtain rfl:v2=q2:=by simpa using e2
  dsimp only at r0 r1 r2
  unfold d15 at hy0
  split at hy0
  · rename_i hgs
    have hyy:derP c gs ws=y:=Option.some.inj hy0
    have hlt:∀ b,S.F b∨S.B b→b < S.w.heap.size:=fun b hb=>hb.elim (fun h=>(hS.shared b h).2) fun h=>(hS.borrowed b h).2
    have hca:CA (fun b=>S.F b∨S.B b) S.w v0 c:=⟨⟨r0.1.fut (.inr rfl) ⟨fun b hb=>.inl hb,fun b _ hb=>.inl (.inr hb),fun b _=>rfl⟩ fun _ _=>rfl,r0.2⟩,hlt⟩
    have hga:GA (fun b=>S.F b∨S.B b) S.w v1 gs:=⟨⟨r1.1.fut (.inr rfl) ⟨fun b hb=>.inl hb,fun b _ hb=>.inl (.inr hb),fun b _=>rfl⟩ fun _ _=>rfl,r1.2⟩,hlt⟩
    have hwa:WA (fun b=>S.F b∨S.B b) S.w v2 ws:=⟨⟨r2.1.fut (.inr rfl) ⟨fun b hb=>.inl hb,fun b _ hb=>.inl (.inr hb),fun b _=>rfl⟩ fun _ _=>rfl,r2.2⟩,hlt⟩
    refine Calls.mono (assert_ok hgs hca hga hwa) fun e w' ⟨v,he,har,hx⟩=>?_
    have hdl:=derP_len c gs ws
    generalize derP c gs ws=dd at he har hdl hyy
    obtain ⟨dl,dok⟩:=dd
    subst hyy
    dsimp only at he har hdl
    have hnew:∀ b,v.ownBlock=some b→S.w.heap.size≤b∧b < w'.heap.size:=fun b hb=>by
      obtain ⟨_,_,hro,_⟩:=har
      exact hro.lt b hb
    have hown:∀ b,S.w.heap.size≤b→S.own b=none:=fun b hbb=>by
      cases h:S.own b with
      | none=>rfl
      | some p=>have:=hS.owned b p h; omega
    refine ⟨_,{ S with w:=w',F:=fun c=>S.F c∨(S.w.heap.size≤c∧c < w'.heap.size∧v.ownBlock ≠ some c),own:=fun b=>if v.ownBlock=some b then some (0,[0]) else S.own b,hv:=fun q=>if q=(0,[0]) then v else S.hv q },he,rfl,?_,⟨_,rfl,rfl,fun k e hk=>?_⟩,fun q e hq=>by cases hq⟩
    · refine ⟨fun _ h=>.inl h,rfl,fun c hc=>?_,fun c hc=>?_,fun c p hc=>?_,hx.os,hx.tape,hx.output,hx.size,fun c hc _=>hx.block c hc⟩
      · rcases hc with hc | ⟨h1,h2,h3⟩
        · have:=hS.shared c hc
          refine ⟨?_,Nat.lt_of_lt_of_le this.2 hx.size,.inl hc⟩
          show (if v.ownBlock=some c then some (0,[0]) else S.own c)=none
          rw [if_neg fun h=>by have:=(hnew c h).1; omega]
          exact this.1
        · refine ⟨?_,h2,.inr (.inl h1)⟩
          show (if v.ownBlock=some c then some (0,[0]) else S.own c)=none
          rw [if_neg h3]
          exact hown c h1
      · have:=hS.borrowed c hc
        show (if v.ownBlock=some c then some (0,[0]) else S.own c)=none
        rw [if_neg fun h=>by have:=(hnew c h).1; omega]
        exact this.1
      · have hc':(if v.ownBlock=some c then some (0,[0]) else S.own c)=some p:=hc
        by_cases h:v.ownBlock=some c
        · exact ⟨(hnew c h).2,.inl (hnew c h).1⟩
        · rw [if_neg h] at hc'
          exact ⟨Nat.lt_of_lt_of_le (hS.owned c p hc') hx.size,.inr (by rw [hc']; simp)⟩
    match k,hk with
    | 0,hk =>
      cases hk
      refine ⟨_,rfl,?_⟩
      show SR Tryz.prog y36 _ (.own 49 .sh) (0,[0]) dl v
      exact sr_ar (base:=S.w.heap.size) har (by omega) (by show (if ((0,[0]):X.Place)=(0,[0]) then v else S.hv (0,[0]))=v; exact if_pos rfl) (fun g hg=>by show (if v.ownBlock=some g then some ((0,[0]):X.Place) else S.own g)=some (0,[0]); exact if_pos hg) fun b h1 h2 h3=>.inr ⟨h1,h2,h3⟩
    | 1,hk =>
      cases hk
      refine ⟨_,rfl,?_⟩
      show SR Tryz.prog .bool _ .sh _ dok _
      exact ⟨by simp [Rel,vcells,Ty.agg],fun h=>by cases h⟩
    | k+2,hk=>cases hk
  · cases hy0
noncomputable def E15:FnE Tryz.prog:=⟨15,sg15,d15,sim15⟩
end Go.Proofs.YtieoleabnjdkfaaGreat
open Go Go.Proofs Go.X
namespace Go.Proofs.YtieoleabnjdkfaaGreat
set_option linter.unusedVariables false
set_option maxRecDepth 100000
noncomputable def d8:Option Bool :=
 (d30 2 [[0,1],[0,1],[0,1],[1,0],[1,0]]).bind fun r =>
 (d11 0 2 0 0 0).bind fun r_1 =>
 (d15 r_1 r.1 [0]).bind fun r_2 =>
 (d18 2 r.1 0).bind fun r_3 =>
 bif (decide (r_3=1)) then
  bif r_2.2 then
   bif (decide ((r_2.1.length:Int)=1)) then
    bif (decide (0≤0) && decide (0 < (r_2.1.length:Int))) then
     bif (decide ((List.getD r_2.1 0 (0,0,0,[],0)).1=1)) then
      bif (decide (0≤0) && decide (0 < (r_2.1.length:Int))) then
       bif (decide (((List.getD r_2.1 0 (0,0,0,[],0)).2).1=0)) then
        bif (decide (0≤0) && decide (0 < (r_2.1.length:Int))) then
         some (decide ((((List.getD r_2.1 0 (0,0,0,[],0)).2).2).1=1))
        else none
       else
        some false
      else none
     else
      some false
    else none
   else
    some false
  else
   some false
 else
  some false
noncomputable def d3 (p0:(List Int × (List (List Int) × (Int × (Int × (Int × (Int × (Int × (Int × Int))))))))) (p1:List (List Int × Int)) (p2:List Int) (p3:Bool) (p4:Int) (p5:List (List Int)):Option Bool :=
 letJ (fun ((t1,t2,t3,t4,t5,t6,t32):(List (List Int × Int)) × (List Int) × Bool × Int × (List (List Int)) × (List Int × (List (List Int) × (Int × (Int × (Int × (Int × (Int × (Int × Int)))))))) × Bool) =>
   bif t32 then
    (d8).bind fun r_1 =>
    some r_1
   else
    letJ (fun ((t1_2,t2_2,t6_2):(List (List Int × Int)) × (List Int) × (List Int × (List (List Int) × (Int × (Int × (Int × (Int × (Int × (Int × Int))))))))) =>
      (d15 t6_2 t1_2 t2_2).bind fun r_9 =>
      (d16 t6_2 t1_2 t2_2).bind fun r_10 =>
      bif (decide ((([0]:List Int).length:Int)+(t2_2.length:Int)≤LIM)) then
       bif (decide (0≤(w ((([0]++t2_2).length:Int) - 1))) && decide ((w ((([0]++t2_2).length:Int) - 1)) < (([0]++t2_2).length:Int))) then
        (d8).bind fun r_11 =>
        bif r_11 then
         bif (r_9.2 == r_10.2) then
          (d17 r_9.1 r_10.1).bind fun r_12 =>
          bif r_12 then
           (d18 (t6_2.2.1.length:Int) t1_2 (List.getD ([0]++t2_2) (Int.toNat (w ((([0]++t2_2).length:Int) - 1))) 0)).bind fun r_13 =>
           (d19 (t6_2.2.1.length:Int) t1_2 (List.getD ([0]++t2_2) (Int.toNat (w ((([0]++t2_2).length:Int) - 1))) 0)).bind fun r_14 =>
           some (decide (r_13=r_14))
          else
           some false
         else
          some false
        else
         some false
       else none
      else none) fun j__2 =>
    bif t3 then
     letJ (fun ((t1_1,t2_1,t6_1,t45):(List (List Int × Int)) × (List Int) × (List Int × (List (List Int) × (Int × (Int × (Int × (Int × (Int × (Int × Int)))))))) × Bool) =>
       bif t45 then
        (d8).bind fun r_3 =>
        some r_3
       else
        j__2 (t1_1,t2_1,t6_1)) fun j__1 =>
     bif (decide (4 < (t6.2.1.length:Int))) then
      (d9 (t6.2.1.length:Int) t1).bind fun r_2 =>
      j__1 (t1,t2,t6,r_2)
     else
      j__1 (t1,t2,t6,false)
    else
     (d10 t4 4).bind fun r_4 =>
     (d11 t6.2.2.1 (w (1+r_4)) t6.2.2.2.1 0 t6.2.2.2.2.2.2.1).bind fun r_5 =>
     (d13 t5 24).bind fun r_6 =>
     (d12 (w (1+r_4)) r_6 24).bind fun r_7 =>
     (d14 (w (1+r_4)) t2).bind fun r_8 =>
     bif (cutOK 0 (bif (decide (r_5.2.2.2.1 < (r_8.length:Int))) then r_5.2.2.2.1 else (r_8.length:Int)) r_8.length) then
      j__2 (r_7,(List.take (Int.toNat (bif (decide (r_5.2.2.2.1 < (r_8.length:Int))) then r_5.2.2.2.1 else (r_8.length:Int))) r_8),r_5)
     else none) fun j_ =>
 (d7 p1).bind fun r =>
 bif !(!r) then
  bif !(decide (9 < (p2.length:Int))) then
   j_ (p1,p2,p3,p4,p5,p0,(decide (9 < (p0.2.1.length:Int))))
  else
   j_ (p1,p2,p3,p4,p5,p0,true)
 else
  j_ (p1,p2,p3,p4,p5,p0,true)
noncomputable def d4 (p0:Int) (p1:List (List Int)) (p2:Int):Option Bool :=
 (d10 p0 3).bind fun r =>
 (d13 p1 20).bind fun r_1 =>
 (d12 (w (2+r)) r_1 20).bind fun r_2 =>
 (d10 p2 (w (2+r))).bind fun r_3 =>
 (d18 (w (2+r)) r_2 r_3).bind fun r_4 =>
 letJ (fun ((t0,t2,t7,t8,t32):Int × Int × (List (List Int × Int)) × Int × Bool) =>
   bif t32 then
    some false
   else
    (d21 t0 t7 (w (t8+1))).bind fun r_5 =>
    (d20 t0 t2 r_5).bind fun r_6 =>
    (d21 t0 t7 (bif (decide (t8 < 1)) then 1 else t8)).bind fun r_7 =>
    (d20 t0 t2 r_7).bind fun r_8 =>
    (d8).bind fun r_9 =>
    bif r_9 then
     bif r_6.2 then
      some (r_8.2 == (decide (t8=0)))
     else
      some false
    else
     some false) fun j_ =>
 bif !(decide (r_4 < 0)) then
  j_ ((w (2+r)),r_3,r_2,r_4,(decide (20 < r_4)))
 else
  j_ ((w (2+r)),r_3,r_2,r_4,true)
noncomputable def d5 (p0:Int) (p1:Int) (p2:Int) (p3:Int) (p4:List (List Int)) (p5:List Int):Option Bool :=
 (d10 p0 4).bind fun r =>
 (d11 p1 (w (1+r)) p2 0 p3).bind fun r_1 =>
 (d13 p4 24).bind fun r_2 =>
 (d12 (w (1+r)) r_2 24).bind fun r_3 =>
 (d22 p5 9).bind fun r_4 =>
 (d14 (w (1+r)) r_4).bind fun r_5 =>
 (d15 r_1 r_3 r_5).bind fun r_6 =>
 bif !r_6.2 then
  (d8).bind fun r_7 =>
  bif r_7 then
   some (decide ((r_6.1.length:Int)=0))
  else
   some false
 else
  (whileO (β:=(Int × (List Int) × (List Int × (List (List Int) × (Int × (Int × (Int × (Int × (Int × (Int × Int)))))))) × (List (List Int × Int)) × (List (Int × (Int × (Int × (List Int × Int))))) × Int) ⊕ Bool) (fun ((t0,t5,t13,t14,t15,t17,t18):Int × (List Int) × (List Int × (List (List Int) × (Int × (Int × (Int × (Int × (Int × (Int × Int)))))))) × (List (List Int × Int)) × (List (Int × (Int × (Int × (List Int × Int))))) × Int × Int) =>
    bif (decide (t18 < (t15.length:Int))) then
     letJ (fun ((t0_1,t5_1,t13_1,t14_1,t15_1,t17_1,t18_1,t80):Int × (List Int) × (List Int × (List (List Int) × (Int × (Int × (Int × (Int × (Int × (Int × Int)))))))) × (List (List Int × Int)) × (List (Int × (Int × (Int × (List Int × Int))))) × Int × Int × Bool) =>
       bif t80 then
        some (Sum.inr (Sum.inr false))
       else
        bif (decide (0≤t18_1) && decide (t18_1 < (t15_1.length:Int))) then
         (d25 t0_1 t14_1 (List.getD t15_1 (Int.toNat t18_1) (0,0,0,[],0))).bind fun r_10 =>
         some (Sum.inl (t0_1,t5_1,t13_1,t14_1,t15_1,(bif (decide (r_10 < t17_1)) then r_10 else t17_1),(w (t18_1+1))))
        else none) fun j_ =>
     bif (decide (0≤t18) && decide (t18 < (t15.length:Int))) then
      (d23 t0 t14 (List.getD t15 (Int.toNat t18) (0,0,0,[],0))).bind fun r_8 =>
      bif !(!r_8) then
       bif (decide (0 < t18)) then
        bif (decide (0≤(w (t18 - 1))) && decide ((w (t18 - 1)) < (t15.length:Int))) then
         bif (decide (0≤t18) && decide (t18 < (t15.length:Int))) then
          (d24 (List.getD t15 (Int.toNat (w (t18 - 1))) (0,0,0,[],0)) (List.getD t15 (Int.toNat t18) (0,0,0,[],0))).bind fun r_9 =>
          j_ (t0,t5,t13,t14,t15,t17,t18,(decide (0≤r_9)))
         else none
        else none
       else
        j_ (t0,t5,t13,t14,t15,t17,t18,false)
      else
       j_ (t0,t5,t13,t14,t15,t17,t18,true)
     else none
    else
     some (Sum.inr (Sum.inl (t0,t5,t13,t14,t15,t17)))) ((w (1+r)),r_5,r_1,r_3,r_6.1,100000,0)).bind fun
  | Sum.inl (t0_2,t5_2,t13_2,t14_2,t15_2,t17_2) =>
   (d26 t13_2 t5_2 t15_2).bind fun r_11 =>
   bif !r_11 then
    some false
   else
    (d8).bind fun r_12 =>
    bif r_12 then
     bif !(!(decide (t13_2.2.2.1=1))) then
      bif (decide ((t5_2.length:Int)=1)) then
       bif (decide (0≤0) && decide (0 < (t5_2.length:Int))) then
        (d18 t0_2 t14_2 (List.getD t5_2 0 0)).bind fun r_13 =>
        some (decide (t17_2=r_13))
       else none
      else
       some false
     else
      some true
    else
     some false
  | Sum.inr t12 =>
   some t12
noncomputable def d6 (p0:Int) (p1:Int) (p2:Int) (p3:Int) (p4:List (List Int)) (p5:List (List Int)) (p6:List Int):Option Bool :=
 (d10 p0 4).bind fun r =>
 (d11 p1 (w (1+r)) p2 0 p3).bind fun r_1 =>
 (d13 p4 24).bind fun r_2 =>
 (d12 (w (1+r)) r_2 24).bind fun r_3 =>
 (d22 p6 9).bind fun r_4 =>
 (d14 (w (1+r)) r_4).bind fun r_5 =>
 (d15 r_1 r_3 r_5).bind fun r_6 =>
 bif !r_6.2 then
  (d27).bind fun r_7 =>
  bif r_7 then
   some (decide ((r_6.1.length:Int)=0))
  else
   some false
 else
  (d28 r_1 r_5 r_6.1).bind fun r_8 =>
  bif !r_8 then
   some false
  else
   letJ (fun ((t6,t15,t17):(List Int) × (List Int × (List (List Int) × (Int × (Int × (Int × (Int × (Int × (Int × Int)))))))) × (List (Int × (Int × (Int × (List Int × Int)))))) =>
     (d27).bind fun r_10 =>
     bif r_10 then
      (d28 t15 t6 t17).bind fun r_11 =>
      some r_11
     else
      some false) fun j_ =>
   bif (decide (2≤(w (1+r)))) then
    (d29 (w (1+r)) p5).bind fun r_9 =>
    bif (decide ((r_6.1.length:Int)+(r_9.length:Int)≤LIM)) then
     j_ (r_5,r_1,(r_6.1++r_9))
    else none
   else
    j_ (r_5,r_1,r_6.1)
def sg6:Sig:=⟨[(y2,.sh),(y2,.sh),(y2,.sh),(y2,.sh),(y27,.sh),(y27,.bw),(y26,.sh)],[(y4,.sh)]⟩
def plan6:Plan:=(.seq (.reg [] []) (.seq (.reg [] []) (.seq (.reg [] []) (.seq (.reg [] []) (.seq (.reg [] []) (.seq (.reg [] [{},{},{},{},{ fl:=1 }]) (.seq (.seq (.reg [] []) (.cond (.seq (.reg [] []) .nil) .nil)) (.seq (.seq (.reg [] []) (.cond (.seq (.reg [] []) .nil) .nil)) (.join (.seq (.reg [] []) (.cond (.reg [] []) .nil)) [(6,.v y26 (.own 3 .sh)),(15,.v (.ptr y23) (.own 0 .sh)),(17,.v y36 (.own 49 .sh))] (.seq (.reg [] []) .nil))))))))))
theorem ev6 (xs:Vals (ptys sg6.ps)):evF (P:=Tryz.prog) tab [.fn E10,.fn E11,.fn E13,.fn E12,.fn E22,.fn E14,.fn E15,.fn E27,.fn E28,.fn E29] sg6 Tryz.f6.results.toList (code Tryz.f6) plan6 xs=d6 xs.1 xs.2.1 xs.2.2.1 xs.2.2.2.1 xs.2.2.2.2.1 xs.2.2.2.2.2.1 xs.2.2.2.2.2.2.1:=by kernel_rfl
theorem sim6:Sim Tryz.prog 6 sg6 d6:=sim_ev mixd tabOK Tryz.func6 (code_of rfl) Tryz.call6 (Nat.le_of_ble_eq_true (by kernel_rfl)) (by kernel_rfl) plan6 _ fun xs y h=>(ev6 xs).trans h
end Go.Proofs.YtieoleabnjdkfaaGreat
set_option linter.unusedSimpArgs false
set_option linter.unusedVariables false
open Go Go.Proofs Go.X
namespace Go.Proofs.YtieoleabnjdkfaaGreat
theorem d15_eq' {c:Con} {gs:List Grp} {ws:List Int} (hg:GsOK gs):d15 c gs ws=some (derP c gs ws):=by unfold d15; exact if_pos hg
theorem pile_at {n:Int} (h1:1≤n) (hn:n≤7) {x:List (List Int)} (hx:x.length≤281474976710656) (hw:∀ y∈x,WT (.slice (.int .i64)) y) {k:Nat} (hk:k≤100):∃ (gs:List Grp) (N:Int),(∀ {β:Type} (f:List Grp→Option β),((d13 x (k:Int)).bind fun r=>(d12 n r (k:Int)).bind f)=f gs)∧PileOK n gs N∧N≤k∧GsOK gs:=by
  have e12:d13 x (k:Int)=some (cuts x k):=d13_eq hx hw hk
  obtain ⟨cl,cw⟩:=cuts_wt (k:=k) hw
  have e11:d12 n (cuts x k) (k:Int)=some (pileOf (bals n (cuts x k) k)):=d12_eq (n:=n) h1 hn (by omega) cw (most:=k) hk
  have hbl:=bals_len (n:=n) (l:=cuts x k) (most:=k)
  have hbb:=bals_isB (n:=n) (by omega) (l:=cuts x k) (most:=k)
  have hp:=(pileOf_ok (bals n (cuts x k) k) hbb (by omega)).1
  refine ⟨_,_,fun f=>?_,hp,by omega,hp.gs hn⟩
  rw [e12,Option.bind_some,e11,Option.bind_some]
end Go.Proofs.YtieoleabnjdkfaaGreat
set_option linter.unusedSimpArgs false
set_option linter.unusedVariables false
open Go Go.Proofs Go.X
namespace Go.Proofs.YtieoleabnjdkfaaGreat
def bitL (s k:Nat):List Int:=(idL k).filter fun i=>s.testBit i.toNat
theorem bitL_len (s k:Nat):(bitL s k).length≤k:=by
  unfold bitL
  exact Nat.le_trans (List.length_filter_le _ _) (Nat.le_of_eq (idL_len k))
def addM (n:Nat) (gs:List Grp) (m:Int) (out:List Asn) (a:Asn):List Asn:=if m≤mrg n gs a then out++[a] else out
def stS (n:Nat) (gs:List Grp) (m:Int) (a b:Nat) (out:List Asn) (s:Nat):List Asn:=if s.testBit a && s.testBit b then addM n gs m out (2,(a:Int),(b:Int),bitL s n,0) else out
def evS (n:Nat) (gs:List Grp) (m:Int) (a b:Nat) (out:List Asn):Nat→List Asn
  | 0=>out
  | k+1=>stS n gs m a b (evS n gs m a b out k) k
def stB (n:Nat) (gs:List Grp) (m:Int) (a:Nat) (out:List Asn) (b:Nat):List Asn:=if a=b then out else evS n gs m a b (addM n gs m out (1,(a:Int),(b:Int),[],0)) (2 ^ n)
def evB (n:Nat) (gs:List Grp) (m:Int) (a:Nat) (out:List Asn):Nat→List Asn
  | 0=>out
  | k+1=>stB n gs m a (evB n gs m a out k) k
def evA (n:Nat) (gs:List Grp) (m:Int):Nat→List Asn
  | 0=>[]
  | k+1=>evB n gs m k (evA n gs m k) n
theorem addM_len (n:Nat) (gs:List Grp) (m:Int) (out:List Asn) (a:Asn):(addM n gs m out a).length≤out.length+1:=by
  unfold addM
  split <;> simp
theorem evS_len (n:Nat) (gs:List Grp) (m:Int) (a b:Nat) (out:List Asn):∀ k,(evS n gs m a b out k).length≤out.length+k
  | 0=>Nat.le_refl _
  | k+1=>by
    have ih:=evS_len n gs m a b out k
    show (stS n gs m a b (evS n gs m a b out k) k).length≤_
    unfold stS
    split
    · have:=addM_len n gs m (evS n gs m a b out k) (2,(a:Int),(b:Int),bitL k n,0); omega
    · omega
theorem evB_len (n:Nat) (gs:List Grp) (m:Int) (a:Nat) (out:List Asn):∀ k,(evB n gs m a out k).length≤out.length+k * (1+2 ^ n)
  | 0=>by simp [evB]
  | k+1=>by
    have ih:=evB_len n gs m a out k
    show (stB n gs m a (evB n gs m a out k) k).length≤_
    unfold stB
    rw [Nat.succ_mul]
    split
    · generalize 2 ^ n=P at ih ⊢
      generalize k * (1+P)=Q at ih ⊢
      omega
    · have h1:=addM_len n gs m (evB n gs m a out k) (1,(a:Int),(k:Int),[],0)
      have h2:=evS_len n gs m a k (addM n gs m (evB n gs m a out k) (1,(a:Int),(k:Int),[],0)) (2 ^ n)
      generalize 2 ^ n=P at ih h2 ⊢
      generalize k * (1+P)=Q at ih ⊢
      omega
theorem evA_len (n:Nat) (gs:List Grp) (m:Int):∀ k,(evA n gs m k).length≤k * (n * (1+2 ^ n))
  | 0=>by simp [evA]
  | k+1=>by
    have ih:=evA_len n gs m k
    have:=evB_len n gs m k (evA n gs m k) n
    show (evB n gs m k (evA n gs m k) n).length≤_
    rw [Nat.succ_mul]
    omega
theorem mem_addM {n:Nat} {gs:List Grp} {m:Int} {out:List Asn} {a x:Asn}:x∈addM n gs m out a↔x∈out∨(x=a∧m≤mrg n gs a):=by
  unfold addM
  split
  · rename_i h; simp [h]
  · rename_i h; simp [h]
theorem mem_evS {n:Nat} {gs:List Grp} {m:Int} {a b:Nat} {out:List Asn} {x:Asn}:∀ k,x∈evS n gs m a b out k↔x∈out∨∃ s:Nat,s < k∧s.testBit a=true∧s.testBit b=true∧x=(2,(a:Int),(b:Int),bitL s n,0)∧m≤mrg n gs x
  | 0=>by
    show x∈out↔_
    exact ⟨.inl,fun h=>h.elim id fun ⟨s,h,_⟩=>absurd h (Nat.not_lt_zero _)⟩
  | k+1=>by
    have ih:=mem_evS (n:=n) (gs:=gs) (m:=m) (a:=a) (b:=b) (out:=out) (x:=x) k
    show x∈stS n gs m a b (evS n gs m a b out k) k↔_
    unfold stS
    constructor
    · intro h
      split at h
      · rename_i hb
        rw [Bool.and_eq_true] at hb
        rcases mem_addM.1 h with h | ⟨hxe,hxm⟩
        · rcases ih.1 h with h | ⟨s,h1,h2⟩
          · exact .inl h
          · exact .inr ⟨s,by omega,h2⟩
        · exact .inr ⟨k,by omega,hb.1,hb.2,hxe,by rw [hxe]; exact hxm⟩
      · rcases ih.1 h with h | ⟨s,h1,h2⟩
        · exact .inl h
        · exact .inr ⟨s,by omega,h2⟩
    · intro h
      have hor:x∈evS n gs m a b out k∨(k.testBit a=true∧k.testBit b=true∧x=(2,(a:Int),(b:Int),bitL k n,0)∧m≤mrg n gs x):=by
        rcases h with h | ⟨s,h1,h2⟩
        · exact .inl (ih.2 (.inl h))
        · by_cases hk:s=k
          · subst hk; exact .inr h2
          · exact .inl (ih.2 (.inr ⟨s,by omega,h2⟩))
      rcases hor with h | ⟨h1,h2,rfl,h4⟩
      · split
        · exact mem_addM.2 (.inl h)
        · exact h
      · rw [if_pos (by rw [h1,h2]; rfl)]
        exact mem_addM.2 (.inr ⟨rfl,h4⟩)
def isE (n:Nat) (gs:List Grp) (m:Int) (a b:Nat) (x:Asn):Prop:=a ≠ b∧m≤mrg n gs x∧(x=(1,(a:Int),(b:Int),[],0)∨∃ s:Nat,s < 2 ^ n∧s.testBit a=true∧s.testBit b=true∧x=(2,(a:Int),(b:Int),bitL s n,0))
theorem mem_evB {n:Nat} {gs:List Grp} {m:Int} {a:Nat} {out:List Asn} {x:Asn}:∀ k,x∈evB n gs m a out k↔x∈out∨∃ b:Nat,b < k∧isE n gs m a b x
  | 0=>by
    show x∈out↔_
    exact ⟨.inl,fun h=>h.elim id fun ⟨s,h,_⟩=>absurd h (Nat.not_lt_zero _)⟩
  | k+1=>by
    have ih:=mem_evB (n:=n) (gs:=gs) (m:=m) (a:=a) (out:=out) (x:=x) k
    have hst:x∈evB n gs m a out (k+1)↔x∈evB n gs m a out k∨isE n gs m a k x:=by
      show x∈stB n gs m a (evB n gs m a out k) k↔_
      unfold stB isE
      split
      · rename_i h; simp [h]
      · rename_i hne
        rw [mem_evS,mem_addM]
        constructor
        · rintro ((h | ⟨rfl,h⟩) | ⟨s,h1,h2,h3,rfl,h5⟩)
          · exact .inl h
          · exact .inr ⟨hne,h,.inl rfl⟩
          · exact .inr ⟨hne,h5,.inr ⟨s,h1,h2,h3,rfl⟩⟩
        · rintro (h | ⟨_,h5,rfl | ⟨s,h1,h2,h3,rfl⟩⟩)
          · exact .inl (.inl h)
          · exact .inl (.inr ⟨rfl,h5⟩)
          · exact .inr ⟨s,h1,h2,h3,rfl,h5⟩
    rw [hst,ih]
    constructor
    · rintro ((h | ⟨b,h1,h2⟩) | h)
      · exact .inl h
      · exact .inr ⟨b,by omega,h2⟩
      · exact .inr ⟨k,by omega,h⟩
    · rintro (h | ⟨b,h1,h2⟩)
      · exact .inl (.inl h)
      · by_cases hb:b=k
        · subst hb; exact .inr h2
        · exact .inl (.inr ⟨b,by omega,h2⟩)
theorem mem_evA {n:Nat} {gs:List Grp} {m:Int} {x:Asn}:∀ k,x∈evA n gs m k↔∃ a b:Nat,a < k∧b < n∧isE n gs m a b x
  | 0=>by
    show x∈([]:List Asn)↔_
    exact ⟨fun h=>(by cases h),fun ⟨a,b,h,_⟩=>absurd h (Nat.not_lt_zero _)⟩
  | k+1=>by
    have ih:=mem_evA (n:=n) (gs:=gs) (m:=m) (x:=x) k
    show x∈evB n gs m k (evA n gs m k) n↔_
    rw [mem_evB,ih]
    constructor
    · rintro (⟨a,b,h1,h2,h3⟩ | ⟨b,h1,h2⟩)
      · exact ⟨a,b,by omega,h2,h3⟩
      · exact ⟨k,b,by omega,h1,h2⟩
    · rintro ⟨a,b,h1,h2,h3⟩
      by_cases ha:a=k
      · subst ha; exact .inr ⟨b,h2,h3⟩
      · exact .inl ⟨a,b,by omega,h2,h3⟩
theorem evA_short {n:Nat} (hn:n≤4) {gs:List Grp} {m:Int}:LOK (evA n gs m n)∧(evA n gs m n).length≤400:=by
  have hp2:2 ^ n≤16:=Nat.le_trans (Nat.pow_le_pow_right (by omega) hn) (by decide)
  have hbig:n * (1+2 ^ n)≤100:=Nat.le_trans (Nat.mul_le_mul hn (Nat.add_le_add_left hp2 1)) (by decide)
  have hl:(evA n gs m n).length≤400:=Nat.le_trans (evA_len n gs m n) (Nat.le_trans (Nat.mul_le_mul hn hbig) (by decide))
  refine ⟨⟨by omega,fun a ha=>?_⟩,hl⟩
  obtain ⟨i,j,_,_,_,_,rfl | ⟨s,_,_,_,rfl⟩⟩:=(mem_evA n).1 ha
  · simp
  · have:=bitL_len s n; simp only; omega
theorem bitL_set {n:Nat} (hn:n≤7) {t:List Int} (ht:isB n t):bitL (setN t) n=risL t:=by
  refine asc_uniq ((idL_lt n).filter _) (risL_lt t) ((List.perm_ext_iff_of_nodup (nodup_of_lt ((idL_lt n).filter _)) (nodup_of_lt (risL_lt t))).2 fun x=>?_)
  have hbit:=setN_bit (t:=t) fun x hx=>(ht.2 x hx).1
  rw [risL_mem,List.mem_filter]
  constructor
  · rintro ⟨h1,h2⟩
    obtain ⟨i,hi,rfl⟩:=List.mem_map.1 h1
    have hi':=List.mem_range.1 hi
    rw [Int.toNat_natCast,hbit i] at h2
    exact ⟨by omega,of_decide_eq_true h2⟩
  · rintro ⟨h1,h2⟩
    have hx:=ht.2 x h2
    obtain ⟨i,rfl⟩:∃ i:Nat,x=(i:Int):=⟨x.toNat,by omega⟩
    refine ⟨List.mem_map.2 ⟨i,List.mem_range.2 (by omega),rfl⟩,?_⟩
    rw [Int.toNat_natCast,hbit i]
    exact decide_eq_true h2
end Go.Proofs.YtieoleabnjdkfaaGreat
set_option linter.unusedSimpArgs false
set_option linter.unusedVariables false
open Go Go.Proofs Go.X
namespace Go.Proofs.YtieoleabnjdkfaaGreat
theorem nodup_len_as:∀ {m l:List Asn},m.Nodup→(∀ c∈m,c∈l)→m.length≤l.length
  | [],l,_,_=>by simp
  | c::m,l,hd,h=>by
    have hc:c∈l:=h c List.mem_cons_self
    have hd':=List.nodup_cons.1 hd
    have ih:=nodup_len_as (m:=m) (l:=l.erase c) hd'.2 fun x hx=>(List.mem_erase_of_ne (fun e=>hd'.1 (by rw [← e]; exact hx))).2 (h x (List.mem_cons_of_mem _ hx))
    rw [List.length_erase_of_mem hc] at ih
    have:0 < l.length:=List.length_pos_of_mem hc
    simp
    omega
theorem ascA_nodup {l:List Asn} (h:ascA l):l.Nodup:=h.imp fun {a b} hab e=>by rw [e,cmpA_refl] at hab; omega
theorem valid_in {n:Nat} (hn:n≤7) {gs:List Grp} {m:Int} {a:Asn} (hv:validB (n:Int) a=true) (hk:a.1=1∨a.1=2) (hm:m≤mrg n gs a):a∈evA n gs m n:=by
  have hw:=valid_who hv
  obtain ⟨k,A,B,l,q⟩:=a
  simp only at hw hk
  obtain ⟨i,rfl⟩:∃ i:Nat,A=(i:Int):=⟨A.toNat,by omega⟩
  obtain ⟨j,rfl⟩:∃ j:Nat,B=(j:Int):=⟨B.toNat,by omega⟩
  rw [mem_evA]
  rcases hk with rfl | rfl
  · have hvb:=hv
    unfold validB at hvb
    simp only [if_true,Bool.and_eq_true,decide_eq_true_eq] at hvb
    obtain ⟨_,⟨v1,v2⟩,v3⟩:=hvb
    have hl:l=[]:=List.eq_nil_of_length_eq_zero v2
    subst hl v3
    exact ⟨i,j,by omega,by omega,fun e=>v1 (by rw [e]),hm,.inl rfl⟩
  · obtain ⟨m1,m2,m3,m4⟩:=valid_next hv rfl
    simp only at m1 m2 m3 m4
    have hvb:=hv
    unfold validB at hvb
    simp only [if_true,if_false,show ¬ (2:Int)=1 by omega,Bool.and_eq_true,decide_eq_true_eq] at hvb
    obtain ⟨_,⟨⟨⟨v1,v2⟩,_⟩,_⟩,_⟩:=hvb
    subst v2
    have hB:isB (n:Int) l:=⟨nodup_of_lt m1,m2⟩
    have hbit:=setN_bit (t:=l) fun x hx=>(m2 x hx).1
    have hr:risL l=l:=asc_uniq (risL_lt l) m1 (risL_perm hn hB)
    refine ⟨i,j,by omega,by omega,fun e=>v1 (by rw [e]),hm,.inr ⟨setN l,?_,?_,?_,by rw [bitL_set hn hB,hr]⟩⟩
    · refine Nat.lt_pow_two_of_testBit _ fun k hk=>?_
      rw [hbit k]
      exact decide_eq_false fun h=>by have:=m2 _ h; omega
    · rw [hbit i]; exact decide_eq_true m3
    · rw [hbit j]; exact decide_eq_true m4
def minTo (n:Int) (gs:List Grp) (l:List Asn) (i:Nat):Int:=(l.take i).foldl (fun m a=>if mrg n gs a < m then mrg n gs a else m) 100000
theorem minTo_succ (n:Int) (gs:List Grp) (l:List Asn) {i:Nat} (hi:i < l.length):minTo n gs l (i+1)=if mrg n gs (l.getD i zA) < minTo n gs l i then mrg n gs (l.getD i zA) else minTo n gs l i:=by
  unfold minTo
  rw [foldl_take _ _ _ zA hi]
theorem minTo_ok (n:Int) (gs:List Grp) (l:List Asn):∀ i,i≤l.length→minTo n gs l i≤100000∧(∀ a∈l.take i,minTo n gs l i≤mrg n gs a)∧(minTo n gs l i=100000∨∃ a∈l,mrg n gs a=minTo n gs l i)
  | 0,_=>by simp [minTo]
  | i+1,hi=>by
    obtain ⟨h1,h2,h3⟩:=minTo_ok n gs l i (by omega)
    rw [minTo_succ n gs l (by omega)]
    have htk:l.take (i+1)=l.take i++[l.getD i zA]:=by rw [getD_get l zA (by omega)]; exact (List.take_append_getElem (by omega)).symm
    have hmem:l.getD i zA∈l:=by rw [getD_get l zA (by omega)]; exact List.getElem_mem _
    rw [htk]
    split
    · rename_i hlt
      refine ⟨by omega,fun a ha=>?_,.inr ⟨_,hmem,rfl⟩⟩
      rcases List.mem_append.1 ha with ha | ha
      · have:=h2 a ha; omega
      · rw [List.mem_singleton.1 ha]; omega
    · rename_i hge
      refine ⟨h1,fun a ha=>?_,h3⟩
      rcases List.mem_append.1 ha with ha | ha
      · exact h2 a ha
      · rw [List.mem_singleton.1 ha]; omega
structure DerOK (c:Con) (gs:List Grp) (ws:List Int):Prop where
  asc:ascA (derP c gs ws).1
  hold:∀ a∈(derP c gs ws).1,1≤mrg (c.2.1.length:Int) gs a
  suf:sufB c ws (derP c gs ws).1=true
  len:(derP c gs ws).1.length≤400
  irv:c.2.2.1=1→ws.length=1∧minTo (c.2.1.length:Int) gs (derP c gs ws).1 (derP c gs ws).1.length=(setP c.2.1.length gs (ws.getD 0 0)).1
theorem derP_no {c:Con} {gs:List Grp} {ws:List Int} (h:(derP c gs ws).2=false):(derP c gs ws).1=[]:=by
  revert h
  unfold derP
  split
  · split
    · intro _; rfl
    · split
      · split
        · split
          · intro _; rfl
          · intro h; cases h
        · split
          · intro h; cases h
          · intro _; rfl
      · intro _; rfl
  · intro _; rfl
theorem derP_ok {c:Con} {gs:List Grp} {ws:List Int} {M:Int} (hn4:c.2.1.length≤4) (hp:PileOK (c.2.1.length:Int) gs M) (hM:M < 100000) (h:(derP c gs ws).2=true):DerOK c gs ws:=by
  by_cases hcond:(fitB c && pileB (c.2.1.length:Int) gs)=true∧isB (c.2.1.length:Int) ws
  rotate_left
  · unfold derP at h; rw [if_neg hcond] at h; cases h
  obtain ⟨hfit,hpb⟩:=(Bool.and_eq_true _ _).mp hcond.1
  obtain ⟨f1,f2,f3,f4,f5,f6,f7⟩:=fit_n hfit
  have hval:=derP_valid c gs ws
  by_cases hns:(c.2.1.length:Int)≤c.2.2.2.1
  · have hder:derP c gs ws=([],decide ((ws.length:Int)=(c.2.1.length:Int))):=by unfold derP; rw [if_pos hcond,if_pos hns]
    rw [hder] at h
    have hwl:(ws.length:Int)=(c.2.1.length:Int):=of_decide_eq_true h
    refine ⟨by rw [hder]; exact List.Pairwise.nil,(by rw [hder]; intro a ha; cases ha),?_,by rw [hder]; simp,fun hm=>?_⟩
    · rw [hder]
      unfold sufB
      rw [hfit,if_pos hns,decide_eq_true hcond.2,decide_eq_true (show ws.length=c.2.1.length by omega)]
      simp
    · have hs1:=f7 hm
      have hn1:c.2.1.length=1:=by omega
      have hw1:ws.length=1:=by omega
      refine ⟨hw1,?_⟩
      rw [hder,hn1]
      have hw0:=hcond.2.2 (ws.getD 0 0) (by rw [getD_get ws 0 (by omega)]; exact List.getElem_mem _)
      have hz:ws.getD 0 0=0:=by omega
      rw [hz]
      have hpb1:pileB ((1:Nat):Int) gs=true:=by rw [← hn1]; exact hpb
      unfold setP
      rw [if_pos ⟨hpb1,by omega,by omega⟩]
      simp [setTo,idL,setStep,minTo]
  by_cases hws:(ws.length:Int)=c.2.2.2.1
  rotate_left
  · unfold derP at h; rw [if_pos hcond,if_neg hns,if_neg hws] at h; cases h
  by_cases hm:c.2.2.1=1
  · have hs1:=f7 hm
    have hw1:ws.length=1:=by omega
    have hw0:=hcond.2.2 (ws.getD 0 0) (by rw [getD_get ws 0 (by omega)]; exact List.getElem_mem _)
    by_cases hb:(setP c.2.1.length gs (ws.getD 0 0)).1 < 1
    · unfold derP at h; rw [if_pos hcond,if_neg hns,if_pos hws,if_pos hm,if_pos hb] at h; cases h
    have hder:derP c gs ws=(sortedP (setP c.2.1.length gs (ws.getD 0 0)).2,true):=by unfold derP; rw [if_pos hcond,if_neg hns,if_pos hws,if_pos hm,if_neg hb]
    obtain ⟨r1,r2,r3⟩:=setP_list (n:=c.2.1.length) (by omega) f2 hp hM hw0
    generalize hbv:(setP c.2.1.length gs (ws.getD 0 0)).1=bv at hb r1 r2
    have hb1:1≤bv:=by omega
    have hasc:=sortedP_asc (setP c.2.1.length gs (ws.getD 0 0)).2
    have hiff:=fun x=>sortedP_iff (l:=(setP c.2.1.length gs (ws.getD 0 0)).2) (x:=x)
    rw [hder] at hval
    generalize (setP c.2.1.length gs (ws.getD 0 0)).2=L at hder r1 r2 r3 hasc hiff hval
    simp only at hval
    have hlen:(sortedP L).length≤400:=by
      refine Nat.le_trans (nodup_len_as (l:=evA c.2.1.length gs bv c.2.1.length) (ascA_nodup hasc) fun a ha=>?_) (evA_short (n:=c.2.1.length) hn4).2
      have:=r1 a ((hiff a).1 ha)
      exact valid_in f2 (hval a ha) this.1 (this.2 hb1)
    refine ⟨by rw [hder]; exact hasc,?_,?_,by rw [hder]; exact hlen,fun _=>⟨hw1,?_⟩⟩
    · rw [hder]
      intro a ha
      have:=(r1 a ((hiff a).1 ha)).2 hb1
      omega
    · rw [hder]
      unfold sufB
      rw [hfit,if_neg hns,decide_eq_true hcond.2,decide_eq_true hws,if_pos hm,decide_eq_true (show (sortedP L).length≤1400 by omega),List.all_eq_true.2 hval]
      simp only [Bool.and_true,Bool.true_and]
      unfold witA
      rw [Int.toNat_natCast]
      have s1:=witP_spec (n:=c.2.1.length) (by omega) (anyC (c.2.1.length:Int) (sortedP L)) (ws.getD 0 0)
      cases e1:witP c.2.1.length (anyC (c.2.1.length:Int) (sortedP L)) (ws.getD 0 0) with
      | none=>rfl
      | some o =>
        exfalso
        rw [e1] at s1
        obtain ⟨⟨o1,o2,o3,o4⟩,_⟩:=s1
        obtain ⟨a,ha,j,hj,hc⟩:=r3 o ⟨o1,o2,o3⟩
        have:=o4 j hj
        unfold anyC at this
        rw [List.any_eq_false] at this
        exact this a ((hiff a).2 ha) hc
    · rw [hder,hbv]
      show minTo (c.2.1.length:Int) gs (sortedP L) (sortedP L).length=bv
      obtain ⟨m1,m2,m3⟩:=minTo_ok (c.2.1.length:Int) gs (sortedP L) (sortedP L).length (Nat.le_refl _)
      rw [List.take_length] at m2
      obtain ⟨a,ha,hma⟩:=r2 hb1
      have h1:=m2 a ((hiff a).2 ha)
      rcases m3 with m3 | ⟨a',ha',m3⟩
      · have:=mrg_le hp (by omega) (by omega) (r1 a ha).1
        omega
      · have:=(r1 a' ((hiff a').1 ha')).2 hb1
        omega
  · by_cases hall:(ws.all fun x=>decide (1≤mrg (c.2.1.length:Int) gs (quotaA x c.2.2.2.1)))=true
    rotate_left
    · unfold derP at h; rw [if_pos hcond,if_neg hns,if_pos hws,if_neg hm,if_neg hall] at h; cases h
    have hder:derP c gs ws=(sortedP (ws.map fun x=>quotaA x c.2.2.2.1),true):=by unfold derP; rw [if_pos hcond,if_neg hns,if_pos hws,if_neg hm,if_pos hall]
    have hlen:(sortedP (ws.map fun x=>quotaA x c.2.2.2.1)).length≤400:=by
      have:=(sorted_inv (ws.map fun x=>quotaA x c.2.2.2.1) []).1
      rw [List.length_map] at this
      have h2:(sortedP (ws.map fun x=>quotaA x c.2.2.2.1)).length≤0+ws.length:=this
      omega
    refine ⟨by rw [hder]; exact sortedP_asc _,?_,?_,by rw [hder]; exact hlen,fun h=>absurd h hm⟩
    · rw [hder]
      intro a ha
      obtain ⟨x,hx,rfl⟩:=List.mem_map.1 (sortedP_iff.1 ha)
      exact of_decide_eq_true (List.all_eq_true.1 hall x hx)
    · rw [hder] at hval ⊢
      unfold sufB
      rw [hfit,if_neg hns,decide_eq_true hcond.2,decide_eq_true hws,if_neg hm,decide_eq_true (show (sortedP (ws.map fun x=>quotaA x c.2.2.2.1)).length≤1400 by omega),List.all_eq_true.2 hval]
      simp only [Bool.and_true,Bool.true_and]
      rw [List.all_eq_true]
      intro x hx
      rw [List.any_eq_true]
      exact ⟨quotaA x c.2.2.2.1,sortedP_iff.2 (List.mem_map.2 ⟨x,hx,rfl⟩),decide_eq_true rfl⟩
theorem conB_len (m:Int) (n:Nat) (s dg ti:Int):(conB m n s dg ti).2.1.length=n:=nms_len n
theorem suf_more {c:Con} {ws:List Int} {l l':List Asn} (hsub:∀ a∈l',a∈l) (hv:∀ a∈l,validB (c.2.1.length:Int) a=true) (hl:l.length≤1400) (h:sufB c ws l'=true):sufB c ws l=true:=by
  unfold sufB at h ⊢
  simp only [Bool.and_eq_true] at h ⊢
  obtain ⟨⟨⟨⟨h1,h2⟩,h3⟩,h4⟩,h5⟩:=h
  refine ⟨⟨⟨⟨h1,decide_eq_true hl⟩,h3⟩,List.all_eq_true.2 hv⟩,?_⟩
  obtain ⟨f1,f2,f3,f4,f5,f6,f7⟩:=fit_n h1
  by_cases c1:(c.2.1.length:Int)≤c.2.2.2.1
  · rw [if_pos c1] at h5 ⊢; exact h5
  · rw [if_neg c1] at h5 ⊢
    simp only [Bool.and_eq_true] at h5 ⊢
    refine ⟨h5.1,?_⟩
    have h5':=h5.2
    by_cases c2:c.2.2.1=1
    · rw [if_pos c2] at h5' ⊢
      unfold witA at h5' ⊢
      have s1:=witP_spec (n:=(c.2.1.length:Int).toNat) (by omega) (anyC (c.2.1.length:Int) l') (ws.getD 0 0)
      have s2:=witP_spec (n:=(c.2.1.length:Int).toNat) (by omega) (anyC (c.2.1.length:Int) l) (ws.getD 0 0)
      cases e1:witP (c.2.1.length:Int).toNat (anyC (c.2.1.length:Int) l) (ws.getD 0 0) with
      | none=>rfl
      | some o =>
        exfalso
        rw [e1] at s2
        cases e2:witP (c.2.1.length:Int).toNat (anyC (c.2.1.length:Int) l') (ws.getD 0 0) with
        | some o'=>rw [e2] at h5'; cases h5'
        | none =>
          rw [e2] at s1
          obtain ⟨⟨o1,o2,o3,o4⟩,_⟩:=s2
          refine s1 o ⟨o1,o2,o3,fun j hj=>?_⟩
          have:=o4 j hj
          unfold anyC at this ⊢
          rw [List.any_eq_false] at this ⊢
          exact fun a ha=>this a (hsub a ha)
    · rw [if_neg c2] at h5' ⊢
      rw [List.all_eq_true] at h5' ⊢
      intro x hx
      have:=h5' x hx
      rw [List.any_eq_true] at this ⊢
      obtain ⟨a,ha,hp⟩:=this
      exact ⟨a,hsub a ha,hp⟩
theorem d6_true {n m s ti:Int} {x more:List (List Int)} {ws:List Int} (hn:WT (.int .i64) n) (hm:WT (.int .i64) m) (hs:WT (.int .i64) s) (ht:WT (.int .i64) ti) (hx:x.length≤281474976710656) (hw:∀ y∈x,WT (.slice (.int .i64)) y) (hx2:more.length≤281474976710656) (hw2:∀ y∈more,WT (.slice (.int .i64)) y) (hws:WT (.slice (.int .i64)) ws):d6 n m s ti x more ws=some true:=by
  unfold d6
  rw [d10_eq hn (by omega) (by omega)]
  have b:=mod_bounds n (n:=4) (by omega)
  have w1:w (1+n % 4)=1+n % 4:=w_id (by omega) (by omega)
  simp only [Option.bind_some,w1]
  obtain ⟨N,hN⟩:∃ N:Nat,1+n % 4=(N:Int):=⟨(1+n % 4).toNat,by omega⟩
  rw [hN]
  have hws9:WT (.slice (.int .i64)) (ws.take 9):=⟨Nat.le_trans (by rw [List.length_take]; exact Nat.min_le_right _ _) hws.1,fun y hy=>hws.2 y (List.mem_of_mem_take hy)⟩
  obtain ⟨gs,M,hgs,hp,hM,hg⟩:=pile_at (n:=(N:Int)) (by omega) (by omega) hx hw (k:=24) (by omega)
  rw [d11_eq (n:=N) (by omega) hm hs (wt_small (by omega)) ht,Option.bind_some,show (24:Int)=((24:Nat):Int) from rfl,hgs,d22_eq hws,Option.bind_some,d14_eq (n:=(N:Int)) (by omega) (by omega) hws9,Option.bind_some]
  have hcn:=conB_len m N s 0 ti
  have hwl:=isB_len (bal_isB (n:=(N:Int)) (by omega) (ws.take 9)) (by omega)
  generalize conB m N s 0 ti=c at hcn ⊢
  generalize bal (N:Int) (ws.take 9)=v at hwl ⊢
  subst hcn
  rw [d15_eq' hg,Option.bind_some]
  have hval:=derP_valid c gs v
  have hlenP:=derP_len c gs v
  cases hok:(derP c gs v).2
  · have hnil:=derP_no hok
    simp only [Bool.not_false,cond_true,d27_eq,Option.bind_some,hnil]
    rfl
  · have D:=derP_ok (by omega) hp (by omega) hok
    have hsuf:=D.suf
    have hl4:=D.len
    simp only [Bool.not_true,cond_false]
    generalize (derP c gs v).1=l at hval hlenP hsuf hl4 ⊢
    have hlok:LOK l:=lok_of (by omega) hval
    rw [d28_eq (by omega) (by omega) hlok,hsuf]
    simp only [Option.bind_some,Bool.not_true,cond_false,letJ,d27_eq,cond_true]
    by_cases h2:(2:Int)≤(c.2.1.length:Int)
    · simp only [h2,decide_true,cond_true]
      rw [d29_eq h2 (by omega) hx2 hw2,Option.bind_some]
      obtain ⟨a1,_⟩:=alls_ok h2 (by omega) more
      have a2:=alls_valid h2 (by omega) more
      have l1:((l.length:Int)+((alls (c.2.1.length:Int) more).length:Int)≤LIM):=by rw [LIM_eq]; omega
      simp only [l1,decide_true,cond_true]
      have hv2:∀ a∈l++alls (c.2.1.length:Int) more,validB (c.2.1.length:Int) a=true:=fun a ha=>by
        rcases List.mem_append.1 ha with ha | ha
        · exact hval a ha
        · exact a2 a ha
      have hll:(l++alls (c.2.1.length:Int) more).length≤1400:=by rw [List.length_append]; omega
      rw [d28_eq (by omega) (by omega) (lok_of (by omega) hv2),suf_more (fun a ha=>List.mem_append.2 (.inl ha)) hv2 hll hsuf]
      rfl
    · simp only [h2,decide_false,cond_false]
      rw [d28_eq (by omega) (by omega) hlok,hsuf]
      rfl
end Go.Proofs.YtieoleabnjdkfaaGreat
