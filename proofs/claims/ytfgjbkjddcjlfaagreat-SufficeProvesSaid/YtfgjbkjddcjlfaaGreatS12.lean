/- Part 12 of what stands below the statement. -/
import Derived.Laws.CopyOwn
import Derived.Deep.RegionLaw
import Derived.Deep.OwnRows
import Derived.Test.YtfgjbkjddcjlfaaGreatS11
set_option linter.defProp false
set_option linter.unusedSimpArgs false
set_option linter.unusedVariables false
set_option linter.unnecessarySimpa false
namespace Go.Proofs.YtfgjbkjddcjlfaaGreat
open Tryz
open Go Go.Proofs Go.RowKit Go.X
section
attribute [local go_sem] Oper.semAt_some
def FrR(g m k:Nat)(a:Act):Prop:=∃(x0 x1 x2 x3 x4 x5 x6 x9 x10 x11 x12 x13 x14 x15 x16 x17 x18 x19 x20 x21 x22 x23 x24 x25 x26 x27 x28 x29 x30 x31 x32 x33 x34 x35 x36 x37 x38 x39 x40 x41 x42 x43 x44 x45 x46 x47:Value),a={tmps:=#[x0,x1,x2,x3,x4,x5,x6,.slice (some ⟨g,0,none⟩) m m,.int .i64 (k:Int),x9,x10,x11,x12,x13,x14,x15,x16,x17,x18,x19,x20,x21,x22,x23,x24,x25,x26,x27,x28,x29,x30,x31,x32,x33,x34,x35,x36,x37,x38,x39,x40,x41,x42,x43,x44,x45,x46,x47],defers:=[]}
def FrR.mk{g m k:Nat}{x0 x1 x2 x3 x4 x5 x6 x9 x10 x11 x12 x13 x14 x15 x16 x17 x18 x19 x20 x21 x22 x23 x24 x25 x26 x27 x28 x29 x30 x31 x32 x33 x34 x35 x36 x37 x38 x39 x40 x41 x42 x43 x44 x45 x46 x47:Value}:FrR g m k {tmps:=#[x0,x1,x2,x3,x4,x5,x6,.slice (some ⟨g,0,none⟩) m m,.int .i64 (k:Int),x9,x10,x11,x12,x13,x14,x15,x16,x17,x18,x19,x20,x21,x22,x23,x24,x25,x26,x27,x28,x29,x30,x31,x32,x33,x34,x35,x36,x37,x38,x39,x40,x41,x42,x43,x44,x45,x46,x47],defers:=[]}:=⟨x0,x1,x2,x3,x4,x5,x6,x9,x10,x11,x12,x13,x14,x15,x16,x17,x18,x19,x20,x21,x22,x23,x24,x25,x26,x27,x28,x29,x30,x31,x32,x33,x34,x35,x36,x37,x38,x39,x40,x41,x42,x43,x44,x45,x46,x47,rfl⟩
def FrR.elim{g m k:Nat}{a:Act}{P:Prop}(h:FrR g m k a)(f:∀(x0 x1 x2 x3 x4 x5 x6 x9 x10 x11 x12 x13 x14 x15 x16 x17 x18 x19 x20 x21 x22 x23 x24 x25 x26 x27 x28 x29 x30 x31 x32 x33 x34 x35 x36 x37 x38 x39 x40 x41 x42 x43 x44 x45 x46 x47:Value),a={tmps:=#[x0,x1,x2,x3,x4,x5,x6,.slice (some ⟨g,0,none⟩) m m,.int .i64 (k:Int),x9,x10,x11,x12,x13,x14,x15,x16,x17,x18,x19,x20,x21,x22,x23,x24,x25,x26,x27,x28,x29,x30,x31,x32,x33,x34,x35,x36,x37,x38,x39,x40,x41,x42,x43,x44,x45,x46,x47],defers:=[]}→P):P:=by
 obtain⟨x0,x1,x2,x3,x4,x5,x6,x9,x10,x11,x12,x13,x14,x15,x16,x17,x18,x19,x20,x21,x22,x23,x24,x25,x26,x27,x28,x29,x30,x31,x32,x33,x34,x35,x36,x37,x38,x39,x40,x41,x42,x43,x44,x45,x46,x47,e⟩:=h
 exact f x0 x1 x2 x3 x4 x5 x6 x9 x10 x11 x12 x13 x14 x15 x16 x17 x18 x19 x20 x21 x22 x23 x24 x25 x26 x27 x28 x29 x30 x31 x32 x33 x34 x35 x36 x37 x38 x39 x40 x41 x42 x43 x44 x45 x46 x47 e
def rw_(m k:Nat)(v:Int):List Value:=List.replicate k (.int .i64 v)++List.replicate (m-k) (.int .i64 0)
def rw_splice{m k d:Nat}(v:Int)(h:k+d≤m):splice (rw_ m k v) k (List.replicate d (.int .i64 v))=rw_ m (k+d) v:=by
 unfold splice rw_
 rw[xce,List.take_left' (by simp),List.drop_append,List.drop_eq_nil_of_le (by simp),xci,xce,List.drop_replicate,←xcp,List.replicate_append_replicate]
 congr 2
 omega
def rw_zero(m:Nat)(v:Int):rw_ m 0 v=List.replicate m (.int .i64 0):=by unfold rw_;rw[Nat.sub_zero];rfl
def rw_len{m k:Nat}(v:Int)(h:k≤m):(rw_ m k v).length=m:=by unfold rw_;simp;omega
def hsz3:(prog.info? 3).map (·.size)=some 1:=by
 have:=info3
 cases hq:prog.info? 3 with
 |none=>rw[hq]at this;cases this
 |some i=>
  rw[hq]at this
  simp only[xcn,xat,xba]at this
  rw[xcn,this.2.1]
def make26(m:Nat)(hm:m≤1000)(w:World):(Instr.makeSlice 23 (.int .i64 (m:Int)) (.int .i64 (m:Int))).run prog w=.ok (.slice (some ⟨w.heap.size,0,none⟩) m m) (w.alloc (.cells (rw_ m 0 0).toArray 3)):=by
 rw[run_make_row' 23 3 (.int .i64 0) 8 underlying23 info3 rfl .i64 .i64 m (by omega) (by omega) w,rw_zero,←toList_madeCells_one,Array.toArray_toList]
set_option maxRecDepth 100000 in
set_option maxHeartbeats 4000000 in
def repeat_ok(b off c m:Nat)(v:Int)(w:World)(hm:m≤1000)(hc:w.cell? ⟨b,off,none⟩=some (.int .i64 v)) :
  Calls prog 44 #[.slice (some ⟨b,off,none⟩) 1 c,.int .i64 (m:Int)] w fun e w'=>∃v',e=.returned v'∧w'.ownsRow w.heap.size 3 1 v' m (List.replicate m (.int .i64 v))∧Below w.heap.size w w':=by
 have hin:∀c:Int,0≤c→c≤4294967296→IntKind.i64.wrap c=c:=fun c h0 h1=>IntWalk.i64_in c ⟨by omega,by omega⟩
 have hmul:∀w',Calls prog 79 #[.int .u64 1,.int .u64 (m:Int)] w' fun e w''=>e=.returned (.tuple #[.int .u64 0,.int .u64 (m:Int)])∧w''=w':=fun w'=>by
  have h:=Any.bits_Mul Tryz.mul 1 m (by omega) (by omega) w'
  have e1:1*m/18446744073709551616=0:=by omega
  have e2:1*m%18446744073709551616=m:=by omega
  rw[e1,e2]at h
  exact h
 have hmk:=make26 m hm
 have hc':∀o,(w.alloc o).cell? ⟨b,off,none⟩=some (.int .i64 v):=fun o=>Lib.cell?_alloc_some _ hc
 have hm0:¬(m:Int)<0:=by omega
 have hm1:¬(9223372036854775807:Int)<(m:Int):=by omega
 obtain⟨d0,hd0⟩:∃d0,d0=Nat.min 1 m:=⟨_,rfl⟩
 have hd1:d0≤1∧d0≤m∧(0<m→0<d0):=by
  rw[hd0]
  refine⟨xio _ _,xih _ _,fun h=>?_⟩
  show 0<min 1 m
  omega
 obtain⟨X,hX⟩:∃X:List Value,X=List.replicate d0 (Value.int .i64 v):=⟨_,rfl⟩
 have hXl:X.length=Nat.min 1 m:=by rw[hX,xce,hd0]
 have hXv:∀u∈X,u=.int .i64 v:=fun u hu=>by
  rw[hX]at hu
  exact xgl hu
 have hXs:splice (rw_ m 0 0) 0 X=rw_ m d0 v:=by
  rw[rw_zero,←rw_zero m v,hX,rw_splice v (by omega),xdc]
 replace hXs:Hid (splice (rw_ m 0 0) 0 X=rw_ m d0 v):=hXs
 replace hd0:Hid (d0=Nat.min 1 m):=hd0
 clear hX
 go_enter func44,ntmps44
 go_upto_region 7 with(go_at_call 79;refine(hmul _).mono ?_;rintro e w1 ⟨rfl,hw1⟩;rw[hw1])
 go_wp2_with (refine wpList_copy_splice rfl (.tmp 31) (.tmp 32) 23 23 rfl 3 underlying23 hsz3 _ _ m m 1 c rfl rfl w.heap.size 0 (rw_ m 0 0) 3 ?qc1 X hXl ?qc2 ?qc3 ?qc4 w.heap.size w ?qc5 ?qc6 ?_)
 case qc1=>exact heap_alloc_new w _
 case qc2=>
  intro _ j u hj
  have hjl:j<X.length:=(xew.1 hj).1
  rw[hXl,←hd0.out]at hjl
  obtain rfl:j=0:=by omega
  rw[hXv u (xhd hj)]
  exact hc' _
 case qc3=>
  rw[rw_len 0 (xbz m),hXl,←hd0.out]
  omega
 case qc4=>
  intro u hu
  rw[hXv u hu]
  rfl
 case qc5=>exact(Below.refl _ w).alloc (xak _) _
 case qc6=>exact xak _
 intro w2 hg2 hb2
 replace hg2:Hid (w2.heap[w.heap.size]?=some (Obj.cells (rw_ m d0 v).toArray 3)):=by
  have:=hg2.out
  rw[hXs.out]at this
  exact this
 rw[←hd0.out]
 clear hXs hmk hXl hXv
 clear hd0
 go_wp2
 refine loop_invT (R:=fun mm a w'=>∃k:Nat,k≤m∧mm=m-k∧(0<m→0<k)∧Hid (w'.heap[w.heap.size]?=some (Obj.cells (rw_ m k v).toArray 3))∧Below w.heap.size w w'∧FrR w.heap.size m k a) (m:=m-d0) ?zif ?init1
 case init1=>exact⟨d0,hd1.2.1,rfl,hd1.2.2,hg2,hb2,FrR.mk⟩
 case zif=>
  rintro mm a w' ⟨k,hk,rfl,hpos,hg,hb,hfr⟩
  refine hfr.elim ?_
  intro x0 x1 x2 x3 x4 x5 x6 x9 x10 x11 x12 x13 x14 x15 x16 x17 x18 x19 x20 x21 x22 x23 x24 x25 x26 x27 x28 x29 x30 x31 x32 x33 x34 x35 x36 x37 x38 x39 x40 x41 x42 x43 x44 x45 x46 x47 hfe
  subst hfe
  rcases xcy k m with hlt|hge
  ·have hlt':(k:Int)<(m:Int):=by omega
   obtain⟨d,hd⟩:∃d,d=Nat.min k (m-k):=⟨_,rfl⟩
   have hd1:d≤k∧d≤m-k∧0<d:=by
    rw[hd]
    refine⟨xio _ _,xih _ _,?_⟩
    show 0<min k (m-k)
    have:=hpos (by omega)
    omega
   obtain⟨X,hX⟩:∃X:List Value,X=List.replicate d (Value.int .i64 v):=⟨_,rfl⟩
   have hXl:X.length=Nat.min k (m-k):=by rw[hX,xce,hd]
   have hXl':X.length=d:=by rw[hX,xce]
   have hXv:∀u∈X,u=.int .i64 v:=fun u hu=>by
    rw[hX]at hu
    exact xgl hu
   have hXs:splice (rw_ m k v) k X=rw_ m (k+d) v:=by rw[hX,rw_splice v (by omega)]
   replace hXs:Hid (splice (rw_ m k v) k X=rw_ m (k+d) v):=hXs
   replace hd:Hid (d=Nat.min k (m-k)):=hd
   replace hXl':Hid (X.length=d):=hXl'
   clear hX
   have hrl:=rw_len v hk
   have hwr:IntKind.i64.wrap ((k:Int)+((Nat.min k (m-k):Nat):Int))=((k+d:Nat):Int):=by
    rw[←hd.out,hin _ (by omega) (by omega)];omega
   have k0:(0:Int)≤(k:Int):=by omega
   have k1:(k:Int)≤(m:Int):=by omega
   have k2:¬m=k:=by omega
   have k3:((m:Int)-(k:Int)).toNat=m-k:=by omega
   have hgd:w'.drew.heap[w.heap.size]?=some (Obj.cells (rw_ m k v).toArray 3):=hg.out
   have hbd:Below w.heap.size w w'.drew:=hb.trans ⟨rfl,rfl,rfl,xak _,fun _ _=>rfl⟩
   have hfit:k+X.length≤(rw_ m k v).length:=by rw[hrl,hXl'.out];omega
   have hone:∀u∈X,u.oneCell'=true:=fun u hu=>by rw[hXv u hu];rfl
   have hsrc:∀j u,X[j]?=some u→w'.drew.cell? ((⟨w.heap.size,0,none⟩:Addr).add j)=some u:=fun j u hj=>by
    have hjl:j<X.length:=(xew.1 hj).1
    rw[hXv u (xhd hj),Addr.add_lit]
    rw[hXl'.out]at hjl
    have hjk:j<k:=by omega
    unfold World.cell?
    rw[hgd]
    simp[rw_,List.getElem?_append,hjk]
   replace hgd:Aside (w'.drew.heap[w.heap.size]?=some (Obj.cells (rw_ m k v).toArray 3)):=hgd
   replace hsrc:Aside (∀j u,X[j]?=some u→w'.drew.cell? ((⟨w.heap.size,0,none⟩:Addr).add j)=some u):=hsrc
   go_wp2
   go_region_law (refine step_copy_splice rfl (.tmp 41) (.tmp 44) 23 23 rfl 3 underlying23 hsz3 (some ⟨w.heap.size,k,none⟩) (some ⟨w.heap.size,0,none⟩) (m-k) (m-k) k m (by simp[Act.eval,Act.put,k2]) (by simp[Act.eval,Act.put]) w.heap.size k (rw_ m k v) 3 hgd.out X hXl (fun _=>⟨rfl,_,rfl,hsrc.out⟩) hfit hone w.heap.size w hbd (xak _) ?_;intro w4 hg4 hb4)
   replace hg4:Hid (w4.heap[w.heap.size]?=some (Obj.cells (rw_ m (k+d) v).toArray 3)):=by
    have:=hg4.out
    rw[hXs.out]at this
    exact this
   go_wp2
   exact⟨m-(k+d),by omega,k+d,by omega,rfl,fun _=>by omega,hg4,hb4,FrR.mk⟩
  ·have hge':¬(k:Int)<(m:Int):=by omega
   have hkm:k=m:=by omega
   subst hkm
   have hrep:rw_ k k v=List.replicate k (Value.int .i64 v):=by unfold rw_;rw[xho];simp
   go_wp2
   go_ret
   exact⟨_,rfl,⟨by simp,.inr ⟨w.heap.size,k,_,rfl,xak _,hg.out,xak _,by unfold maxLen;omega,by simp[hrep],by simp[hrep]⟩⟩,hb⟩
end
def enters112:zcf prog 44:=enters_of func44 (by kernel_rfl) rfl
noncomputable def d44 (xs:List Int) (n:Int):Option (List Int):=bif decide (xs.length=1)&&(decide (0≤n)&&decide (n≤1000))then some (List.replicate n.toNat (xs.getD 0 0))else none
def sg44:Sig:=⟨[(y23,.bw),(y3,.sh)],[(y23,.own 3 .sh)]⟩
def sim44:Sim prog 44 sg44 d44:=by
 refine⟨enters112,fun xs y hy S hS vs hvs hargs=>?_⟩
 have hy0:d44 xs.1 xs.2.1=some y:=hy
 obtain⟨xs,n,u⟩:=xs
 simp only at hy0
 obtain⟨z,hz,hn0,hn1,hy'⟩:∃z:Int,(xs:List Int)=[z]∧0≤n∧n≤1000∧List.replicate n.toNat z=y:=by
  unfold d44 at hy0
  cases hq:(decide ((xs:List Int).length=1)&&(decide (0≤(n:Int))&&decide ((n:Int)≤1000)))with
  |false=>rw[hq]at hy0;cases hy0
  |true=>
   rw[hq]at hy0
   rw[xan,xan,xam,xam,xam]at hq
   obtain⟨z,hz⟩:=xem.1 hq.1
   have h2:=xbo hy0
   rw[hz]at h2
   exact⟨z,hz,hq.2.1,hq.2.2,h2⟩
 obtain⟨v,hv,hr⟩:=hargs 0 ⟨y23,.bw,xs⟩ rfl
 obtain⟨v2,hv2,hr2⟩:=hargs 1 ⟨y3,.sh,n⟩ rfl
 have hl:vs.length=2:=hvs
 obtain⟨v',v2',rfl⟩:∃a b,vs=[a,b]:=by
  match vs,hl with
  | [a,b],_=>exact⟨a,b,rfl⟩
 have e1:v'=v:=by simpa using hv
 have e2:v2'=v2:=by simpa using hv2
 subst e1 e2
 dsimp only at hr hr2
 obtain⟨hxl,_,A,len,cap,h0,rfl,hcap,h3⟩:=hr.1
 have hv0:v'=.slice A (xs:List Int).length cap:=by simpa[zab,Ty.agg]using h0
 subst hv0
 have h02:zab (.int .i64) v2' 0=some v2':=by simp[zab,Ty.agg]
 obtain⟨q1,q2⟩:=hr2.1
 rw[h02]at q1
 have q1':v2'=.int .i64 n:=by injection q1
 subst q1'
 obtain⟨b,o,hA,hzw,hcz⟩:∃b o,A=some ⟨b,o,none⟩∧IntKind.i64.wrap z=z∧S.w.cell? ⟨b,o,none⟩=some (.int .i64 z):=by
  rcases h3 with⟨h3,_⟩|⟨b,o,hA,hx,h4⟩
  ·exfalso;rw[hz]at h3;cases h3
  ·refine⟨b,o,hA,?_,?_⟩
   ·have:=(h4 0 (by rw[hz];simp)).2
    simpa[hz]using this
   ·have:=(h4 0 (by rw[hz];simp)).1
    simpa[blk,Ty.size,hz]using this
 subst hA
 obtain⟨m,rfl⟩:∃m:Nat,n=(m:Int):=⟨Int.toNat n,(xir hn0).symm⟩
 rw[xaf]at hy'
 have hlen1:(xs:List Int).length=1:=by rw[hz];rfl
 have hm1000:m≤1000:=by have:(m:Int)≤1000:=hn1;omega
 have hcall:=repeat_ok b o cap m z S.w hm1000 hcz
 rw[hlen1]
 refine Calls.mono hcall fun e w' ⟨r,hr,ho,hb⟩=>?_
 subst hr
 obtain⟨ys,hys⟩:∃ys:List Int,ys=y:=⟨y,rfl⟩
 subst hys
 have hyl:ys.length=m:=by rw[←hy',xce]
 have hall:∀u∈ys,u=z:=by
  rw[←hy']
  exact fun u=>xgl
 have hwr:∀(i:Nat) (hi:i<ys.length),ys[i]=z:=fun i hi=>hall _ (xbc hi)
 obtain⟨ho1,ho2⟩:=ho
 let S':St:={S with w:=w',own:=fun b=>if r.ownBlock=some b then some (0,[0])else S.own b,hv:=fun z=>if z=(0,[0])then r else S.hv z}
 have hhv:S'.hv (0,[0])=r:=by
  show(if((0,[0]):Go.X.Place)=(0,[0])then r else S.hv (0,[0]))=r
  simp
 have hbig:∀b,r.ownBlock=some b→S.w.heap.size≤b∧b<w'.heap.size:=fun b hbb=>by
  rcases ho2 with⟨h1,_⟩|⟨g,c,cur,h1,h2,h3,_⟩
  ·rw[h1]at hbb;cases hbb
  ·rw[h1]at hbb;cases hbb;exact⟨h2,(xbg.1 h3).1⟩
 have hold:∀b,b<S.w.heap.size→S'.own b=S.own b:=fun b hlt=>if_neg fun hh=>absurd (hbig b hh).1 (by omega)
 have hfr:Frm S S':=by
  refine⟨fun _ h=>h,rfl,fun b hb'=>?_,fun b hb'=>?_,fun b p hb'=>?_,hb.os,hb.tape,hb.output,hb.size,fun b hlt _=>hb.block b hlt⟩
  ·exact⟨(hold b (hS.shared b hb').2).trans (hS.shared b hb').1,xau (hS.shared b hb').2 hb.size,.inl hb'⟩
  ·exact(hold b (hS.borrowed b hb').2).trans (hS.borrowed b hb').1
  ·have hb2:(if r.ownBlock=some b then some (0,[0])else S.own b)=some p:=hb'
   split at hb2
   ·rename_i hh
    exact⟨(hbig b hh).2,.inl (hbig b hh).1⟩
   ·exact⟨xau (hS.owned b p hb2) hb.size,.inr (by rw[hb2];simp)⟩
 refine⟨r,S',rfl,rfl,hfr,⟨⟨?_,by simp[Ty.size],?_,?_⟩,fun h=>by cases h⟩,fun q e hq=>by cases hq⟩
 ·show ys.length≤_
  rw[hyl]
  have:1000≤maxL:=by unfold maxL;omega
  omega
 ·rw[hhv];simp[zab,Ty.agg]
 ·rw[hhv]
  rcases ho2 with⟨h1,h2⟩|⟨g,c,cur,h1,h2,h3,h4,h5,h6,h7⟩
  ·exact .inl ⟨h1,by have:=hyl;rw[h2]at this;exact xcf this⟩
  ·rw[←hyl]at h1 h4
   refine .inr ⟨g,c,cur,h1,if_pos (by rw[h1];rfl),h3,h4,h5,by simpa[Ty.size]using h6,fun i hi=>⟨?_,by
    show IntKind.i64.wrap (ys[i]'hi)=ys[i]'hi
    rw[hwr i hi];exact hzw⟩⟩
   have hi':i<m:=by rw[←hyl];exact hi
   have:=xbx (fun l=>l[i]?) h7
   simp only[xdu,xdt,hi',if_true,xjo,xbm]at this
   have e0:i*Ty.size (.int .i64)+0=i:=by simp[Ty.size]
   show cur[i*Ty.size (.int .i64)+0]?=some (.int .i64 (ys[i]'hi))
   rw[e0,hwr i hi]
   exact this
noncomputable def E44:FnE prog:=⟨44,sg44,d44,sim44⟩
end Go.Proofs.YtfgjbkjddcjlfaaGreat
open Go Go.Proofs Go.X
namespace Go.Proofs.YtfgjbkjddcjlfaaGreat
open Tryz
set_option maxRecDepth 100000
noncomputable section
abbrev uqs(p:Plan):Plan:=.seq (.reg [] []) p
def uqn{a b:Nat}(h:Nat.ble a b=true):a≤b:=xkb h
abbrev uqa:JE:=.v y2 .sh
abbrev uqb:JE:=.v y26 .bw
abbrev uqc:JE:=.v y4 .sh
abbrev uqd:JE:=.v y26 (.own 3 .sh)
abbrev uqe:JE:=.v y25 .bw
abbrev uqf:JE:=.v y26 .sh
abbrev uqr:Plan:=.reg [] []
def uqz{f:FuncId}{fn:Func}{code:Code}{sg:Sig}{den:Arr (ptys sg.ps) (Option (Ret sg.res))}(hf:prog.funcs[f]?=some fn)(hb:fn.body=some code)(hc:zcf prog f)(hl:Nat.ble sg.ps.length fn.ntmps=true)(ho:zfz fn.ntmps (ioKs 0 sg.ps) code=true)(FT:List (TgE prog))(pl:Plan)(h:∀xs,evF tab FT sg fn.results.toList code pl xs=app _ den xs):Sim prog f sg den:=zow mixd tabOK hf hb hc (uqn hl) ho pl den fun xs y e=>(h xs).trans e
def uqy(f:FuncId)(sg:Sig)(den:Arr (ptys sg.ps) (Option (Ret sg.res))){fn:Func}{code:Code}(hf:prog.funcs[f]?=some fn)(hc:zcf prog f)(FT:List (TgE prog))(pl:Plan)(hb:fn.body=some code:=by exact zfw rfl)(hl:Nat.ble sg.ps.length fn.ntmps=true:=by kernel_rfl)(ho:zfz fn.ntmps (ioKs 0 sg.ps) code=true:=by kernel_rfl)(h:∀xs,evF tab FT sg fn.results.toList code pl xs=app _ den xs:=by intro xs;kernel_rfl):FnE prog:=⟨f,sg,den,uqz hf hb hc hl ho FT pl h⟩
def uqk(n:Nat)(l:List An):List An:=List.replicate (α:=An) n {}++l
def upab:Plan:=(.cond .nil .nil)
def upac:Plan:=(uqs .nil)
def upaa:Plan:=(.cond upac .nil)
def umad:Md:=(.own 3 .sh)
def umac:Md:=(.own 0 (.pr .sh (.pr .sh (.pr .sh (.pr .sh (.pr .sh (.pr umad (.pr .sh .sh))))))))
def ujaa:Nat×JE:=(1,.v y23 .bw)
def upaf:Plan:=(.reg [] [{fl:=2}])
def umaf:Md:=(.own 0 .sh)
def upag:Plan:=(uqs upaa)
def umag:Md:=(.own 161 .sh)
def umah:Md:=(.own 57 .sh)
def ujac:Nat×JE:=(13,.v (.ptr y57) (.own 0 (.pr .sh (.pr .sh (.pr .sh (.pr umad .sh))))))
def ujad:Nat×JE:=(1,.v y29 .bw)
def umai:Md:=(.own 0 .bw)
def ujab:Nat×JE:=(3,.v (.ptr y26) umai)
def upai:Plan:=(uqs upac)
def upak:Plan:=(uqs upab)
def upal:Plan:=(uqs (.seq upab (.seq (.block (uqs upag)) uqr)))
def umaj:Md:=(.pr .sh (.pr .sh (.pr .sh .sh)))
def upao:Plan:=(.seq upag upac)
def upap:Plan:=(.seq (.block uqr) uqr)
def ujah:Nat×JE:=(5,.v y23 umad)
def ujai:Nat×JE:=(0,.v y23 .bw)
def ujaj:Nat×JE:=(2,.v y34 .bw)
def ujak:Nat×JE:=(6,.v (.ptr y41) umaf)
def upar:Plan:=(.seq upak (.seq (.block upag) uqr))
def upas:Plan:=(.reg [] [{},{},{},{fl:=1}])
def uxaa:List (XK×JS):=[(.brk 0,[]),(.ret,[(4,uqc)])]
def ujan:Nat×JE:=(6,.v y83 umag)
def ujao:Nat×JE:=(2,.v y29 .bw)
def ujap:Nat×JE:=(1,.v y135 umac)
def ujaq:Nat×JE:=(5,.v (.ptr y26) umai)
def ujas:Nat×JE:=(7,.v y29 (.own 88 .sh))
def ujat:Nat×JE:=(3,.v y23 umad)
def ulad:JS:=[(10,.v (.ptr y26) umaf),(11,.v (.ptr y26) (.own 0 (.pr .sh (.pr .sh (.pr .sh (.pr .sh umaj))))))]
def ujau:Nat×JE:=(11,uqa)
def ujav:Nat×JE:=(2,.v y23 .bw)
def ujaw:Nat×JE:=(0,.v y29 .bw)
def ujax:Nat×JE:=(1,.v y23 .sh)
def upau:Plan:=(.reg [] [{},{},{},{},{fl:=1}])
def ujay:Nat×JE:=(9,.v y23 umad)
def ujaz:Nat×JE:=(10,.v (.ptr y41) (.own 0 (.pr .sh (.pr .sh (.pr .sh (.pr .sh (.pr (.own 99 .sh) .sh)))))))
def ulaf:JS:=[(3,.v (.ptr y95) umai),(4,.v y23 umad),(5,uqa),(20,.v y29 .bw),(21,uqa),(22,uqa)]
def ujba:Nat×JE:=(1,.v y83 .bw)
def ujbb:Nat×JE:=(10,uqa)
def ujbc:Nat×JE:=(3,.v y23 .bw)
def ujbd:Nat×JE:=(1,.v y22 .bw)
def upav:Plan:=(uqs (.cond upac upag))
def upat:Plan:=(uqs (.seq (.join uqr [(0,uqa),(3,.v (.ptr y57) umai),(32,uqc)] upaa) (.seq (uqs (.block (uqs (.cond upac upav)))) upac)))
def ujbe:Nat×JE:=(5,.v y83 umag)
def ujbf:Nat×JE:=(0,.v y23 umad)
def upaw:Plan:=(.reg [] (uqk 6 [{fl:=1}]))
def upaq:Plan:=(uqs (.cond (.seq upaw upac) .nil))
def umak:Md:=(.own 85 .sh)
def ujaf:Nat×JE:=(3,.v y79 umak)
def ujar:Nat×JE:=(6,.v y135 (.own 0 (.pr .sh (.pr umak umaj))))
def ujbg:Nat×JE:=(12,.v (.ptr y57) umaf)
def upax:Plan:=(.reg [(24,[])] [{},{},{},{},{fl:=1}])
def uxab:List (XK×JS):=[(.brk 0,[]),(.ret,[(4,uqa)])]
def ujbh:Nat×JE:=(13,uqa)
def umal:Md:=(.own 79 .sh)
def umam:Md:=(.own 23 .sh)
def ujbi:Nat×JE:=(6,.v y23 umad)
def ujbj:Nat×JE:=(3,.v y34 umah)
def uman:Md:=(.pr .sh (.pr .sh (.pr .sh (.pr .sh (.pr (.own 99 .sh) umad)))))
def umaa:Md:=(.own 0 (.pr .sh (.pr .sh (.pr .sh (.pr .sh (.pr (.own 90 .sh) (.pr umad (.pr umak (.pr .sh (.pr umal uman))))))))))
def umab:Md:=(.own 0 (.pr .sh (.pr .sh (.pr .sh (.pr .sh (.pr umad (.pr umad (.pr .sh (.pr umal (.pr .sh (.pr .sh uman)))))))))))
def ujag:Nat×JE:=(0,.v y76 umaa)
def ujal:Nat×JE:=(0,.v y71 umab)
def upay:Plan:=(uqs uqr)
def upad:Plan:=(uqs (.seq upab (.seq (.block upay) uqr)))
def upah:Plan:=(uqs (.seq upab (.seq (.block (uqs (uqs upay))) uqr)))
def ujbk:Nat×JE:=(0,.v y83 .bw)
def ujbl:Nat×JE:=(10,.v y76 umaa)
def ulak:JS:=[ujag,ujap,(3,uqc),ujay,(15,.v y23 .sh),(16,uqa),(17,uqa)]
def upba:Plan:=(uqs upao)
def ujbm:Nat×JE:=(0,.v y83 umag)
def ujbn:Nat×JE:=(5,.v y34 umah)
def upbb:Plan:=(.reg [] (uqk 15 [{fl:=1}]))
def ujbo:Nat×JE:=(8,.v (.ptr y23) umai)
def ujbp:Nat×JE:=(5,.v (.ptr y85) umaf)
def ujbq:Nat×JE:=(6,.v (.ptr y57) umaf)
def ujbr:Nat×JE:=(8,.v (.ptr y57) umaf)
def ulab:JS:=[(0,uqa),ujad,ujav,ujbq,ujbr,(9,uqa),(10,uqc),ujau]
def ujbs:Nat×JE:=(4,.v (.ptr y57) umai)
def ulam:JS:=[(0,uqa),ujad,(2,.v y34 .sh),(7,.v y34 umah),(8,uqa)]
def ujbt:Nat×JE:=(10,.v y135 umac)
def umao:Md:=(.own 4 .sh)
def umae:Md:=(.own 0 (.pr .sh (.pr .sh (.pr .sh (.pr umao umal)))))
def ujae:Nat×JE:=(5,.v y95 umao)
def ujam:Nat×JE:=(7,.v y95 umao)
def ulac:JS:=[(0,uqa),ujad,ujae,(6,uqa),ujam,(9,.v y23 .sh),ujau,(12,uqc),(63,uqa),(64,uqa),(72,uqa),(73,uqa)]
def ulaj:JS:=[(0,uqa),ujad,ujae,(6,uqa),ujam,(9,.v y23 .sh),(63,uqa),(64,uqa)]
def ulan:JS:=[(0,uqa),ujad,(2,uqa),(8,uqa),(9,.v y34 umah),ujbb]
def ujbu:Nat×JE:=(1,.v y83 .sh)
def ujbv:Nat×JE:=(8,.v y12 .sh)
def ulai:JS:=[ujbm,ujbu,(5,uqa),ujan,(7,uqa),ujbv]
def ulao:JS:=[(0,uqa),ujao,ujbc,ujaq,(9,uqa),(10,uqc),(40,uqc)]
def ujbw:Nat×JE:=(1,.v y29 .sh)
def ulap:JS:=[(0,.v y29 .sh),ujax,(2,uqa),ujas,(8,uqc),(9,uqa)]
def upbc:Plan:=(.cond uqr .nil)
def upae:Plan:=(uqs upbc)
def upaz:Plan:=(.block (uqs upae))
def ujbx:Nat×JE:=(0,.v y34 .sh)
def ulaq:JS:=[(0,uqa),ujad,ujae,(6,uqa)]
def ular:JS:=[(6,uqc)]
def ujby:Nat×JE:=(7,.refi 0 [0,1,1,1,1,0] [])
def ujbz:Nat×JE:=(3,.v y135 umac)
def ujca:Nat×JE:=(15,.v y34 umah)
def ulah:JS:=[(1,uqa),(4,.v y22 .bw),(5,uqa),(13,.v y34 .sh),ujca,(16,uqa)]
def ulas:JS:=[ujbf,(1,uqa),(2,uqa),(3,.v y24 .bw),(8,uqa)]
def ulat:JS:=[(0,uqa),ujaa,(7,.v y23 .bw),(8,uqa),(9,uqa)]
def ujcb:Nat×JE:=(10,.v y12 .sh)
def ujcc:Nat×JE:=(12,uqa)
def ulaa:JS:=[ujag,(1,uqa),ujbp,ujcc,ujbh]
def ulae:JS:=[(1,.v y79 .sh),(2,uqc),(7,.v y23 umad),(9,uqa),ujbb,(11,.v y23 .bw),ujcc,ujbh]
def ulag:JS:=[(1,.v y79 .sh),(2,uqc),(7,.v y23 umad),(11,.v y23 .bw),ujcc,ujbh]
def ujcd:Nat×JE:=(0,.v y91 umae)
def ulau:JS:=[ujaa,ujaj,ujab,(7,uqa)]
def ulav:JS:=[ujae,(14,.v y23 umad),(104,uqa),(105,uqa)]
def ulaw:JS:=[ujaw,(1,.v y95 .bw),ujbi,(7,uqa),(8,uqa)]
def ulax:JS:=[(0,uqa),ujao,ujbc,ujaq,(9,uqa),(10,uqc)]
def ujce:Nat×JE:=(7,.v y12 .sh)
def ujcf:Nat×JE:=(8,.v y23 .bw)
def ujcg:Nat×JE:=(0,.v y76 .bw)
def ulal:JS:=[ujcg,ujaf,(24,.v y78 .bw),(25,uqa),(26,uqa)]
def ujch:Nat×JE:=(3,.v y23 .sh)
def ulay:JS:=[(1,uqa),ujah,(11,.v y23 .bw),ujcc,ujbh]
def upaj:Plan:=(uqs (.seq upaf (.seq (uqs (.block (.loop ulay [(.brk 0,[ujah])] (uqs (.seq upab (.join upaz ulay uqr)))))) upac)))
def upbd:Plan:=(uqs (.seq upab upap))
def ulaz:JS:=[ujbf,(1,.v y104 .bw),(5,uqa),(6,uqa)]
def upbe:Plan:=(.seq upak upap)
def upbf:Plan:=(.block upae)
def upan:Plan:=(uqs (.seq upaf (.seq (uqs (.block (.loop [ujai,ujat,(4,uqa)] [(.brk 0,[ujat])] (.seq upak (.join upbf [ujai,ujat,(4,uqa)] uqr))))) upac)))
def ulba:JS:=[ujaw,(1,uqa),(2,uqa),(7,uqa),(8,uqa)]
def upbg:Plan:=(.seq (.reg [(13,[0,1,1,1,0])] []) .nil)
def ujci:Nat×JE:=(7,.v (.ptr y115) umaf)
def ulbb:JS:=[ujai,(1,.v y24 .bw),(5,uqa),(6,uqa)]
def upam:Plan:=(uqs (.seq upae (uqs (.seq (uqs (.block (.loop ulbb [(.brk 0,[(5,uqa)])] (.seq upak (.join upbf ulbb uqr))))) upac))))
abbrev ua0:=(Bool×(List Int×List Int))
abbrev ua1:=(List Int)
def d135(a:List Int):Option ua1:=
 (bif decide ((a.length:Int)≤LIM)then some ()else none).bind fun u=>
 (d137 (List.take (zau a) a)).bind fun r=>
 some r
def E135:=uqy 135 ⟨[(y83,.bw)],[(y83,umag)]⟩ d135 func135 call135 [.pre zro,.fn E137] upai
def d95(n:Int):Option ua1:=
 (d135 [(wu32 n),(wu32 (wu64 (Int.fdiv n (2^(min (Int.toNat 32) 64)))))]).bind fun r=>
 some r
def E95:=uqy 95 ⟨[(y12,.sh)],[(y83,umag)]⟩ d95 func95 call95 [.fn E135] upai
def d94(n:Int):Option ua1:=
 bif (decide (n<0))then
 (d95 (wu64 (0-(wu64 n)))).bind fun r=>
 some r
 else
 (d95 (wu64 n)).bind fun a=>
 some a
def E94:=uqy 94 ⟨[(y2,.sh)],[(y83,umag)]⟩ d94 func94 call94 [.fn E95] upba
def d131(a:List Int):Option Int:=
 (bif decide ((a.length:Int)≤LIM)then some ()else none).bind fun u=>
 bif (decide (((List.take (zau a) a).length:Int)=0))then
 some 0
 else
 bif (decide (0≤(w (((List.take (zau a) a).length:Int)-1)))&&decide ((w (((List.take (zau a) a).length:Int)-1))<((List.take (zau a) a).length:Int)))then
 (d163 (List.getD (List.take (zau a) a) (Int.toNat (w (((List.take (zau a) a).length:Int)-1))) 0)).bind fun r=>
 some (w ((w (32*(w (((List.take (zau a) a).length:Int)-1))))+r))
 else none
def E131:=uqy 131 ⟨[(y83,.bw)],[(y2,.sh)]⟩ d131 func131 call131 [.pre zro,.fn E163] (uqs upba)
def d132:Option ua0:=
 (d95 1).bind fun r=>
 some (false,[],r)
def sg132:Sig:=⟨[],[(y85,.sh)]⟩
def plan132:Plan:=(uqs (.seq (.reg [] [{},{frz:=[(1,[])]}]) .nil))
def ev132 (xs:Vals (ptys sg132.ps)):evF (P:=prog) tab [.fn E95] sg132 Tryz.f132.results.toList (code Tryz.f132) plan132 xs=d132  := by kernel_rfl
def sim132:Sim prog 132 sg132 d132:=zow mixd tabOK func132 (zfw rfl) call132 (uqn (by kernel_rfl)) (by kernel_rfl) plan132 _ fun xs y h=>(ev132 xs).trans h
def E132:FnE prog:=⟨132,sg132,d132,sim132⟩
def d164(a:List Int)(b:List Int):Option Int:=
 (bif decide ((a.length:Int)≤LIM)then some ()else none).bind fun u=>
 (bif decide ((b.length:Int)≤LIM)then some ()else none).bind fun g=>
 bif !(decide (((List.take (zau a) a).length:Int)=((List.take (zau b) b).length:Int)))then
  bif (decide (((List.take (zau a) a).length:Int)<((List.take (zau b) b).length:Int)))then
   some (-1)
  else
   some 1
 else
  (zad (β:=Unit⊕Int) (fun((c,e,i):ua1×ua1×Int)=>
    bif (decide (0≤i))then
     bif (decide (0≤i)&&decide (i<(c.length:Int)))then
      bif (decide (0≤i)&&decide (i<(e.length:Int)))then
       bif (decide ((c.getD i.toNat 0)<(e.getD i.toNat 0)))then
        some (Sum.inr (Sum.inr (-1)))
       else
        bif (decide (0≤i)&&decide (i<(c.length:Int)))then
         bif (decide (0≤i)&&decide (i<(e.length:Int)))then
          bif (decide ((e.getD i.toNat 0)<(c.getD i.toNat 0)))then
           some (Sum.inr (Sum.inr 1))
          else
           some (Sum.inl (c,e,(w (i-1))))
         else none
        else none
      else none
     else none
    else
     some (Sum.inr (Sum.inl ()))) ((List.take (zau a) a),(List.take (zau b) b),(w (((List.take (zau a) a).length:Int)-1)))).bind fun
  |Sum.inl _=>
   some 0
  |Sum.inr f=>
   some f
def E164:=uqy 164 ⟨[(y83,.bw),(y83,.bw)],[(y2,.sh)]⟩ d164 func164 call164 [.pre zro] (uqs (uqs (.seq (uqs (.cond upao .nil)) (.seq (uqs (.block (.loop [ujbk,ujba,(5,uqa)] uxab (.seq upak (.seq (.block (.block upav)) uqr))))) upac))))
def d165(a:List Int)(d:Int):Option (ua1×Int):=
 bif (decide ((a.length:Int)=(a.length:Int))&&(decide (0≤(a.length:Int))&&decide ((a.length:Int)≤LIM)))then
 (zad (β:=(ua1×Int)) (fun((c,b,q,rest,i):ua1×Int×ua1×Int×Int)=>
 bif (decide (0≤i))then
 bif (decide (0≤i)&&decide (i<(c.length:Int)))then
 bif (!decide (b=0))then
 bif (decide (0≤i)&&decide (i<(q.length:Int)))then
 bif (!decide (b=0))then
 some (Sum.inl (c,b,(List.set q i.toNat (wu32 (wu64 (Int.tdiv (wu64 ((BitVec.ofInt 64 (wu64 (rest*2^(min (Int.toNat 32) 64)))|||BitVec.ofInt 64 (wu64 (c.getD i.toNat 0))).toNat:Int)) b)))),(wu64 (Int.tmod (wu64 ((BitVec.ofInt 64 (wu64 (rest*2^(min (Int.toNat 32) 64)))|||BitVec.ofInt 64 (wu64 (c.getD i.toNat 0))).toNat:Int)) b)),(w (i-1))))
 else none
 else none
 else none
 else none
 else
 some (Sum.inr (q,rest))) (a,d,(List.replicate (Int.toNat (a.length:Int)) 0),0,(w ((a.length:Int)-1)))).bind fun((e,f):ua1×Int)=>
 some (e,f)
 else none
def E165:=uqy 165 ⟨[(y83,.bw),(y12,.sh)],[(y83,umag),(y12,.sh)]⟩ d165 func165 call165 [] (uqs (uqs (uqs (.seq (uqs (.block (.loop [ujbk,(1,.v y12 .sh),ujan,ujce,(8,uqa)] [(.brk 0,[ujan,ujce])] (.seq upak (.seq (.block (uqs upay)) uqr))))) upac))))
def d166(x:Int):Option Int:=
 (d163 x).bind fun r=>
 some (w (32-r))
def E166:=uqy 166 ⟨[(y161,.sh)],[(y2,.sh)]⟩ d166 func166 call166 [.fn E163] upai
def d167(a:List Int)(n:Int):Option ua1:=
 bif (decide ((w ((a.length:Int)+1))=(w ((a.length:Int)+1)))&&(decide (0≤(w ((a.length:Int)+1)))&&decide ((w ((a.length:Int)+1))≤LIM)))then
 (zad (β:=ua1) (fun((c,out,e,f,b):Int×ua1×ua1×Int×Int)=>
 bif (decide (b<f))then
 bif (decide (0≤b)&&decide (b<(e.length:Int)))then
 bif (decide (0≤c))then
 bif (decide (0≤b)&&decide (b<(out.length:Int)))then
 bif (decide (0≤b)&&decide (b<(out.length:Int)))then
 bif (decide (0≤(w (b+1)))&&decide ((w (b+1))<((List.set out b.toNat (wu32 ((BitVec.ofInt 32 (out.getD b.toNat 0)|||BitVec.ofInt 32 (wu32 (wu64 ((wu64 (e.getD b.toNat 0))*2^(min c.toNat 64))))).toNat:Int))).length:Int)))then
 some (Sum.inl (c,(List.set (List.set out b.toNat (wu32 ((BitVec.ofInt 32 (out.getD b.toNat 0)|||BitVec.ofInt 32 (wu32 (wu64 ((wu64 (e.getD b.toNat 0))*2^(min c.toNat 64))))).toNat:Int))) (Int.toNat (w (b+1))) (wu32 (wu64 (Int.fdiv (wu64 ((wu64 (e.getD b.toNat 0))*2^(min c.toNat 64))) (2^(min (Int.toNat 32) 64)))))),e,f,(w (b+1))))
 else none
 else none
 else none
 else none
 else none
 else
 some (Sum.inr out)) (n,(List.replicate (Int.toNat (w ((a.length:Int)+1))) 0),a,(a.length:Int),0)).bind fun(g:List Int)=>
 some g
 else none
def E167:=uqy 167 ⟨[(y83,.bw),(y2,.sh)],[(y83,umag)]⟩ d167 func167 call167 [] (uqs (uqs (.seq (uqs (.block (.loop [(1,uqa),ujbe,(13,.v y83 .bw),(14,uqa),(15,uqa)] [(.brk 0,[ujbe])] upah))) upac)))
def d198(p0:List Int)(p1:List Int)(p2:Int):Option Int:=
 bif (decide (0≤(w (p2+(p1.length:Int))))&&decide ((w (p2+(p1.length:Int)))<(p0.length:Int)))then
 bif (decide (0≤(w ((w (p2+(p1.length:Int)))-1)))&&decide ((w ((w (p2+(p1.length:Int)))-1))<(p0.length:Int)))then
 bif (decide (0≤(w ((p1.length:Int)-1)))&&decide ((w ((p1.length:Int)-1))<(p1.length:Int)))then
 bif (!decide ((wu64 (p1.getD (Int.toNat (w ((p1.length:Int)-1))) 0))=0))then
 bif (!decide ((wu64 (p1.getD (Int.toNat (w ((p1.length:Int)-1))) 0))=0))then
 (zad (β:=Int) (fun((c,e,b,a,j,f,g):ua1×ua1×Int×Int×Int×Int×Int)=>
 letJ (fun((m,n,o,p,h,i,k,q):ua1×ua1×Int×Int×Int×Int×Int×Bool)=>
 bif q then
 bif (decide (4294967296≤(wu64 (k+h))))then
 some (Sum.inr (wu64 (i-1)))
 else
 some (Sum.inl (m,n,o,p,h,(wu64 (i-1)),(wu64 (k+h))))
 else
 some (Sum.inr i)) fun l=>
 bif !(decide (4294967296≤f))then
 bif (decide (0≤(w (a-2)))&&decide ((w (a-2))<(e.length:Int)))then
 bif (decide (0≤(w ((w (b+a))-2)))&&decide ((w ((w (b+a))-2))<(c.length:Int)))then
 l (c,e,b,a,j,f,g,(decide ((wu64 ((BitVec.ofInt 64 (wu64 (g*2^(min (Int.toNat 32) 64)))|||BitVec.ofInt 64 (wu64 (c.getD (Int.toNat (w ((w (b+a))-2))) 0))).toNat:Int))<(wu64 (f*(wu64 (e.getD (Int.toNat (w (a-2))) 0)))))))
 else none
 else none
 else
 l (c,e,b,a,j,f,g,true)) (p0,p1,p2,(p1.length:Int),(wu64 (p1.getD (Int.toNat (w ((p1.length:Int)-1))) 0)),(wu64 (Int.tdiv (wu64 ((BitVec.ofInt 64 (wu64 ((wu64 (p0.getD (Int.toNat (w (p2+(p1.length:Int)))) 0))*2^(min (Int.toNat 32) 64)))|||BitVec.ofInt 64 (wu64 (p0.getD (Int.toNat (w ((w (p2+(p1.length:Int)))-1))) 0))).toNat:Int)) (wu64 (p1.getD (Int.toNat (w ((p1.length:Int)-1))) 0)))),(wu64 (Int.tmod (wu64 ((BitVec.ofInt 64 (wu64 ((wu64 (p0.getD (Int.toNat (w (p2+(p1.length:Int)))) 0))*2^(min (Int.toNat 32) 64)))|||BitVec.ofInt 64 (wu64 (p0.getD (Int.toNat (w ((w (p2+(p1.length:Int)))-1))) 0))).toNat:Int)) (wu64 (p1.getD (Int.toNat (w ((p1.length:Int)-1))) 0)))))).bind fun(r:Int)=>
 some r
 else none
 else none
 else none
 else none
 else none
def E198:=uqy 198 ⟨[(y83,.bw),(y83,.bw),(y2,.sh)],[(y12,.sh)]⟩ d198 func198 call198 [] (uqs (uqs (uqs (uqs (uqs (.seq (.block (.loop [ujbk,ujba,(2,uqa),(7,uqa),(9,.v y12 .sh),ujcb,(11,.v y12 .sh)] [(.brk 0,[ujcb])] (.seq (.join uqr [ujbk,ujba,(2,uqa),(7,uqa),(9,.v y12 .sh),ujcb,(11,.v y12 .sh),(66,uqc)] upab) (.block (uqs (uqs upak)))))) upac))))))
def d199(a:List Int)(i:Int):Option Int:=
 bif (decide (i<(a.length:Int)))then
 bif (decide (0≤i)&&decide (i<(a.length:Int)))then
 some (wu64 (a.getD i.toNat 0))
 else none
 else
 some 0
def E199:=uqy 199 ⟨[(y83,.bw),(y2,.sh)],[(y12,.sh)]⟩ d199 func199 call199 [] upba
def d168(p0:List Int)(p1:List Int):Option (ua1×ua1):=
 bif (decide ((w ((p0.length:Int)-(p1.length:Int)))=(w ((p0.length:Int)-(p1.length:Int))))&&(decide (0≤(w ((p0.length:Int)-(p1.length:Int))))&&decide ((w ((p0.length:Int)-(p1.length:Int)))≤LIM)))then
 (zad (β:=(ua1×ua1)) (fun((j,s,t,u,k):ua1×ua1×Int×ua1×Int)=>
 bif (decide (0≤k))then
 (d198 j s k).bind fun r=>
 (zad (β:=(ua1×ua1×Int×ua1×Int×Int×Int)) (fun((f,l,v,x,c,h,m,n,y,a):ua1×ua1×Int×ua1×Int×Int×Int×Int×Int×Int)=>
 bif (decide (a<y))then
 (d199 l a).bind fun o=>
 bif (decide (0≤(w (a+c)))&&decide ((w (a+c))<(f.length:Int)))then
 bif (decide (0≤(w (a+c)))&&decide ((w (a+c))<(f.length:Int)))then
 some (Sum.inl ((List.set f (Int.toNat (w (a+c))) (wu32 (wu64 ((wu64 ((wu64 (4294967296+(wu64 (f.getD (Int.toNat (w (a+c))) 0))))-(wu64 ((BitVec.ofInt 64 (wu64 ((wu64 (h*o))+n))&&&BitVec.ofInt 64 4294967295).toNat:Int))))-m)))),l,v,x,c,h,(wu64 (1-(wu64 (Int.fdiv (wu64 ((wu64 ((wu64 (4294967296+(wu64 (f.getD (Int.toNat (w (a+c))) 0))))-(wu64 ((BitVec.ofInt 64 (wu64 ((wu64 (h*o))+n))&&&BitVec.ofInt 64 4294967295).toNat:Int))))-m)) (2^(min (Int.toNat 32) 64)))))),(wu64 (Int.fdiv (wu64 ((wu64 (h*o))+n)) (2^(min (Int.toNat 32) 64)))),y,(w (a+1))))
 else none
 else none
 else
 some (Sum.inr (f,l,v,x,c,h,m))) (j,s,t,u,k,r,0,0,(w (t+1)),0)).bind fun((z,aa,p,ab,ac,ae,an):ua1×ua1×Int×ua1×Int×Int×Int)=>
 letJ (fun((ao,ap,aq,af,i,ar):ua1×ua1×Int×ua1×Int×Int)=>
 bif (decide (0≤i)&&decide (i<(af.length:Int)))then
 some (Sum.inl (ao,ap,aq,(List.set af i.toNat (wu32 ar)),(w (i-1))))
 else none) fun ag=>
 bif (decide (0<an))then
 (zad (β:=(ua1×ua1×Int×ua1×Int×Int)) (fun((g,q,ah,ai,e,aj,ak,al,b):ua1×ua1×Int×ua1×Int×Int×Int×Int×Int)=>
 bif (decide (b<al))then
 bif (decide (0≤(w (b+e)))&&decide ((w (b+e))<(g.length:Int)))then
 (d199 q b).bind fun am=>
 bif (decide (0≤(w (b+e)))&&decide ((w (b+e))<(g.length:Int)))then
 some (Sum.inl ((List.set g (Int.toNat (w (b+e))) (wu32 (wu64 ((wu64 ((wu64 (g.getD (Int.toNat (w (b+e))) 0))+am))+ak)))),q,ah,ai,e,aj,(wu64 (Int.fdiv (wu64 ((wu64 ((wu64 (g.getD (Int.toNat (w (b+e))) 0))+am))+ak)) (2^(min (Int.toNat 32) 64)))),al,(w (b+1))))
 else none
 else none
 else
 some (Sum.inr (g,q,ah,ai,e,aj))) (z,aa,p,ab,ac,(wu64 (ae-1)),0,(w (p+1)),0)).bind fun((au,av,ax,ay,az,ba):ua1×ua1×Int×ua1×Int×Int)=>
 ag (au,av,ax,ay,az,ba)
 else
 ag (z,aa,p,ab,ac,ae)
 else
 some (Sum.inr (j,u))) (p0,p1,(p1.length:Int),(List.replicate (Int.toNat (w ((p0.length:Int)-(p1.length:Int)))) 0),(w ((w ((p0.length:Int)-(p1.length:Int)))-1)))).bind fun((bb,bc):ua1×ua1)=>
 some (bc,bb)
 else none
def E168:=uqy 168 ⟨[(y83,(.io umag)),(y83,.sh)],[(y83,umag)]⟩ d168 func168 call168 [.fn E198,.fn E199] (uqs (uqs (uqs (.seq (uqs (.block (.loop [ujbm,ujbu,(5,uqa),ujan,(7,uqa)] [(.brk 0,[ujbm,ujan])] (.seq upak (.seq (.block (uqs (uqs (.seq (uqs (.block (.loop [ujbm,ujbu,(5,uqa),ujan,(7,uqa),ujbv,(9,.v y12 .sh),ujcb,(37,uqa),(38,uqa)] [(.brk 2,[ujbm,ujbu,(5,uqa),ujan,(7,uqa),ujbv,(9,.v y12 .sh)])] (uqs (.seq upab (.seq (.block (uqs (uqs (uqs (uqs upay))))) uqr)))))) (.join (uqs (.cond (uqs (uqs (uqs (.block (.loop [ujbm,ujbu,(5,uqa),ujan,(7,uqa),ujbv,ujcb,(79,uqa),(80,uqa)] [(.brk 4,ulai)] upah))))) .nil)) ulai uqr))))) uqr))))) upac))))
def d169(a:List Int)(n:Int):Option ua1:=
 bif (decide ((a.length:Int)=(a.length:Int))&&(decide (0≤(a.length:Int))&&decide ((a.length:Int)≤LIM)))then
 (zad (β:=ua1) (fun((c,e,out,f,b):ua1×Int×ua1×Int×Int)=>
 bif (decide (b<f))then
 (d199 c b).bind fun r=>
 (d199 c (w (b+1))).bind fun g=>
 bif (decide (0≤e))then
 bif (decide (0≤b)&&decide (b<(out.length:Int)))then
 some (Sum.inl (c,e,(List.set out b.toNat (wu32 (wu64 (Int.fdiv (wu64 ((BitVec.ofInt 64 r|||BitVec.ofInt 64 (wu64 (g*2^(min (Int.toNat 32) 64)))).toNat:Int)) (2^(min e.toNat 64)))))),f,(w (b+1))))
 else none
 else none
 else
 some (Sum.inr out)) (a,n,(List.replicate (Int.toNat (a.length:Int)) 0),(a.length:Int),0)).bind fun(h:List Int)=>
 some h
 else none
def E169:=uqy 169 ⟨[(y83,.bw),(y2,.sh)],[(y83,umag)]⟩ d169 func169 call169 [.fn E199] (uqs (uqs (.seq (uqs (.block (.loop [ujbk,(1,uqa),ujbe,ujau,ujcc] [(.brk 0,[ujbe])] upad))) upac)))
def d134(p0:List Int)(p1:List Int):Option (ua1×ua1×Bool):=
 (bif decide ((p0.length:Int)≤LIM)then some ()else none).bind fun u=>
 (bif decide ((p1.length:Int)≤LIM)then some ()else none).bind fun m=>
 bif (decide (((List.take (zau p1) p1).length:Int)=0))then
 some ([],[],false)
 else
 (d164 (List.take (zau p0) p0) (List.take (zau p1) p1)).bind fun r=>
 bif (decide (r<0))then
 (d137 (List.take (zau p0) p0)).bind fun f=>
 some ([],f,true)
 else
 bif (decide (((List.take (zau p1) p1).length:Int)=1))then
 bif (decide (0≤0)&&decide (0<((List.take (zau p1) p1).length:Int)))then
 (d165 (List.take (zau p0) p0) (wu64 (List.getD (List.take (zau p1) p1) 0 0))).bind fun c=>
 (d135 c.1).bind fun g=>
 (d95 c.2).bind fun h=>
 some (g,h,true)
 else none
 else
 bif (decide (0≤(w (((List.take (zau p1) p1).length:Int)-1)))&&decide ((w (((List.take (zau p1) p1).length:Int)-1))<((List.take (zau p1) p1).length:Int)))then
 (d166 (List.getD (List.take (zau p1) p1) (Int.toNat (w (((List.take (zau p1) p1).length:Int)-1))) 0)).bind fun a=>
 (d167 (List.take (zau p0) p0) a).bind fun i=>
 (d167 (List.take (zau p1) p1) a).bind fun b=>
 (bif decide ((b.length:Int)≤LIM)then some ()else none).bind fun n=>
 (d168 i (List.take (zau b) b)).bind fun e=>
 (d135 e.1).bind fun j=>
 (d169 e.2 a).bind fun k=>
 (d135 k).bind fun l=>
 some (j,l,true)
 else none
def E134:=uqy 134 ⟨[(y83,.bw),(y83,.bw)],[(y83,.sh),(y83,.sh),(y4,.sh)]⟩ d134 func134 call134 [.pre zro,.fn E164,.fn E137,.fn E165,.fn E135,.fn E95,.fn E166,.fn E167,.fn E168,.fn E169] (.post (uqs (uqs (.seq (.block (uqs (.cond upac (uqs (.cond upac upaq))))) (uqs (.seq (.reg [] (uqk 6 [{frz:=[(56,[])]}])) upai))))) [(5,[]),(4,[])])
def d133(a:List Int)(b:List Int):Option ua1:=
 (d135 a).bind fun r=>
 (d135 b).bind fun f=>
 (zad (β:=ua1) (fun((e,c):ua1×ua1)=>
 bif (decide (0<(c.length:Int)))then
 (d134 e c).bind fun g=>
 some (Sum.inl (c,g.2.1))
 else
 some (Sum.inr e)) (r,f)).bind fun(h:List Int)=>
 some h
def E133:=uqy 133 ⟨[(y83,.bw),(y83,.bw)],[(y83,.sh)]⟩ d133 func133 call133 [.fn E135,.fn E134] (uqs (uqs (.seq (.block (.frz [(1,[]),(0,[])] (.loop [(0,.v y83 .sh),ujbu] [(.brk 0,[(0,.v y83 .sh)])] (.seq upak (.block (.seq upas uqr)))))) upac)))
def d93(neg:Bool)(num:List Int)(den:List Int):Option ua0:=
 letJ (fun((f,a,b,l,g):Bool×ua1×ua1×ua0×Bool)=>
 bif g then
 (d132).bind fun h=>
 some h
 else
 (d133 a b).bind fun c=>
 (d134 a c).bind fun i=>
 (d134 b c).bind fun j=>
 some (f,i.1,j.1)) fun e=>
 (d131 num).bind fun r=>
 bif !(decide (r=0))then
 (d131 den).bind fun k=>
 e (neg,num,den,(false,[],[]),(decide (k=0)))
 else
 e (neg,num,den,(false,[],[]),true)
def E93:=uqy 93 ⟨[(y4,.sh),(y83,.bw),(y83,.bw)],[(y85,.sh)]⟩ d93 func93 call93 [.fn E131,.fn E132,.fn E133,.fn E134] (uqs (.seq (.join uqr [(0,uqc),ujba,(2,.v y83 .bw),(6,.v (.ptr y85) umaf),(21,uqc)] upaa) (uqs (.seq upas (.seq upas upac)))))
def d49(n:Int):Option ua0:=
 (d94 n).bind fun r=>
 (d95 1).bind fun a=>
 (d93 (decide (n<0)) r a).bind fun b=>
 some b
def E49:=uqy 49 ⟨[(y2,.sh)],[(y85,.sh)]⟩ d49 func49 call49 [.fn E94,.fn E95,.fn E93] upai
def d82(a:Int)(b:Int):Option ua0:=
 (d94 a).bind fun r=>
 (d94 b).bind fun c=>
 (d93 (!((decide (a<0)) == (decide (b<0)))) r c).bind fun e=>
 some e
def E82:=uqy 82 ⟨[(y2,.sh),(y2,.sh)],[(y85,.sh)]⟩ d82 func82 call82 [.fn E94,.fn E93] upai
def d138(r:ua0):Option ua0:=
 (d93 r.1 r.2.1 r.2.2).bind fun a=>
 some a
def E138:=uqy 138 ⟨[(y85,.bw)],[(y85,.sh)]⟩ d138 func138 call138 [.fn E93] upai
def d140(p0:List Int)(p1:List Int):Option ua1:=
 (bif decide ((p0.length:Int)≤LIM)then some ()else none).bind fun u=>
 (bif decide ((p1.length:Int)≤LIM)then some ()else none).bind fun ac=>
 bif (decide ((w (((List.take (zau p0) p0).length:Int)+((List.take (zau p1) p1).length:Int)))=(w (((List.take (zau p0) p0).length:Int)+((List.take (zau p1) p1).length:Int))))&&(decide (0≤(w (((List.take (zau p0) p0).length:Int)+((List.take (zau p1) p1).length:Int))))&&decide ((w (((List.take (zau p0) p0).length:Int)+((List.take (zau p1) p1).length:Int)))≤LIM)))then
 (zad (β:=ua1) (fun((h,m,i,n,c):ua1×ua1×ua1×Int×Int)=>
 bif (decide (c<n))then
 bif (decide (0≤c)&&decide (c<(i.length:Int)))then
 (zad (β:=(ua1×ua1×Int×Int×ua1×Int×Int)) (fun((o,e,b,j,k,p,q,s,f,t,a):ua1×ua1×Int×Int×Int×ua1×Int×Int×ua1×Int×Int)=>
 bif (decide (a<t))then
 bif (decide (0≤a)&&decide (a<(f.length:Int)))then
 bif (decide (0≤(w (b+a)))&&decide ((w (b+a))<(e.length:Int)))then
 bif (decide (0≤(w (b+a)))&&decide ((w (b+a))<(e.length:Int)))then
 some (Sum.inl (o,(List.set e (Int.toNat (w (b+a))) (wu32 (wu64 ((wu64 ((wu64 ((wu64 j)*(wu64 (f.getD a.toNat 0))))+(wu64 (e.getD (Int.toNat (w (b+a))) 0))))+k)))),b,j,(wu64 (Int.fdiv (wu64 ((wu64 ((wu64 ((wu64 j)*(wu64 (f.getD a.toNat 0))))+(wu64 (e.getD (Int.toNat (w (b+a))) 0))))+k)) (2^(min (Int.toNat 32) 64)))),p,q,s,f,t,(w (a+1))))
 else none
 else none
 else none
 else
 some (Sum.inr (o,e,b,k,p,q,s))) (h,m,c,(i.getD c.toNat 0),0,i,n,c,h,(h.length:Int),0)).bind fun((g,v,l,x,y,z,aa):ua1×ua1×Int×Int×ua1×Int×Int)=>
 bif (decide (0≤(w (l+(g.length:Int))))&&decide ((w (l+(g.length:Int)))<(v.length:Int)))then
 some (Sum.inl (g,(List.set v (Int.toNat (w (l+(g.length:Int)))) (wu32 x)),y,z,(w (aa+1))))
 else none
 else none
 else
 some (Sum.inr m)) ((List.take (zau p1) p1),(List.replicate (Int.toNat (w (((List.take (zau p0) p0).length:Int)+((List.take (zau p1) p1).length:Int)))) 0),(List.take (zau p0) p0),((List.take (zau p0) p0).length:Int),0)).bind fun(ab:List Int)=>
 (d135 ab).bind fun r=>
 some r
 else none
def E140:=uqy 140 ⟨[(y83,.bw),(y83,.bw)],[(y83,umag)]⟩ d140 func140 call140 [.pre zro,.fn E135] (uqs (uqs (uqs (.seq (uqs (.block (.loop [ujba,ujbe,(22,.v y83 .bw),(23,uqa),(24,uqa)] [(.brk 0,[ujbe])] (uqs (.seq upab (.seq (.block (uqs (uqs (.seq (uqs (.block (.loop [ujba,ujbe,(6,uqa),(7,.v y161 .sh),ujbv,(22,.v y83 .bw),(23,uqa),(24,uqa),(29,.v y83 .bw),(30,uqa),(31,uqa)] [(.brk 2,[ujba,ujbe,(6,uqa),ujbv,(22,.v y83 .bw),(23,uqa),(24,uqa)])] upah))) uqr)))) uqr)))))) upac))))
def d170(a:List Int)(b:List Int):Option ua1:=
 (bif decide ((a.length:Int)≤LIM)then some ()else none).bind fun u=>
 (bif decide ((b.length:Int)≤LIM)then some ()else none).bind fun m=>
 bif (decide ((w ((bif (decide (((List.take (zau a) a).length:Int)<((List.take (zau b) b).length:Int)))then((List.take (zau b) b).length:Int)else((List.take (zau a) a).length:Int))+1))=(w ((bif (decide (((List.take (zau a) a).length:Int)<((List.take (zau b) b).length:Int)))then((List.take (zau b) b).length:Int)else((List.take (zau a) a).length:Int))+1)))&&(decide (0≤(w ((bif (decide (((List.take (zau a) a).length:Int)<((List.take (zau b) b).length:Int)))then((List.take (zau b) b).length:Int)else((List.take (zau a) a).length:Int))+1)))&&decide ((w ((bif (decide (((List.take (zau a) a).length:Int)<((List.take (zau b) b).length:Int)))then((List.take (zau b) b).length:Int)else((List.take (zau a) a).length:Int))+1))≤LIM)))then
 (zad (β:=(Int×ua1×Int)) (fun((f,g,n,out,carry,h,c):ua1×ua1×Int×ua1×Int×Int×Int)=>
 bif (decide (c<h))then
 (d199 f c).bind fun r=>
 (d199 g c).bind fun i=>
 bif (decide (0≤c)&&decide (c<(out.length:Int)))then
 some (Sum.inl (f,g,n,(List.set out c.toNat (wu32 (wu64 ((wu64 (r+i))+carry)))),(wu64 (Int.fdiv (wu64 ((wu64 (r+i))+carry)) (2^(min (Int.toNat 32) 64)))),h,(w (c+1))))
 else none
 else
 some (Sum.inr (n,out,carry))) ((List.take (zau a) a),(List.take (zau b) b),(bif (decide (((List.take (zau a) a).length:Int)<((List.take (zau b) b).length:Int)))then((List.take (zau b) b).length:Int)else((List.take (zau a) a).length:Int)),(List.replicate (Int.toNat (w ((bif (decide (((List.take (zau a) a).length:Int)<((List.take (zau b) b).length:Int)))then((List.take (zau b) b).length:Int)else((List.take (zau a) a).length:Int))+1))) 0),0,(bif (decide (((List.take (zau a) a).length:Int)<((List.take (zau b) b).length:Int)))then((List.take (zau b) b).length:Int)else((List.take (zau a) a).length:Int)),0)).bind fun((e,j,k):Int×ua1×Int)=>
 bif (decide (0≤e)&&decide (e<(j.length:Int)))then
 (d135 (List.set j e.toNat (wu32 k))).bind fun l=>
 some l
 else none
 else none
def E170:=uqy 170 ⟨[(y83,.bw),(y83,.bw)],[(y83,umag)]⟩ d170 func170 call170 [.pre zro,.fn E199,.fn E135] (uqs (uqs (uqs (uqs (uqs (.seq (uqs (.block (.loop [ujbk,ujba,(5,uqa),ujan,ujce,(22,uqa),(23,uqa)] [(.brk 0,[(5,uqa),ujan,ujce])] upah))) upai))))))
def d171(a:List Int)(b:List Int):Option (ua1×Bool):=
 (bif decide ((a.length:Int)≤LIM)then some ()else none).bind fun u=>
 (bif decide ((b.length:Int)≤LIM)then some ()else none).bind fun l=>
 (d164 (List.take (zau a) a) (List.take (zau b) b)).bind fun r=>
 bif (decide (r<0))then
 some ([],false)
 else
 bif (decide (((List.take (zau a) a).length:Int)=((List.take (zau a) a).length:Int))&&(decide (0≤((List.take (zau a) a).length:Int))&&decide (((List.take (zau a) a).length:Int)≤LIM)))then
 (zad (β:=ua1) (fun((e,f,out,borrow,g,c):ua1×ua1×ua1×Int×Int×Int)=>
 bif (decide (c<g))then
 (d199 e c).bind fun h=>
 (d199 f c).bind fun i=>
 bif (decide (0≤c)&&decide (c<(out.length:Int)))then
 some (Sum.inl (e,f,(List.set out c.toNat (wu32 (wu64 ((wu64 ((wu64 (4294967296+h))-i))-borrow)))),(wu64 (1-(wu64 (Int.fdiv (wu64 ((wu64 ((wu64 (4294967296+h))-i))-borrow)) (2^(min (Int.toNat 32) 64)))))),g,(w (c+1))))
 else none
 else
 some (Sum.inr out)) ((List.take (zau a) a),(List.take (zau b) b),(List.replicate (Int.toNat ((List.take (zau a) a).length:Int)) 0),0,((List.take (zau a) a).length:Int),0)).bind fun(j:List Int)=>
 (d135 j).bind fun k=>
 some (k,true)
 else none
def E171:=uqy 171 ⟨[(y83,.bw),(y83,.bw)],[(y83,.sh),(y4,.sh)]⟩ d171 func171 call171 [.pre zro,.fn E164,.fn E199,.fn E135] (.post (uqs (uqs (.seq upag (uqs (uqs (.seq (uqs (.block (.loop [ujbk,ujba,ujan,ujce,(22,uqa),(23,uqa)] [(.brk 0,[ujan])] upah))) upac)))))) [(4,[])])
def d139(aNeg:Bool)(a:List Int)(bNeg:Bool)(b:List Int):Option (Bool×ua1):=
 bif (aNeg == bNeg)then
 (d170 a b).bind fun r=>
 some (aNeg,r)
 else
 (d171 a b).bind fun c=>
 bif c.2 then
 some (aNeg,c.1)
 else
 (d171 b a).bind fun e=>
 some (bNeg,e.1)
def E139:=uqy 139 ⟨[(y4,.sh),(y83,.bw),(y4,.sh),(y83,.bw)],[(y4,.sh),(y83,.sh)]⟩ d139 func139 call139 [.fn E170,.fn E171] (.post (uqs (.seq upag (.seq (.seq upas upag) (.seq upas upac)))) [(9,[])])
def d104(a:ua0)(b:ua0):Option ua0:=
 (d138 a).bind fun r=>
 (d138 b).bind fun c=>
 (d140 r.2.1 c.2.2).bind fun f=>
 (d140 c.2.1 r.2.2).bind fun g=>
 (d139 r.1 f c.1 g).bind fun e=>
 (d140 r.2.2 c.2.2).bind fun h=>
 (d93 e.1 e.2 h).bind fun i=>
 some i
def E104:=uqy 104 ⟨[(y85,.bw),(y85,.bw)],[(y85,.sh)]⟩ d104 func104 call104 [.fn E138,.fn E140,.fn E139,.fn E93] (uqs (uqs (.seq upbb upac)))
def d98(a:ua0)(b:ua0):Option ua0:=
 (d104 a (!b.1,b.2)).bind fun r=>
 some r
def E98:=uqy 98 ⟨[(y85,.bw),(y85,.bw)],[(y85,.sh)]⟩ d98 func98 call98 [.fn E104] (uqs upai)
def d103(a:ua0)(b:ua0):Option Int:=
 (d98 a b).bind fun r=>
 bif r.1 then
 some (-1)
 else
 bif (decide ((r.2.1.length:Int)=0))then
 some 0
 else
 some 1
def E103:=uqy 103 ⟨[(y85,.bw),(y85,.bw)],[(y2,.sh)]⟩ d103 func103 call103 [.fn E98] (uqs (uqs (.seq (.block upav) upac)))
def d136(a:ua0)(b:ua0):Option ua0:=
 (d140 a.2.1 b.2.1).bind fun r=>
 (d140 a.2.2 b.2.2).bind fun c=>
 (d93 (!(a.1 == b.1)) r c).bind fun e=>
 some e
def E136:=uqy 136 ⟨[(y85,.bw),(y85,.bw)],[(y85,.sh)]⟩ d136 func136 call136 [.fn E140,.fn E93] upai
def d142(a:ua0)(b:ua0):Option (ua0×Bool):=
 (d138 a).bind fun r=>
 (d138 b).bind fun c=>
 bif (decide ((c.2.1.length:Int)=0))then
 some ((false,[],[]),false)
 else
 (d140 r.2.1 c.2.2).bind fun e=>
 (d140 r.2.2 c.2.1).bind fun f=>
 (d93 (!(r.1 == c.1)) e f).bind fun g=>
 some (g,true)
def E142:=uqy 142 ⟨[(y85,.bw),(y85,.bw)],[(y85,.sh),(y4,.sh)]⟩ d142 func142 call142 [.fn E138,.fn E140,.fn E93] (uqs upba)
end
end Go.Proofs.YtfgjbkjddcjlfaaGreat
