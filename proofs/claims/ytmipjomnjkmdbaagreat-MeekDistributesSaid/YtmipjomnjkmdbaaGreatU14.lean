/- Part 14 of what stands below the statement. -/
import Derived.Laws.CopyOwn
import Derived.Deep.RegionLaw
import Derived.Deep.OwnRows
import Derived.Test.YtmipjomnjkmdbaaGreatU13
set_option linter.unusedSimpArgs false
set_option linter.unusedVariables false
set_option linter.unnecessarySimpa false
namespace Go.Proofs.YtmipjomnjkmdbaaGreat
open Go Go.Proofs Go.RowKit Go.X
attribute [local go_sem] Oper.semAt_some
def FrR(g m k:Nat)(a:Act):Prop:=∃(x0 x1 x2 x3 x4 x5 x6 x9 x10 x11 x12 x13 x14 x15 x16 x17 x18 x19 x20 x21 x22 x23 x24 x25 x26 x27 x28 x29 x30 x31 x32 x33 x34 x35 x36 x37 x38 x39 x40 x41 x42 x43 x44 x45 x46 x47:Value),a={tmps:=#[x0,x1,x2,x3,x4,x5,x6,.slice (some ⟨g,0,none⟩) m m,.int .i64 (k:Int),x9,x10,x11,x12,x13,x14,x15,x16,x17,x18,x19,x20,x21,x22,x23,x24,x25,x26,x27,x28,x29,x30,x31,x32,x33,x34,x35,x36,x37,x38,x39,x40,x41,x42,x43,x44,x45,x46,x47],defers:=[]}
theorem FrR.mk{g m k:Nat}{x0 x1 x2 x3 x4 x5 x6 x9 x10 x11 x12 x13 x14 x15 x16 x17 x18 x19 x20 x21 x22 x23 x24 x25 x26 x27 x28 x29 x30 x31 x32 x33 x34 x35 x36 x37 x38 x39 x40 x41 x42 x43 x44 x45 x46 x47:Value}:FrR g m k {tmps:=#[x0,x1,x2,x3,x4,x5,x6,.slice (some ⟨g,0,none⟩) m m,.int .i64 (k:Int),x9,x10,x11,x12,x13,x14,x15,x16,x17,x18,x19,x20,x21,x22,x23,x24,x25,x26,x27,x28,x29,x30,x31,x32,x33,x34,x35,x36,x37,x38,x39,x40,x41,x42,x43,x44,x45,x46,x47],defers:=[]}:=⟨x0,x1,x2,x3,x4,x5,x6,x9,x10,x11,x12,x13,x14,x15,x16,x17,x18,x19,x20,x21,x22,x23,x24,x25,x26,x27,x28,x29,x30,x31,x32,x33,x34,x35,x36,x37,x38,x39,x40,x41,x42,x43,x44,x45,x46,x47,rfl⟩
theorem FrR.elim{g m k:Nat}{a:Act}{P:Prop}(h:FrR g m k a)(f:∀(x0 x1 x2 x3 x4 x5 x6 x9 x10 x11 x12 x13 x14 x15 x16 x17 x18 x19 x20 x21 x22 x23 x24 x25 x26 x27 x28 x29 x30 x31 x32 x33 x34 x35 x36 x37 x38 x39 x40 x41 x42 x43 x44 x45 x46 x47:Value),a={tmps:=#[x0,x1,x2,x3,x4,x5,x6,.slice (some ⟨g,0,none⟩) m m,.int .i64 (k:Int),x9,x10,x11,x12,x13,x14,x15,x16,x17,x18,x19,x20,x21,x22,x23,x24,x25,x26,x27,x28,x29,x30,x31,x32,x33,x34,x35,x36,x37,x38,x39,x40,x41,x42,x43,x44,x45,x46,x47],defers:=[]}→P):P:=by
 obtain⟨x0,x1,x2,x3,x4,x5,x6,x9,x10,x11,x12,x13,x14,x15,x16,x17,x18,x19,x20,x21,x22,x23,x24,x25,x26,x27,x28,x29,x30,x31,x32,x33,x34,x35,x36,x37,x38,x39,x40,x41,x42,x43,x44,x45,x46,x47,e⟩:=h
 exact f x0 x1 x2 x3 x4 x5 x6 x9 x10 x11 x12 x13 x14 x15 x16 x17 x18 x19 x20 x21 x22 x23 x24 x25 x26 x27 x28 x29 x30 x31 x32 x33 x34 x35 x36 x37 x38 x39 x40 x41 x42 x43 x44 x45 x46 x47 e
def rw_(m k:Nat)(v:Int):List Value:=List.replicate k (.int .i64 v)++List.replicate (m-k) (.int .i64 0)
theorem rw_splice{m k d:Nat}(v:Int)(h:k+d≤m):splice (rw_ m k v) k (List.replicate d (.int .i64 v))=rw_ m (k+d) v:=by
 unfold splice rw_
 rw[List.length_replicate,List.take_left' (by simp),List.drop_append,List.drop_eq_nil_of_le (by simp),xcu,List.length_replicate,List.drop_replicate,←xcp,List.replicate_append_replicate]
 congr 2
 omega
theorem rw_zero(m:Nat)(v:Int):rw_ m 0 v=List.replicate m (.int .i64 0):=by unfold rw_;rw[Nat.sub_zero];rfl
theorem rw_len{m k:Nat}(v:Int)(h:k≤m):(rw_ m k v).length=m:=by unfold rw_;simp;omega
theorem hsz3:(Tryz.prog.info? 3).map (·.size)=some 1:=by
 have:=info3
 cases hq:Tryz.prog.info? 3 with
 |none=>rw[hq]at this;cases this
 |some i=>
  rw[hq]at this
  simp only[xbh,xak,xao]at this
  rw[xbh,this.2.1]
theorem make26(m:Nat)(hm:m≤1000)(w:World):(Instr.makeSlice 26 (.int .i64 (m:Int)) (.int .i64 (m:Int))).run Tryz.prog w=.ok (.slice (some ⟨w.heap.size,0,none⟩) m m) (w.alloc (.cells (rw_ m 0 0).toArray 3)):=by
 rw[run_make_row' 26 3 (.int .i64 0) 8 Tryz.underlying26 info3 rfl .i64 .i64 m (by omega) (by omega) w,rw_zero,←toList_madeCells_one,Array.toArray_toList]
set_option maxRecDepth 100000 in
set_option maxHeartbeats 4000000 in
theorem repeat_ok(b off c m:Nat)(v:Int)(w:World)(hm:m≤1000)(hc:w.cell? ⟨b,off,none⟩=some (.int .i64 v)) :
  Calls Tryz.prog 112 #[.slice (some ⟨b,off,none⟩) 1 c,.int .i64 (m:Int)] w fun e w'=>∃v',e=.returned v'∧w'.ownsRow w.heap.size 3 1 v' m (List.replicate m (.int .i64 v))∧Below w.heap.size w w':=by
 have hin:∀c:Int,0≤c→c≤4294967296→IntKind.i64.wrap c=c:=fun c h0 h1=>IntWalk.i64_in c ⟨by omega,by omega⟩
 have hmul:∀w',Calls Tryz.prog 156 #[.int .u64 1,.int .u64 (m:Int)] w' fun e w''=>e=.returned (.tuple #[.int .u64 0,.int .u64 (m:Int)])∧w''=w':=fun w'=>by
  have h:=Any.bits_Mul Tryz.mul 1 m (by omega) (by omega) w'
  have e1:1*m/18446744073709551616=0:=by omega
  have e2:1*m%18446744073709551616=m:=by omega
  rw[e1,e2]at h
  exact h
 have hmk:=make26 m hm
 have hc':∀o,(w.alloc o).cell? ⟨b,off,none⟩=some (.int .i64 v):=fun o=>Lib.cell?_alloc_some _ hc
 have hm0:¬(m:Int)<0:=by omega
 have hm1:¬(9223372036854775807:Int)<(m:Int):=by omega
 obtain⟨d0,hd0⟩:∃d0,d0=Nat.min 1 m:=⟨_,rfl⟩
 have hd1:d0≤1∧d0≤m∧(0<m→0<d0):=by
  rw[hd0]
  refine⟨xgr _ _,Nat.min_le_right _ _,fun h=>?_⟩
  show 0<min 1 m
  omega
 obtain⟨X,hX⟩:∃X:List Value,X=List.replicate d0 (Value.int .i64 v):=⟨_,rfl⟩
 have hXl:X.length=Nat.min 1 m:=by rw[hX,List.length_replicate,hd0]
 have hXv:∀u∈X,u=.int .i64 v:=fun u hu=>by
  rw[hX]at hu
  exact xdy hu
 have hXs:splice (rw_ m 0 0) 0 X=rw_ m d0 v:=by
  rw[rw_zero,←rw_zero m v,hX,rw_splice v (by omega),Nat.zero_add]
 replace hXs:Hid (splice (rw_ m 0 0) 0 X=rw_ m d0 v):=hXs
 replace hd0:Hid (d0=Nat.min 1 m):=hd0
 clear hX
 go_enter Tryz.func112,Tryz.ntmps112
 go_upto_region 7 with(go_at_call 156;refine(hmul _).mono ?_;rintro e w1 ⟨rfl,hw1⟩;rw[hw1])
 go_wp2_with (refine wpList_copy_splice rfl (.tmp 31) (.tmp 32) 26 26 rfl 3 Tryz.underlying26 hsz3 _ _ m m 1 c rfl rfl w.heap.size 0 (rw_ m 0 0) 3 ?qc1 X hXl ?qc2 ?qc3 ?qc4 w.heap.size w ?qc5 ?qc6 ?_)
 case qc1=>exact heap_alloc_new w _
 case qc2=>
  intro _ j u hj
  have hjl:j<X.length:=(xdd.1 hj).1
  rw[hXl,←hd0.out]at hjl
  obtain rfl:j=0:=by omega
  rw[hXv u (xfp hj)]
  exact hc' _
 case qc3=>
  rw[rw_len 0 (xbn m),hXl,←hd0.out]
  omega
 case qc4=>
  intro u hu
  rw[hXv u hu]
  rfl
 case qc5=>exact(Below.refl _ w).alloc (Nat.le_refl _) _
 case qc6=>exact Nat.le_refl _
 intro w2 hg2 hb2
 replace hg2:Hid (w2.heap[w.heap.size]?=some (Obj.cells (rw_ m d0 v).toArray 3)):=by
  have:=hg2.out
  rw[hXs.out]at this
  exact this
 rw[←hd0.out]
 clear hXs hmk hXl hXv
 clear hd0
 go_wp2
 refine loop_invT (R:=fun mm a w'=>∃k:Nat,k≤m∧mm=m-k∧(0<m→0<k)∧Hid (w'.heap[w.heap.size]?=some (Obj.cells (rw_ m k v).toArray 3))∧Below w.heap.size w w'∧FrR w.heap.size m k a) (m:=m-d0) ?zfi ?init1
 case init1=>exact⟨d0,hd1.2.1,rfl,hd1.2.2,hg2,hb2,FrR.mk⟩
 case zfi=>
  rintro mm a w' ⟨k,hk,rfl,hpos,hg,hb,hfr⟩
  refine hfr.elim ?_
  intro x0 x1 x2 x3 x4 x5 x6 x9 x10 x11 x12 x13 x14 x15 x16 x17 x18 x19 x20 x21 x22 x23 x24 x25 x26 x27 x28 x29 x30 x31 x32 x33 x34 x35 x36 x37 x38 x39 x40 x41 x42 x43 x44 x45 x46 x47 hfe
  subst hfe
  rcases xcw k m with hlt|hge
  ·have hlt':(k:Int)<(m:Int):=by omega
   obtain⟨d,hd⟩:∃d,d=Nat.min k (m-k):=⟨_,rfl⟩
   have hd1:d≤k∧d≤m-k∧0<d:=by
    rw[hd]
    refine⟨xgr _ _,Nat.min_le_right _ _,?_⟩
    show 0<min k (m-k)
    have:=hpos (by omega)
    omega
   obtain⟨X,hX⟩:∃X:List Value,X=List.replicate d (Value.int .i64 v):=⟨_,rfl⟩
   have hXl:X.length=Nat.min k (m-k):=by rw[hX,List.length_replicate,hd]
   have hXl':X.length=d:=by rw[hX,List.length_replicate]
   have hXv:∀u∈X,u=.int .i64 v:=fun u hu=>by
    rw[hX]at hu
    exact xdy hu
   have hXs:splice (rw_ m k v) k X=rw_ m (k+d) v:=by rw[hX,rw_splice v (by omega)]
   replace hXs:Hid (splice (rw_ m k v) k X=rw_ m (k+d) v):=hXs
   replace hd:Hid (d=Nat.min k (m-k)):=hd
   replace hXl':Hid (X.length=d):=hXl'
   clear hX
   have hrl:=rw_len v hk
   have hwr:IntKind.i64.wrap ((k:Int)+((Nat.min k (m-k):Nat):Int))=((k+d:Nat):Int):=by
    rw[←hd.out,hin _ (by omega) (by omega)];omega
   have k0:(0:Int)≤(k:Int):=by omega
   have k1:(k:Int)≤(m:Int):=by omega
   have k2:¬m=k:=by omega
   have k3:((m:Int)-(k:Int)).toNat=m-k:=by omega
   have hgd:w'.drew.heap[w.heap.size]?=some (Obj.cells (rw_ m k v).toArray 3):=hg.out
   have hbd:Below w.heap.size w w'.drew:=hb.trans ⟨rfl,rfl,rfl,Nat.le_refl _,fun _ _=>rfl⟩
   have hfit:k+X.length≤(rw_ m k v).length:=by rw[hrl,hXl'.out];omega
   have hone:∀u∈X,u.oneCell'=true:=fun u hu=>by rw[hXv u hu];rfl
   have hsrc:∀j u,X[j]?=some u→w'.drew.cell? ((⟨w.heap.size,0,none⟩:Addr).add j)=some u:=fun j u hj=>by
    have hjl:j<X.length:=(xdd.1 hj).1
    rw[hXv u (xfp hj),Addr.add_lit]
    rw[hXl'.out]at hjl
    have hjk:j<k:=by omega
    unfold World.cell?
    rw[hgd]
    simp[rw_,List.getElem?_append,hjk]
   replace hgd:Aside (w'.drew.heap[w.heap.size]?=some (Obj.cells (rw_ m k v).toArray 3)):=hgd
   replace hsrc:Aside (∀j u,X[j]?=some u→w'.drew.cell? ((⟨w.heap.size,0,none⟩:Addr).add j)=some u):=hsrc
   go_wp2
   go_region_law (refine step_copy_splice rfl (.tmp 41) (.tmp 44) 26 26 rfl 3 Tryz.underlying26 hsz3 (some ⟨w.heap.size,k,none⟩) (some ⟨w.heap.size,0,none⟩) (m-k) (m-k) k m (by simp[Act.eval,Act.put,k2]) (by simp[Act.eval,Act.put]) w.heap.size k (rw_ m k v) 3 hgd.out X hXl (fun _=>⟨rfl,_,rfl,hsrc.out⟩) hfit hone w.heap.size w hbd (Nat.le_refl _) ?_;intro w4 hg4 hb4)
   replace hg4:Hid (w4.heap[w.heap.size]?=some (Obj.cells (rw_ m (k+d) v).toArray 3)):=by
    have:=hg4.out
    rw[hXs.out]at this
    exact this
   go_wp2
   exact⟨m-(k+d),by omega,k+d,by omega,rfl,fun _=>by omega,hg4,hb4,FrR.mk⟩
  ·have hge':¬(k:Int)<(m:Int):=by omega
   have hkm:k=m:=by omega
   subst hkm
   have hrep:rw_ k k v=List.replicate k (Value.int .i64 v):=by unfold rw_;rw[Nat.sub_self];simp
   go_wp2
   go_ret
   exact⟨_,rfl,⟨by simp,.inr ⟨w.heap.size,k,_,rfl,Nat.le_refl _,hg.out,Nat.le_refl _,by unfold maxLen;omega,by simp[hrep],by simp[hrep]⟩⟩,hb⟩
end Go.Proofs.YtmipjomnjkmdbaaGreat
namespace Go.Proofs.YtmipjomnjkmdbaaGreat
open Go Go.Proofs Go.RowKit Go.X
theorem enters112:zcd Tryz.prog 112:=enters_of Tryz.func112 (by kernel_rfl) rfl
noncomputable def d112 (xs:List Int) (n:Int):Option (List Int):=bif decide (xs.length=1)&&(decide (0≤n)&&decide (n≤1000))then some (List.replicate n.toNat (xs.getD 0 0))else none
def sg112:Sig:=⟨[(y26,.bw),(y3,.sh)],[(y26,.own 3 .sh)]⟩
theorem sim112:Sim Tryz.prog 112 sg112 d112:=by
 refine⟨enters112,fun xs y hy S hS vs hvs hargs=>?_⟩
 have hy0:d112 xs.1 xs.2.1=some y:=hy
 obtain⟨xs,n,u⟩:=xs
 simp only at hy0
 obtain⟨z,hz,hn0,hn1,hy'⟩:∃z:Int,(xs:List Int)=[z]∧0≤n∧n≤1000∧List.replicate n.toNat z=y:=by
  unfold d112 at hy0
  cases hq:(decide ((xs:List Int).length=1)&&(decide (0≤(n:Int))&&decide ((n:Int)≤1000)))with
  |false=>rw[hq]at hy0;cases hy0
  |true=>
   rw[hq]at hy0
   rw[xaf,xaf,xaj,xaj,xaj]at hq
   obtain⟨z,hz⟩:=xeg.1 hq.1
   have h2:=xay hy0
   rw[hz]at h2
   exact⟨z,hz,hq.2.1,hq.2.2,h2⟩
 obtain⟨v,hv,hr⟩:=hargs 0 ⟨y26,.bw,xs⟩ rfl
 obtain⟨v2,hv2,hr2⟩:=hargs 1 ⟨y3,.sh,n⟩ rfl
 have hl:vs.length=2:=hvs
 obtain⟨v',v2',rfl⟩:∃a b,vs=[a,b]:=by
  match vs,hl with
  | [a,b],_=>exact⟨a,b,rfl⟩
 have e1:v'=v:=by simpa using hv
 have e2:v2'=v2:=by simpa using hv2
 subst e1 e2
 dsimp only at hr hr2
 obtain⟨hxl,_,A,len,cap,h0,rfl,hcap,h3⟩:=hr.1
 have hv0:v'=.slice A (xs:List Int).length cap:=by simpa[zab,Ty.agg]using h0
 subst hv0
 have h02:zab (.int .i64) v2' 0=some v2':=by simp[zab,Ty.agg]
 obtain⟨q1,q2⟩:=hr2.1
 rw[h02]at q1
 have q1':v2'=.int .i64 n:=by injection q1
 subst q1'
 obtain⟨b,o,hA,hzw,hcz⟩:∃b o,A=some ⟨b,o,none⟩∧IntKind.i64.wrap z=z∧S.w.cell? ⟨b,o,none⟩=some (.int .i64 z):=by
  rcases h3 with⟨h3,_⟩|⟨b,o,hA,hx,h4⟩
  ·exfalso;rw[hz]at h3;cases h3
  ·refine⟨b,o,hA,?_,?_⟩
   ·have:=(h4 0 (by rw[hz];simp)).2
    simpa[hz]using this
   ·have:=(h4 0 (by rw[hz];simp)).1
    simpa[blk,Ty.size,hz]using this
 subst hA
 obtain⟨m,rfl⟩:∃m:Nat,n=(m:Int):=⟨Int.toNat n,(xfy hn0).symm⟩
 rw[xan]at hy'
 have hlen1:(xs:List Int).length=1:=by rw[hz];rfl
 have hm1000:m≤1000:=by have:(m:Int)≤1000:=hn1;omega
 have hcall:=repeat_ok b o cap m z S.w hm1000 hcz
 rw[hlen1]
 refine Calls.mono hcall fun e w' ⟨r,hr,ho,hb⟩=>?_
 subst hr
 obtain⟨ys,hys⟩:∃ys:List Int,ys=y:=⟨y,rfl⟩
 subst hys
 have hyl:ys.length=m:=by rw[←hy',List.length_replicate]
 have hall:∀u∈ys,u=z:=by
  rw[←hy']
  exact fun u=>xdy
 have hwr:∀(i:Nat) (hi:i<ys.length),ys[i]=z:=fun i hi=>hall _ (xbm hi)
 obtain⟨ho1,ho2⟩:=ho
 let S':St:={S with w:=w',own:=fun b=>if r.ownBlock=some b then some (0,[0])else S.own b,hv:=fun z=>if z=(0,[0])then r else S.hv z}
 have hhv:S'.hv (0,[0])=r:=by
  show(if((0,[0]):Go.X.Place)=(0,[0])then r else S.hv (0,[0]))=r
  simp
 have hbig:∀b,r.ownBlock=some b→S.w.heap.size≤b∧b<w'.heap.size:=fun b hbb=>by
  rcases ho2 with⟨h1,_⟩|⟨g,c,cur,h1,h2,h3,_⟩
  ·rw[h1]at hbb;cases hbb
  ·rw[h1]at hbb;cases hbb;exact⟨h2,(xbv.1 h3).1⟩
 have hold:∀b,b<S.w.heap.size→S'.own b=S.own b:=fun b hlt=>if_neg fun hh=>absurd (hbig b hh).1 (by omega)
 have hfr:Frm S S':=by
  refine⟨fun _ h=>h,rfl,fun b hb'=>?_,fun b hb'=>?_,fun b p hb'=>?_,hb.os,hb.tape,hb.output,hb.size,fun b hlt _=>hb.block b hlt⟩
  ·exact⟨(hold b (hS.shared b hb').2).trans (hS.shared b hb').1,xaq (hS.shared b hb').2 hb.size,.inl hb'⟩
  ·exact(hold b (hS.borrowed b hb').2).trans (hS.borrowed b hb').1
  ·have hb2:(if r.ownBlock=some b then some (0,[0])else S.own b)=some p:=hb'
   split at hb2
   ·rename_i hh
    exact⟨(hbig b hh).2,.inl (hbig b hh).1⟩
   ·exact⟨xaq (hS.owned b p hb2) hb.size,.inr (by rw[hb2];simp)⟩
 refine⟨r,S',rfl,rfl,hfr,⟨⟨?_,by simp[Ty.size],?_,?_⟩,fun h=>by cases h⟩,fun q e hq=>by cases hq⟩
 ·show ys.length≤_
  rw[hyl]
  have:1000≤maxL:=by unfold maxL;omega
  omega
 ·rw[hhv];simp[zab,Ty.agg]
 ·rw[hhv]
  rcases ho2 with⟨h1,h2⟩|⟨g,c,cur,h1,h2,h3,h4,h5,h6,h7⟩
  ·exact .inl ⟨h1,by have:=hyl;rw[h2]at this;exact xdj this⟩
  ·rw[←hyl]at h1 h4
   refine .inr ⟨g,c,cur,h1,if_pos (by rw[h1];rfl),h3,h4,h5,by simpa[Ty.size]using h6,fun i hi=>⟨?_,by
    show IntKind.i64.wrap (ys[i]'hi)=ys[i]'hi
    rw[hwr i hi];exact hzw⟩⟩
   have hi':i<m:=by rw[←hyl];exact hi
   have:=xbe (fun l=>l[i]?) h7
   simp only[xdp,xcl,hi',if_true,xgj,xau]at this
   have e0:i*Ty.size (.int .i64)+0=i:=by simp[Ty.size]
   show cur[i*Ty.size (.int .i64)+0]?=some (.int .i64 (ys[i]'hi))
   rw[e0,hwr i hi]
   exact this
noncomputable def E112:FnE Tryz.prog:=⟨112,sg112,d112,sim112⟩
end Go.Proofs.YtmipjomnjkmdbaaGreat
open Go Go.Proofs Go.X
namespace Go.Proofs.YtmipjomnjkmdbaaGreat
set_option maxRecDepth 100000
noncomputable section
abbrev uf6:=(Bool×(List Int×List Int))
abbrev uf3:=(List uf6×(List uf6×(uf6×(uf6×(uf6×(List Int×(List Int×List Int)))))))
abbrev uf2:=(Int×(Int×(Int×(Int×(List uf3×List Int)))))
abbrev uf5:=(List uf6)
abbrev uf9:=(List Int×Int)
abbrev uf7:=(List uf9)
abbrev uf10:=(List Int)
abbrev uf4:=(List Int×(List uf10×(Int×(Int×(Int×(Int×(Int×(Int×Int))))))))
abbrev uf1:=(uf4×(List uf9×(List Int×(Int×(List Int×(List Int×(Int×(List uf5×(Int×(Int×uf2))))))))))
abbrev uf0:=(uf1×uf3)
abbrev uf8:=(List uf10)
abbrev uf11:=Int×uf8×uf4×uf2×Int×Int×uf3×Int×Bool×Int×Bool×Int×Int
def d54(l:List uf10):Option Bool:=
 (zaa (β:=uf8⊕Bool) (fun((a,i):uf8×Int)=>
   bif (decide (i<(a.length:Int)))then
    bif (decide (0≤i)&&decide (i<(a.length:Int)))then
     bif (decide (12<((List.getD a (Int.toNat i) []).length:Int)))then
      some (Sum.inr (Sum.inr false))
     else
      some (Sum.inl (a,(w (i+1))))
    else none
   else
    some (Sum.inr (Sum.inl a))) (l,0)).bind fun
 |Sum.inl b=>
  some (decide ((b.length:Int)≤24))
 |Sum.inr c=>
  some c
def sg54:Sig:=⟨[(y27,.bw)],[(y4,.sh)]⟩
theorem sim54:Sim Tryz.prog 54 sg54 d54:=uqz Tryz.func54 (zac rfl) Tryz.call54 (by kernel_rfl) (by kernel_rfl) [] (uqs (.seq (uqs (.block (.loop [(0,.v y27 .bw),(3,uqa)] [(.brk 0,[(0,.v y27 .bw)]),(.ret,[(2,uqc)])] (.seq (uqs (.cond .nil .nil)) (.seq (.block (uqs (.cond (uqs .nil) .nil))) uqr))))) (uqs .nil))) fun xs=>by kernel_rfl
def E54:FnE Tryz.prog:=⟨54,sg54,d54,sim54⟩
def d111(n:Int):Option Int:=
 (zaa (β:=Int) (fun((p,a,b):Int×Int×Int)=>
 bif (decide (b<a))then
 some (Sum.inl ((w (p*10)),a,(w (b+1))))
 else
 some (Sum.inr p)) (1,n,0)).bind fun(c:Int)=>
 some c
def sg111:Sig:=⟨[(y2,.sh)],[(y2,.sh)]⟩
theorem sim111:Sim Tryz.prog 111 sg111 d111:=uqz Tryz.func111 (zac rfl) Tryz.call111 (by kernel_rfl) (by kernel_rfl) [] (uqs (uqs (.seq (uqs (.block (.loop [(3,uqa),(4,uqa),(5,uqa)] [(.brk 0,[(3,uqa)])] (uqs (.seq (.cond .nil .nil) (.seq (.block uqr) uqr)))))) (uqs .nil)))) fun xs=>by kernel_rfl
def E111:FnE Tryz.prog:=⟨111,sg111,d111,sim111⟩
def d120(n:Int)(gs:List uf9):Option Bool:=
 bif (decide (1≤n))then
 bif (decide (n≤7))then
 (d124 n gs).bind fun r=>
 some r
 else
 some false
 else
 some false
def sg120:Sig:=⟨[(y2,.sh),(y25,.bw)],[(y4,.sh)]⟩
theorem sim120:Sim Tryz.prog 120 sg120 d120:=uqz Tryz.func120 (zac rfl) Tryz.call120 (by kernel_rfl) (by kernel_rfl) [.fn E124] (uqs (uqs .nil)) fun xs=>by kernel_rfl
def E120:FnE Tryz.prog:=⟨120,sg120,d120,sim120⟩
def d121(a:Int)(b:Int):Option Int:=
 bif (!decide (b=0))then
 some (w (Int.tdiv (w ((w (a+b))-1)) b))
 else none
def sg121:Sig:=⟨[(y2,.sh),(y2,.sh)],[(y2,.sh)]⟩
theorem sim121:Sim Tryz.prog 121 sg121 d121:=uqz Tryz.func121 (zac rfl) Tryz.call121 (by kernel_rfl) (by kernel_rfl) [] (uqs (uqs .nil)) fun xs=>by kernel_rfl
def E121:FnE Tryz.prog:=⟨121,sg121,d121,sim121⟩
def d58(p0:Int)(p1:List Int)(p2:List uf9):Option (uf10×Int×Bool):=
 letJ (fun((aj,l,ak,al,am):Int×uf10×uf7×Int×Bool)=>
   bif am then
    some ([],0,false)
   else
    (d111 aj).bind fun an=>
    (zaa (β:=(uf10×uf7×Int×Int)⊕(uf10×Int×Bool)) (fun((m,n,o,j,g,p,c):uf10×uf7×Int×Int×uf10×Int×Int)=>
      bif (decide (c<p))then
       bif (decide (0≤c)&&decide (c<(g.length:Int)))then
        letJ (fun((ao,ap,aq,ar,au,av,ax,ay):uf10×uf7×Int×Int×uf10×Int×Int×Bool)=>
          bif ay then
           some (Sum.inr (Sum.inr ([],0,false)))
          else
           some (Sum.inl (ao,ap,aq,ar,au,av,(w (ax+1))))) fun v=>
        bif !(decide ((List.getD g (Int.toNat c) 0)<0))then
         v (m,n,o,j,g,p,c,(decide (j<(List.getD g (Int.toNat c) 0))))
        else
         v (m,n,o,j,g,p,c,true)
       else none
      else
       some (Sum.inr (Sum.inl (m,n,o,j)))) (l,ak,al,an,l,(l.length:Int),0)).bind fun
    |Sum.inl (f,x,az,ba)=>
     bif (decide ((f.length:Int)=(f.length:Int))&&(decide (0≤(f.length:Int))&&decide ((f.length:Int)≤LIM)))then
      (zaa (β:=(uf10×Int)) (fun((bb,y,z,aa,h,ab,e):uf10×uf10×Int×Int×uf7×Int×Int)=>
        bif (decide (e<ab))then
         bif (decide (0≤e)&&decide (e<(h.length:Int)))then
          (zaa (β:=(uf10×uf10×Int×Int×uf9×Int×uf7×Int×Int)) (fun((k,i,ac,q,s,t,ae,af,ag,b,ah,a):uf10×uf10×Int×Int×uf9×Int×uf7×Int×Int×uf10×Int×Int)=>
            bif (decide (a<ah))then
             bif (decide (0≤a)&&decide (a<(b.length:Int)))then
              bif (decide (0≤(List.getD b (Int.toNat a) 0))&&decide ((List.getD b (Int.toNat a) 0)<(k.length:Int)))then
               (d121 (w (t*(List.getD k (Int.toNat (List.getD b (Int.toNat a) 0)) 0))) q).bind fun ai=>
               bif (decide (0≤(List.getD b (Int.toNat a) 0))&&decide ((List.getD b (Int.toNat a) 0)<(i.length:Int)))then
                bif (decide (0≤(List.getD b (Int.toNat a) 0))&&decide ((List.getD b (Int.toNat a) 0)<(i.length:Int)))then
                 some (Sum.inl (k,(List.set i (Int.toNat (List.getD b (Int.toNat a) 0)) (w ((List.getD i (Int.toNat (List.getD b (Int.toNat a) 0)) 0)+(w (ai*s.2))))),ac,q,s,(w (t-ai)),ae,af,ag,b,ah,(w (a+1))))
                else none
               else none
              else none
             else none
            else
             some (Sum.inr (k,i,ac,q,s,t,ae,af,ag))) (bb,y,z,aa,(List.getD h (Int.toNat e) ([],0)),aa,h,ab,e,(List.getD h (Int.toNat e) ([],0)).1,(((List.getD h (Int.toNat e) ([],0)).1).length:Int),0)).bind fun((bc,be,bf,bg,bh,bi,bj,bk,bl):uf10×uf10×Int×Int×uf9×Int×uf7×Int×Int)=>
          some (Sum.inl (bc,be,(w (bf+(w (bi*bh.2)))),bg,bj,bk,(w (bl+1))))
         else none
        else
         some (Sum.inr (y,z))) (f,(List.replicate (Int.toNat (f.length:Int)) 0),az,ba,x,(x.length:Int),0)).bind fun((bm,bn):uf10×Int)=>
      some (bm,bn,true)
     else none
    |Sum.inr (bo,bp,bq)=>
     some (bo,bp,bq)) fun u=>
 bif !(decide (p0<1))then
  bif !(decide (6<p0))then
   (d120 (p1.length:Int) p2).bind fun r=>
   u (p0,p1,p2,0,!r)
  else
   u (p0,p1,p2,0,true)
 else
  u (p0,p1,p2,0,true)
def sg58:Sig:=⟨[(y2,.sh),(y26,.bw),(y25,.bw)],[(y26,.sh),(y2,.sh),(y4,.sh)]⟩
theorem sim58:Sim Tryz.prog 58 sg58 d58:=uqz Tryz.func58 (zac rfl) Tryz.call58 (by kernel_rfl) (by kernel_rfl) [.fn E120,.fn E111,.fn E121] (.post (uqs (.seq (.join uqr [(0,uqa),(1,uqb),(2,uqe),(7,uqa),(30,uqc)] (.cond (uqs .nil) .nil)) (uqs (.seq (uqs (.block (.loop [(1,uqb),(2,uqe),(7,uqa),(9,uqa),(33,uqb),(34,uqa),(35,uqa)] [(.brk 0,[(1,uqb),(2,uqe),(7,uqa),(9,uqa)]),(.ret,[(6,uqf),(7,uqa),(8,uqc)])] (uqs (.seq (.cond .nil .nil) (.seq (.block (uqs (.join uqr [(1,uqb),(2,uqe),(7,uqa),(9,uqa),(33,uqb),(34,uqa),(35,uqa),(45,uqc)] (.cond (uqs .nil) .nil)))) uqr)))))) (uqs (.seq (uqs (.block (.loop [(1,uqb),(6,uqd),(7,uqa),(9,uqa),(50,uqe),(51,uqa),(52,uqa)] [(.brk 2,[(6,uqd),(7,uqa)])] (uqs (.seq (.cond .nil .nil) (.seq (.block (uqs (uqs (.seq (uqs (.block (.loop [(1,uqb),(6,uqd),(7,uqa),(9,uqa),(13,.v (.ptr y92) (.own 0 .bw)),(14,uqa),(50,uqe),(51,uqa),(52,uqa),(58,uqb),(59,uqa),(60,uqa)] [(.brk 4,[(1,uqb),(6,uqd),(7,uqa),(9,uqa),(13,.v (.ptr y92) (.own 0 .bw)),(14,uqa),(50,uqe),(51,uqa),(52,uqa)])] (uqs (.seq (.cond .nil .nil) (.seq (.block (uqs (uqs (uqs uqr)))) uqr)))))) uqr)))) uqr)))))) (uqs .nil))))))) [(6,[])]) fun xs=>by kernel_rfl
def E58:FnE Tryz.prog:=⟨58,sg58,d58,sim58⟩
def d157(k:uf1)(units:List Int):Option uf5:=
 (zaa (β:=uf5) (fun((c,out,b,e,a):uf1×uf5×uf10×Int×Int)=>
 bif (decide (a<e))then
 bif (decide (0≤a)&&decide (a<(b.length:Int)))then
 (d158 (List.getD b (Int.toNat a) 0) c.2.2.2.1).bind fun r=>
 bif (decide ((out.length:Int)+(([r]:List uf6).length:Int)≤LIM))then
 some (Sum.inl (c,(out++[r]),b,e,(w (a+1))))
 else none
 else none
 else
 some (Sum.inr out)) (k,[],units,(units.length:Int),0)).bind fun(f:List uf6)=>
 some f
def sg157:Sig:=⟨[(y140,.bw),(y26,.bw)],[(y53,(.own 57 .sh))]⟩
theorem sim157:Sim Tryz.prog 157 sg157 d157:=uqz Tryz.func157 (zac rfl) Tryz.call157 (by kernel_rfl) (by kernel_rfl) [.fn E158] (uqs (.seq (.reg [] [{fl:=2}]) (.seq (uqs (.block (.loop [(0,.v y140 .bw),(5,.v y53 (.own 57 .sh)),(8,uqb),(9,uqa),(10,uqa)] [(.brk 0,[(5,.v y53 (.own 57 .sh))])] (uqs (.seq (.cond .nil .nil) (.seq (.block (uqs uqr)) uqr)))))) (uqs .nil)))) fun xs=>by kernel_rfl
def E157:FnE Tryz.prog:=⟨157,sg157,d157,sim157⟩
def d161(k:uf1)(standing:Int):Option uf10:=
 (zaa (β:=uf10) (fun((c,out,b,e,a):Int×uf10×uf10×Int×Int)=>
 bif (decide (a<e))then
 letJ (fun((g,h,i,j,l):Int×uf10×uf10×Int×Int)=>
 some (Sum.inl (g,h,i,j,(w (l+1))))) fun f=>
 bif (decide (0≤a)&&decide (a<(b.length:Int)))then
 bif (decide ((List.getD b (Int.toNat a) 0)=c))then
 bif (decide ((out.length:Int)+(([a]:List Int).length:Int)≤LIM))then
 f (c,(out++[a]),b,e,a)
 else none
 else
 f (c,out,b,e,a)
 else none
 else
 some (Sum.inr out)) (standing,[],k.2.2.2.2.1,(k.2.2.2.2.1.length:Int),0)).bind fun(m:List Int)=>
 some m
def sg161:Sig:=⟨[(y140,.bw),(y2,.sh)],[(y26,(.own 3 .sh))]⟩
theorem sim161:Sim Tryz.prog 161 sg161 d161:=uqz Tryz.func161 (zac rfl) Tryz.call161 (by kernel_rfl) (by kernel_rfl) [] (uqs (.seq (.reg [] [{fl:=2}]) (.seq (uqs (.block (.loop [(1,uqa),(5,uqd),(11,uqb),(12,uqa),(13,uqa)] [(.brk 0,[(5,uqd)])] (uqs (.seq (.cond .nil .nil) (.join (.block (uqs (uqs (.cond uqr .nil)))) [(1,uqa),(5,uqd),(11,uqb),(12,uqa),(13,uqa)] uqr)))))) (uqs .nil)))) fun xs=>by kernel_rfl
def E161:FnE Tryz.prog:=⟨161,sg161,d161,sim161⟩
def d194(c:Int)(p1:List Int)(p2:Int):Option Bool:=
 bif (decide (0≤c)&&decide (c<(p1.length:Int)))then
 some (decide ((List.getD p1 (Int.toNat c) 0)<p2))
 else none
def sg194:Sig:=⟨[(y2,.bw),((.ptr y26),.bw),(y233,.bw)],[(y4,.sh)]⟩
theorem sim194:Sim Tryz.prog 194 sg194 d194:=uqz Tryz.func194 (zac rfl) Tryz.call194 (by kernel_rfl) (by kernel_rfl) [] (uqs (uqs .nil)) fun xs=>by kernel_rfl
def E194:FnE Tryz.prog:=⟨194,sg194,d194,sim194⟩
def d196(a:Int)(b:Int)(p2:List Int)(p3:uf1):Option Int:=
 bif (decide (0≤a)&&decide (a<(p2.length:Int)))then
 bif (decide (0≤b)&&decide (b<(p2.length:Int)))then
 bif !(decide ((List.getD p2 (Int.toNat a) 0)=(List.getD p2 (Int.toNat b) 0)))then
 bif (decide (0≤b)&&decide (b<(p2.length:Int)))then
 bif (decide (0≤a)&&decide (a<(p2.length:Int)))then
 some (w ((List.getD p2 (Int.toNat b) 0)-(List.getD p2 (Int.toNat a) 0)))
 else none
 else none
 else
 (d189 p3.2.2.1 a).bind fun r=>
 (d189 p3.2.2.1 b).bind fun c=>
 some (w (r-c))
 else none
 else none
def sg196:Sig:=⟨[(y2,.bw),(y2,.bw),((.ptr y26),.bw),((.ptr y140),.bw)],[(y2,.sh)]⟩
theorem sim196:Sim Tryz.prog 196 sg196 d196:=uqz Tryz.func196 (zac rfl) Tryz.call196 (by kernel_rfl) (by kernel_rfl) [.fn E189] (uqs (.seq (uqs (.cond (uqs .nil) .nil)) (uqs .nil))) fun xs=>by kernel_rfl
def E196:FnE Tryz.prog:=⟨196,sg196,d196,sim196⟩
def d228(data:List Int)(a:Int)(b:Int)(cmp:(Int→Int→Option Int)):Option uf10:=
 (zaa (β:=uf10) (fun((k,u,l,v,i):uf10×Int×Int×(Int→Int→Option Int)×Int)=>
 bif (decide (i<l))then
 (zaa (β:=(uf10×Int×Int×(Int→Int→Option Int)×Int)) (fun((g,h,m,j,n,e):uf10×Int×Int×(Int→Int→Option Int)×Int×Int)=>
 letJ (fun((f,o,p,q,s,c,x):uf10×Int×Int×(Int→Int→Option Int)×Int×Int×Bool)=>
 bif x then
 bif (decide (0≤(w (c-1)))&&decide ((w (c-1))<(f.length:Int)))then
 bif (decide (0≤c)&&decide (c<(f.length:Int)))then
 bif (decide (0≤c)&&decide (c<(f.length:Int)))then
 bif (decide (0≤(w (c-1)))&&decide ((w (c-1))<((List.set f (Int.toNat c) (List.getD f (Int.toNat (w (c-1))) 0)).length:Int)))then
 some (Sum.inl ((List.set (List.set f (Int.toNat c) (List.getD f (Int.toNat (w (c-1))) 0)) (Int.toNat (w (c-1))) (List.getD f (Int.toNat c) 0)),o,p,q,s,(w (c-1))))
 else none
 else none
 else none
 else none
 else
 some (Sum.inr (f,o,p,q,s))) fun t=>
 bif (decide (h<e))then
 bif (decide (0≤e)&&decide (e<(g.length:Int)))then
 bif (decide (0≤(w (e-1)))&&decide ((w (e-1))<(g.length:Int)))then
 (j (List.getD g (Int.toNat e) 0) (List.getD g (Int.toNat (w (e-1))) 0)).bind fun r=>
 t (g,h,m,j,n,e,(decide (r<0)))
 else none
 else none
 else
 t (g,h,m,j,n,e,false)) (k,u,l,v,i,i)).bind fun((y,z,aa,ab,ac):uf10×Int×Int×(Int→Int→Option Int)×Int)=>
 some (Sum.inl (y,z,aa,ab,(w (ac+1))))
 else
 some (Sum.inr k)) (data,a,b,cmp,(w (a+1)))).bind fun(ae:List Int)=>
 some ae
def sg228:Sig:=⟨[(y26,(.io (.own 3 .sh))),(y2,.sh),(y2,.sh),(y38,.bw)],[]⟩
theorem sim228:Sim Tryz.prog 228 sg228 d228:=uqz Tryz.func228 (zac rfl) Tryz.call228 (by kernel_rfl) (by kernel_rfl) [] (uqs (.block (.loop [(0,uqd),(1,uqa),(2,uqa),(3,.v y38 .bw),(8,uqa)] [(.brk 0,[(0,uqd)])] (.seq (uqs (.cond .nil .nil)) (.seq (.block (uqs (.block (.loop [(0,uqd),(1,uqa),(2,uqa),(3,.v y38 .bw),(8,uqa),(9,uqa)] [(.brk 2,[(0,uqd),(1,uqa),(2,uqa),(3,.v y38 .bw),(8,uqa)])] (.seq (.join uqr [(0,uqd),(1,uqa),(2,uqa),(3,.v y38 .bw),(8,uqa),(9,uqa),(34,uqc)] (.cond .nil .nil)) (.seq (.block uqr) uqr)))))) uqr))))) fun xs=>by kernel_rfl
def E228:FnE Tryz.prog:=⟨228,sg228,d228,sim228⟩
def d229(_x0:List Int)(_x1:Int)(_x2:Int)(_x3:(Int→Int→Option Int)):Option uf10:=none
def sg229:Sig:=⟨[(y26,(.io (.own 3 .sh))),(y2,.sh),(y2,.sh),(y38,.bw)],[]⟩
theorem sim229:Sim Tryz.prog 229 sg229 d229:=⟨Tryz.call229,fun xs y h=>absurd (show(none:Option _)=some y from h) (by simp)⟩
def E229:FnE Tryz.prog:=⟨229,sg229,d229,sim229⟩
def d230(_x0:List Int)(_x1:Int)(_x2:Int)(_x3:(Int→Int→Option Int)):Option uf10:=none
def sg230:Sig:=⟨[(y26,(.io (.own 3 .sh))),(y2,.sh),(y2,.sh),(y38,.bw)],[]⟩
theorem sim230:Sim Tryz.prog 230 sg230 d230:=⟨Tryz.call230,fun xs y h=>absurd (show(none:Option _)=some y from h) (by simp)⟩
def E230:FnE Tryz.prog:=⟨230,sg230,d230,sim230⟩
def d231(_x0:List Int)(_x1:Int)(_x2:Int)(_x3:(Int→Int→Option Int)):Option (Int×Int×uf10):=none
def sg231:Sig:=⟨[(y26,(.io (.own 3 .sh))),(y2,.sh),(y2,.sh),(y38,.bw)],[(y2,.sh),(y2,.sh)]⟩
theorem sim231:Sim Tryz.prog 231 sg231 d231:=⟨Tryz.call231,fun xs y h=>absurd (show(none:Option _)=some y from h) (by simp)⟩
def E231:FnE Tryz.prog:=⟨231,sg231,d231,sim231⟩
def d232(_x0:List Int)(_x1:Int)(_x2:Int)(_x3:(Int→Int→Option Int)):Option uf10:=none
def sg232:Sig:=⟨[(y26,(.io (.own 3 .sh))),(y2,.sh),(y2,.sh),(y38,.bw)],[]⟩
theorem sim232:Sim Tryz.prog 232 sg232 d232:=⟨Tryz.call232,fun xs y h=>absurd (show(none:Option _)=some y from h) (by simp)⟩
def E232:FnE Tryz.prog:=⟨232,sg232,d232,sim232⟩
def d233(_x0:List Int)(_x1:Int)(_x2:Int)(_x3:(Int→Int→Option Int)):Option (Bool×uf10):=none
def sg233:Sig:=⟨[(y26,(.io (.own 3 .sh))),(y2,.sh),(y2,.sh),(y38,.bw)],[(y4,.sh)]⟩
theorem sim233:Sim Tryz.prog 233 sg233 d233:=⟨Tryz.call233,fun xs y h=>absurd (show(none:Option _)=some y from h) (by simp)⟩
def E233:FnE Tryz.prog:=⟨233,sg233,d233,sim233⟩
def d234(_x0:List Int)(_x1:Int)(_x2:Int)(_x3:Int)(_x4:(Int→Int→Option Int)):Option (Int×uf10):=none
def sg234:Sig:=⟨[(y26,(.io (.own 3 .sh))),(y2,.sh),(y2,.sh),(y2,.sh),(y38,.bw)],[(y2,.sh)]⟩
theorem sim234:Sim Tryz.prog 234 sg234 d234:=⟨Tryz.call234,fun xs y h=>absurd (show(none:Option _)=some y from h) (by simp)⟩
def E234:FnE Tryz.prog:=⟨234,sg234,d234,sim234⟩
def d235(_x0:List Int)(_x1:Int)(_x2:Int)(_x3:Int)(_x4:(Int→Int→Option Int)):Option (Int×Bool×uf10):=none
def sg235:Sig:=⟨[(y26,(.io (.own 3 .sh))),(y2,.sh),(y2,.sh),(y2,.sh),(y38,.bw)],[(y2,.sh),(y4,.sh)]⟩
theorem sim235:Sim Tryz.prog 235 sg235 d235:=⟨Tryz.call235,fun xs y h=>absurd (show(none:Option _)=some y from h) (by simp)⟩
def E235:FnE Tryz.prog:=⟨235,sg235,d235,sim235⟩
def d214F(al:uf10→Int→Int→Int→(Int→Int→Option Int)→Option uf10)(p0:List Int)(p1:Int)(p2:Int)(p3:Int)(p4:(Int→Int→Option Int)):Option uf10:=
 (zaa (β:=uf10) (fun((p,b,c,u,k,v,am):uf10×Int×Int×Int×(Int→Int→Option Int)×Bool×Bool)=>
 bif (decide ((w (c-b))≤12))then
 (d228 p b c k).bind fun r=>
 some (Sum.inr r)
 else
 bif (decide (u=0))then
 (d229 p b c k).bind fun bo=>
 some (Sum.inr bo)
 else
 letJ (fun((bp,l,m,an,q,ao,ap,aq):uf10×Int×Int×Int×(Int→Int→Option Int)×Bool×Bool×Int)=>
 (d231 bp l m q).bind fun g=>
 letJ (fun((x,y,z,aa,ab,s,t,ac,ae,bq):uf10×Int×Int×Int×(Int→Int→Option Int)×Bool×Bool×Int×Int×Int)=>
 letJ (fun((h,i,ar,au,af,av,ax,ay,n):uf10×Int×Int×Int×(Int→Int→Option Int)×Bool×Bool×Int×Int)=>
 letJ (fun((az,j,e,o,f,br,bs,ba,bb,bt):uf10×Int×Int×Int×(Int→Int→Option Int)×Bool×Bool×Int×Int×Bool)=>
 bif bt then
 (d234 az j e bb f).bind fun bc=>
 some (Sum.inl (bc.2,bc.1,e,o,f,br,bs))
 else
 (d235 az j e bb f).bind fun a=>
 bif (decide ((w (a.1-j))<(w (e-a.1))))then
 (al a.2.2 j a.1 o f).bind fun bu=>
 some (Sum.inl (bu,(w (a.1+1)),e,o,f,(decide ((w (Int.tdiv ba 8))≤(w (a.1-j)))),a.2.1))
 else
 (al a.2.2 (w (a.1+1)) e o f).bind fun bv=>
 some (Sum.inl (bv,j,a.1,o,f,(decide ((w (Int.tdiv ba 8))≤(w (e-a.1)))),a.2.1))) fun be=>
 bif (decide (0<i))then
 bif (decide (0≤(w (i-1)))&&decide ((w (i-1))<(h.length:Int)))then
 bif (decide (0≤n)&&decide (n<(h.length:Int)))then
 (af (List.getD h (Int.toNat (w (i-1))) 0) (List.getD h (Int.toNat n) 0)).bind fun bx=>
 be (h,i,ar,au,af,av,ax,ay,n,!(decide (bx<0)))
 else none
 else none
 else
 be (h,i,ar,au,af,av,ax,ay,n,false)) fun bf=>
 letJ (fun((bg,ag,ah,bh,ai,bi,bj,bk,bl,bz):uf10×Int×Int×Int×(Int→Int→Option Int)×Bool×Bool×Int×Int×Bool)=>
 bif bz then
 (d233 bg ag ah ai).bind fun aj=>
 bif aj.1 then
 some (Sum.inr aj.2)
 else
 bf (aj.2,ag,ah,bh,ai,bi,bj,bk,bl)
 else
 bf (bg,ag,ah,bh,ai,bi,bj,bk,bl)) fun ak=>
 bif s then
 bif t then
 ak (x,y,z,aa,ab,s,t,ac,ae,(decide (bq=1)))
 else
 ak (x,y,z,aa,ab,s,t,ac,ae,false)
 else
 ak (x,y,z,aa,ab,s,t,ac,ae,false)) fun bm=>
 bif (decide (g.2.1=2))then
 (d232 g.2.2 l m q).bind fun ca=>
 bm (ca,l,m,an,q,ao,ap,aq,(w ((w (m-1))-(w (g.1-l)))),1)
 else
 bm (g.2.2,l,m,an,q,ao,ap,aq,g.1,g.2.1)) fun bn=>
 bif !v then
 (d230 p b c k).bind fun cb=>
 bn (cb,b,c,(w (u-1)),k,v,am,(w (c-b)))
 else
 bn (p,b,c,u,k,v,am,(w (c-b)))) (p0,p1,p2,p3,p4,true,true)).bind fun(cc:List Int)=>
 some cc
def sg214:Sig:=⟨[(y26,(.io (.own 3 .sh))),(y2,.sh),(y2,.sh),(y2,.sh),(y38,.bw)],[]⟩
def plan214:Plan:=(uqs (uqs (.block (.loop [(0,uqd),(1,uqa),(2,uqa),(3,uqa),(4,.v y38 .bw),(10,uqc),(11,uqc)] [(.ret,[(0,uqd)])] (.block (uqs (.seq (uqs (.cond (uqs .nil) .nil)) (.seq (uqs (.cond (uqs .nil) .nil)) (.join (uqs (.cond (uqs uqr) .nil)) [(0,uqd),(1,uqa),(2,uqa),(3,uqa),(4,.v y38 .bw),(10,uqc),(11,uqc),(12,uqa)] (.seq (.reg [] [{},{},{},{},{},{fl:=1}]) (.join (uqs (.cond (uqs (uqs uqr)) .nil)) [(0,uqd),(1,uqa),(2,uqa),(3,uqa),(4,.v y38 .bw),(10,uqc),(11,uqc),(12,uqa),(13,uqa),(14,uqa)] (.join (.join uqr [(0,uqd),(1,uqa),(2,uqa),(3,uqa),(4,.v y38 .bw),(10,uqc),(11,uqc),(12,uqa),(13,uqa),(75,uqc)] (.cond (uqs (.cond .nil .nil)) .nil)) [(0,uqd),(1,uqa),(2,uqa),(3,uqa),(4,.v y38 .bw),(10,uqc),(11,uqc),(12,uqa),(13,uqa)] (.seq (.join uqr [(0,uqd),(1,uqa),(2,uqa),(3,uqa),(4,.v y38 .bw),(10,uqc),(11,uqc),(12,uqa),(13,uqa),(97,uqc)] (.cond (uqs (uqs .nil)) .nil)) (.seq (.reg [] [{},{},{},{},{},{},{fl:=1}]) (uqs (uqs (uqs (uqs (.cond (uqs (uqs uqr)) (uqs (uqs uqr)))))))))))))))))))))
def d214N:Nat→Arr (ptys sg214.ps) (Option (Ret sg214.res))
 | 0=>fun _ _ _ _ _=>none
 |k+1=>d214F (d214N k)
theorem ev214(g:Arr (ptys sg214.ps) (Option (Ret sg214.res)))(h:Sim Tryz.prog 214 sg214 g)(xs:Vals (ptys sg214.ps)):evF (P:=Tryz.prog) tab [.fn E228,.fn E229,.fn E230,.fn E231,.fn E232,.fn E233,.fn E234,.fn E235,.fn ⟨214,sg214,g,h⟩] sg214 Tryz.f214.results.toList (code Tryz.f214) plan214 xs=d214F g xs.1 xs.2.1 xs.2.2.1 xs.2.2.2.1 xs.2.2.2.2.1:=by kernel_rfl
theorem sim214N:∀k,Sim Tryz.prog 214 sg214 (d214N k)
 | 0=>⟨Tryz.call214,fun xs y h=>absurd (show(none:Option _)=some y from h) (by simp)⟩
 |k+1=>sim_ev mixd tabOK Tryz.func214 (zac rfl) Tryz.call214 (uqn (by kernel_rfl)) (by kernel_rfl) plan214 _ fun xs y h=>(ev214 _ (sim214N k) xs).trans h
def d214(p0:List Int)(p1:Int)(p2:Int)(p3:Int)(p4:(Int→Int→Option Int)):Option uf10:=d214N 2 p0 p1 p2 p3 p4
theorem sim214:Sim Tryz.prog 214 sg214 d214:=sim214N 2
def E214:FnE Tryz.prog:=⟨214,sg214,d214,sim214⟩
def d195(x:List Int)(cmp:(Int→Int→Option Int)):Option uf10:=
 (d208 (wu64 (x.length:Int))).bind fun r=>
 (d214 x 0 (x.length:Int) r cmp).bind fun a=>
 some a
def sg195:Sig:=⟨[(y26,(.io (.own 3 .sh))),(y38,.bw)],[]⟩
theorem sim195:Sim Tryz.prog 195 sg195 d195:=uqz Tryz.func195 (zac rfl) Tryz.call195 (by kernel_rfl) (by kernel_rfl) [.fn E208,.fn E214] (uqs uqr) fun xs=>by kernel_rfl
def E195:FnE Tryz.prog:=⟨195,sg195,d195,sim195⟩
def d160(k:uf1)(votes:List Int)(quota:Int):Option uf10:=
 (d161 k 0).bind fun r=>
 (d134 r (fun a=>d194 a votes quota)).bind fun c=>
 (d195 c (fun e f=>d196 e f votes k)).bind fun b=>
 bif (zbz 0 (bif (decide ((w (k.1.2.2.2.1-k.2.2.2.2.2.2.1))<(b.length:Int)))then(w (k.1.2.2.2.1-k.2.2.2.2.2.2.1))else(b.length:Int)) b.length)then
 some (List.take (Int.toNat (bif (decide ((w (k.1.2.2.2.1-k.2.2.2.2.2.2.1))<(b.length:Int)))then(w (k.1.2.2.2.1-k.2.2.2.2.2.2.1))else(b.length:Int))) b)
 else none
def sg160:Sig:=⟨[(y140,.bw),(y26,.bw),(y2,.sh)],[(y26,(.own 3 .sh))]⟩
theorem sim160:Sim Tryz.prog 160 sg160 d160:=uqz Tryz.func160 (zac rfl) Tryz.call160 (by kernel_rfl) (by kernel_rfl) [.fn E161,.fn E134,.fn E194,.fn E195,.fn E196] (uqs (uqs (uqs (uqs .nil)))) fun xs=>by kernel_rfl
def E160:FnE Tryz.prog:=⟨160,sg160,d160,sim160⟩
def d159(k:uf1)(r:uf3)(candidates:List Int):Option uf0:=
 (zaa (β:=uf0) (fun((a,b,e,g,c):uf1×uf3×uf10×Int×Int)=>
 bif (decide (c<g))then
 bif (decide (0≤c)&&decide (c<(e.length:Int)))then
 bif (decide (0≤(List.getD e (Int.toNat c) 0))&&decide ((List.getD e (Int.toNat c) 0)<(a.2.2.2.2.1.length:Int)))then
 bif (decide ((b.2.2.2.2.2.1.length:Int)+(([(List.getD e (Int.toNat c) 0)]:List Int).length:Int)≤LIM))then
 some (Sum.inl ((a.1,a.2.1,a.2.2.1,a.2.2.2.1,(List.set a.2.2.2.2.1 (Int.toNat (List.getD e (Int.toNat c) 0)) 1),a.2.2.2.2.2.1,(w (a.2.2.2.2.2.2.1+1)),a.2.2.2.2.2.2.2),(b.1,b.2.1,b.2.2.1,b.2.2.2.1,b.2.2.2.2.1,(b.2.2.2.2.2.1++[(List.getD e (Int.toNat c) 0)]),b.2.2.2.2.2.2),e,g,(w (c+1))))
 else none
 else none
 else none
 else
 some (Sum.inr (a,b))) (k,r,candidates,(candidates.length:Int),0)).bind fun((h,f):uf1×uf3)=>
 (d174 f.2.2.2.2.2.1).bind fun i=>
 some (h,(f.1,f.2.1,f.2.2.1,f.2.2.2.1,f.2.2.2.2.1,i,f.2.2.2.2.2.2))
def sg159:Sig:=⟨[(y140,(.io (.own 0 (.pr .sh (.pr .sh (.pr .sh (.pr .sh (.pr (.own 3 .sh) (.pr (.own 3 .sh) (.pr .sh (.pr (.own 53 .sh) (.pr .sh (.pr .sh (.pr .sh (.pr .sh (.pr .sh (.pr .sh (.pr (.own 59 .sh) (.own 3 .sh))))))))))))))))))),(y154,(.io (.own 0 (.pr .sh (.pr .sh (.pr .sh (.pr .sh (.pr .sh (.pr (.own 3 .sh) (.pr .sh .sh)))))))))),(y26,.bw)],[]⟩
theorem sim159:Sim Tryz.prog 159 sg159 d159:=uqz Tryz.func159 (zac rfl) Tryz.call159 (by kernel_rfl) (by kernel_rfl) [.fn E174] (.seq (uqs (.block (.loop [(0,.v y140 (.own 0 (.pr .sh (.pr .sh (.pr .sh (.pr .sh (.pr (.own 3 .sh) (.pr (.own 3 .sh) (.pr .sh (.pr (.own 53 .sh) (.pr .sh (.pr .sh (.pr .sh (.pr .sh (.pr .sh (.pr .sh (.pr (.own 59 .sh) (.own 3 .sh)))))))))))))))))),(1,.v y154 (.own 0 (.pr .sh (.pr .sh (.pr .sh (.pr .sh (.pr .sh (.pr (.own 3 .sh) (.pr .sh .sh))))))))),(8,uqb),(9,uqa),(10,uqa)] [(.brk 0,[(0,.v y140 (.own 0 (.pr .sh (.pr .sh (.pr .sh (.pr .sh (.pr (.own 3 .sh) (.pr (.own 3 .sh) (.pr .sh (.pr (.own 53 .sh) (.pr .sh (.pr .sh (.pr .sh (.pr .sh (.pr .sh (.pr .sh (.pr (.own 59 .sh) (.own 3 .sh)))))))))))))))))),(1,.v y154 (.own 0 (.pr .sh (.pr .sh (.pr .sh (.pr .sh (.pr .sh (.pr (.own 3 .sh) (.pr .sh .sh)))))))))])] (uqs (.seq (.cond .nil .nil) (.seq (.block (uqs (uqs (uqs uqr)))) uqr)))))) uqr) fun xs=>by kernel_rfl
def E159:FnE Tryz.prog:=⟨159,sg159,d159,sim159⟩
def d60(digits:Int):Option Int:=
 letJ (fun((b,c):Int×Bool)=>
 bif c then
 some 0
 else
 (d111 (w (Int.tdiv b 2))).bind fun r=>
 some r) fun a=>
 bif !(decide (digits<1))then
 a (digits,(decide (6<digits)))
 else
 a (digits,true)
def sg60:Sig:=⟨[(y2,.sh)],[(y2,.sh)]⟩
theorem sim60:Sim Tryz.prog 60 sg60 d60:=uqz Tryz.func60 (zac rfl) Tryz.call60 (by kernel_rfl) (by kernel_rfl) [.fn E111] (uqs (.seq (.join uqr [(0,uqa),(8,uqc)] (.cond (uqs .nil) .nil)) (uqs .nil))) fun xs=>by kernel_rfl
def E60:FnE Tryz.prog:=⟨60,sg60,d60,sim60⟩
def d162(k:uf1)(surplus:Int)(rounds:Int):Option Bool:=
 letJ (fun((a,c,e):uf1×Int×Bool)=>
 bif e then
 some true
 else
 bif (decide (0≤(w ((a.2.2.2.2.2.2.2.2.2.2.2.2.2.2.1.length:Int)-1))))then
 bif (decide (0≤(w ((a.2.2.2.2.2.2.2.2.2.2.2.2.2.2.1.length:Int)-1)))&&decide ((w ((a.2.2.2.2.2.2.2.2.2.2.2.2.2.2.1.length:Int)-1))<(a.2.2.2.2.2.2.2.2.2.2.2.2.2.2.1.length:Int)))then
 bif (decide ((((((((((List.getD a.2.2.2.2.2.2.2.2.2.2.2.2.2.2.1 (Int.toNat (w ((a.2.2.2.2.2.2.2.2.2.2.2.2.2.2.1.length:Int)-1))) ([],[],(false,[],[]),(false,[],[]),(false,[],[]),[],[],[])).2).2).2).2).2).2).1).length:Int)=0))then
 some (decide (a.2.2.2.2.2.2.2.2.2.1≤c))
 else
 some false
 else none
 else
 some false) fun b=>
 (d60 k.1.2.2.2.2.2.1).bind fun r=>
 bif !(decide (surplus<r))then
 b (k,surplus,(decide (60≤(w (rounds-k.2.2.2.2.2.2.2.2.1)))))
 else
 b (k,surplus,true)
def sg162:Sig:=⟨[(y140,.bw),(y2,.sh),(y2,.sh)],[(y4,.sh)]⟩
theorem sim162:Sim Tryz.prog 162 sg162 d162:=uqz Tryz.func162 (zac rfl) Tryz.call162 (by kernel_rfl) (by kernel_rfl) [.fn E60] (uqs (.seq (.join uqr [(0,.v y140 .bw),(1,uqa),(24,uqc)] (.cond (uqs .nil) .nil)) (uqs (uqs .nil)))) fun xs=>by kernel_rfl
def E162:FnE Tryz.prog:=⟨162,sg162,d162,sim162⟩
def d197(c:Int)(p1:List Int)(p2:Int)(p3:Int):Option Bool:=
 bif (decide (0≤c)&&decide (c<(p1.length:Int)))then
 some (decide ((w (p2+p3))<(List.getD p1 (Int.toNat c) 0)))
 else none
def sg197:Sig:=⟨[(y2,.bw),((.ptr y26),.bw),(y233,.bw),(y233,.bw)],[(y4,.sh)]⟩
theorem sim197:Sim Tryz.prog 197 sg197 d197:=uqz Tryz.func197 (zac rfl) Tryz.call197 (by kernel_rfl) (by kernel_rfl) [] (uqs (uqs .nil)) fun xs=>by kernel_rfl
def E197:FnE Tryz.prog:=⟨197,sg197,d197,sim197⟩
def d163(p0:uf1)(p1:uf3)(p2:List Int)(p3:Int):Option uf0:=
 (d161 p0 0).bind fun r=>
 bif (decide (0≤0)&&decide (0<(r.length:Int)))then
 bif (decide (0≤(List.getD r 0 0))&&decide ((List.getD r 0 0)<(p2.length:Int)))then
 (zaa (β:=(uf1×uf3×uf10×Int×uf10×Int)) (fun((m,n,j,o,g,l,p,e):uf1×uf3×uf10×Int×uf10×Int×Int×Int)=>
 bif (decide (e<p))then
 bif (decide (0≤e)&&decide (e<(g.length:Int)))then
 bif (decide (0≤(List.getD g (Int.toNat e) 0))&&decide ((List.getD g (Int.toNat e) 0)<(j.length:Int)))then
 some (Sum.inl (m,n,j,o,g,(bif (decide ((List.getD j (Int.toNat (List.getD g (Int.toNat e) 0)) 0)<l))then(List.getD j (Int.toNat (List.getD g (Int.toNat e) 0)) 0)else l),p,(w (e+1))))
 else none
 else none
 else
 some (Sum.inr (m,n,j,o,g,l))) (p0,p1,p2,p3,r,(List.getD p2 (Int.toNat (List.getD r 0 0)) 0),(r.length:Int),0)).bind fun((b,f,t,u,v,x):uf1×uf3×uf10×Int×uf10×Int)=>
 (d134 v (fun a=>d197 a t x u)).bind fun k=>
 bif (decide (0≤0)&&decide (0<(k.length:Int)))then
 letJ (fun((c,h,i):uf1×uf3×Int)=>
 bif (decide (0≤i)&&decide (i<(c.2.2.2.2.1.length:Int)))then
 bif (decide (0≤i)&&decide (i<(c.2.2.2.2.2.1.length:Int)))then
 some ((c.1,c.2.1,c.2.2.1,c.2.2.2.1,(List.set c.2.2.2.2.1 (Int.toNat i) 2),(List.set c.2.2.2.2.2.1 (Int.toNat i) 0),c.2.2.2.2.2.2),(h.1,h.2.1,h.2.2.1,h.2.2.2.1,h.2.2.2.2.1,h.2.2.2.2.2.1,[i],h.2.2.2.2.2.2.2))
 else none
 else none) fun q=>
 bif (decide (1<(k.length:Int)))then
 (d155 b.1.2.2.2.2.2.2.1 b.2.2.2.2.2.2.2.1 k b.2.2.1 true).bind fun s=>
 q ((b.1,b.2.1,b.2.2.1,b.2.2.2.1,b.2.2.2.2.1,b.2.2.2.2.2.1,b.2.2.2.2.2.2.1,s.2.2,b.2.2.2.2.2.2.2.2),(f.1,f.2.1,f.2.2.1,f.2.2.2.1,f.2.2.2.2.1,f.2.2.2.2.2.1,f.2.2.2.2.2.2.1,k),s.1)
 else
 q (b,f,(List.getD k 0 0))
 else none
 else none
 else none
def sg163:Sig:=⟨[(y140,(.io (.own 0 (.pr .sh (.pr .sh (.pr .sh (.pr .sh (.pr (.own 3 .sh) (.pr (.own 3 .sh) (.pr .sh (.pr (.own 53 .sh) (.pr .sh (.pr .sh (.pr .sh (.pr .sh (.pr .sh (.pr .sh (.pr (.own 59 .sh) (.own 3 .sh))))))))))))))))))),(y154,(.io (.own 0 (.pr .sh (.pr .sh (.pr .sh (.pr .sh (.pr .sh (.pr (.own 3 .sh) (.pr .sh .sh)))))))))),(y26,.bw),(y2,.sh)],[]⟩
theorem sim163:Sim Tryz.prog 163 sg163 d163:=uqz Tryz.func163 (zac rfl) Tryz.call163 (by kernel_rfl) (by kernel_rfl) [.fn E161,.fn E134,.fn E197,.fn E155] (uqs (uqs (uqs (.seq (uqs (.block (.loop [(0,.v y140 (.own 0 (.pr .sh (.pr .sh (.pr .sh (.pr .sh (.pr (.own 3 .sh) (.pr (.own 3 .sh) (.pr .sh (.pr (.own 53 .sh) (.pr .sh (.pr .sh (.pr .sh (.pr .sh (.pr .sh (.pr .sh (.pr (.own 59 .sh) (.own 3 .sh)))))))))))))))))),(1,.v y154 (.own 0 (.pr .sh (.pr .sh (.pr .sh (.pr .sh (.pr .sh (.pr (.own 3 .sh) (.pr .sh .sh))))))))),(6,.v (.ptr y26) (.own 0 .bw)),(7,.v y233 (.own 0 .sh)),(8,uqd),(9,.v y233 (.own 0 .sh)),(22,.view 8 []),(23,uqa),(24,uqa)] [(.brk 0,[(0,.v y140 (.own 0 (.pr .sh (.pr .sh (.pr .sh (.pr .sh (.pr (.own 3 .sh) (.pr (.own 3 .sh) (.pr .sh (.pr (.own 53 .sh) (.pr .sh (.pr .sh (.pr .sh (.pr .sh (.pr .sh (.pr .sh (.pr (.own 59 .sh) (.own 3 .sh)))))))))))))))))),(1,.v y154 (.own 0 (.pr .sh (.pr .sh (.pr .sh (.pr .sh (.pr .sh (.pr (.own 3 .sh) (.pr .sh .sh))))))))),(6,.v (.ptr y26) (.own 0 .bw)),(7,.v y233 (.own 0 .sh)),(8,uqd),(9,.v y233 (.own 0 .sh))])] (uqs (.seq (.cond .nil .nil) (.seq (.block (uqs uqr)) uqr)))))) (uqs (uqs (.join (uqs (.cond (.seq (.reg [(12,[])] []) (.reg [] [{},{},{},{},{},{},{},{},{},{},{},{},{},{},{},{fl:=1}])) .nil)) [(0,.v y140 (.own 0 (.pr .sh (.pr .sh (.pr .sh (.pr .sh (.pr (.own 3 .sh) (.pr (.own 3 .sh) (.pr .sh (.pr (.own 53 .sh) (.pr .sh (.pr .sh (.pr .sh (.pr .sh (.pr .sh (.pr .sh (.pr (.own 59 .sh) (.own 3 .sh)))))))))))))))))),(1,.v y154 (.own 0 (.pr .sh (.pr .sh (.pr .sh (.pr .sh (.pr .sh (.pr (.own 3 .sh) (.pr .sh .sh))))))))),(13,uqa)] (uqs (.seq (.reg [(1,[0,1,1,1,1,1,1,0])] []) uqr))))))))) fun xs=>by kernel_rfl
def E163:FnE Tryz.prog:=⟨163,sg163,d163,sim163⟩
def d164(k:uf1)(votes:List Int)(quota:Int):Option uf1:=
 (d161 k 1).bind fun r=>
 (zaa (β:=uf1) (fun((b,e,f,c,g,a):uf1×uf10×Int×uf10×Int×Int)=>
 bif (decide (a<g))then
 letJ (fun((j,l,m,n,o,p):uf1×uf10×Int×uf10×Int×Int)=>
 some (Sum.inl (j,l,m,n,o,(w (p+1))))) fun h=>
 bif (decide (0≤a)&&decide (a<(c.length:Int)))then
 bif (decide (0≤(List.getD c (Int.toNat a) 0))&&decide ((List.getD c (Int.toNat a) 0)<(e.length:Int)))then
 bif (decide (0<(List.getD e (Int.toNat (List.getD c (Int.toNat a) 0)) 0)))then
 bif (decide (0≤(List.getD c (Int.toNat a) 0))&&decide ((List.getD c (Int.toNat a) 0)<(b.2.2.2.2.2.1.length:Int)))then
 (d121 (w ((List.getD b.2.2.2.2.2.1 (Int.toNat (List.getD c (Int.toNat a) 0)) 0)*f)) b.2.2.2.1).bind fun q=>
 bif (decide (0≤(List.getD c (Int.toNat a) 0))&&decide ((List.getD c (Int.toNat a) 0)<(e.length:Int)))then
 (d121 (w (q*b.2.2.2.1)) (List.getD e (Int.toNat (List.getD c (Int.toNat a) 0)) 0)).bind fun i=>
 bif (decide (0≤(List.getD c (Int.toNat a) 0))&&decide ((List.getD c (Int.toNat a) 0)<(b.2.2.2.2.2.1.length:Int)))then
 h ((b.1,b.2.1,b.2.2.1,b.2.2.2.1,b.2.2.2.2.1,(List.set b.2.2.2.2.2.1 (Int.toNat (List.getD c (Int.toNat a) 0)) (bif (decide (i<b.2.2.2.1))then i else b.2.2.2.1)),b.2.2.2.2.2.2),e,f,c,g,a)
 else none
 else none
 else none
 else
 h (b,e,f,c,g,a)
 else none
 else none
 else
 some (Sum.inr b)) (k,votes,quota,r,(r.length:Int),0)).bind fun(s:uf1)=>
 some s
def sg164:Sig:=⟨[(y140,(.io (.own 0 (.pr .sh (.pr .sh (.pr .sh (.pr .sh (.pr (.own 3 .sh) (.pr (.own 3 .sh) (.pr .sh (.pr (.own 53 .sh) (.pr .sh (.pr .sh (.pr .sh (.pr .sh (.pr .sh (.pr .sh (.pr (.own 59 .sh) (.own 3 .sh))))))))))))))))))),(y26,.bw),(y2,.sh)],[]⟩
theorem sim164:Sim Tryz.prog 164 sg164 d164:=uqz Tryz.func164 (zac rfl) Tryz.call164 (by kernel_rfl) (by kernel_rfl) [.fn E161,.fn E121] (uqs (.block (.loop [(0,.v y140 (.own 0 (.pr .sh (.pr .sh (.pr .sh (.pr .sh (.pr (.own 3 .sh) (.pr (.own 3 .sh) (.pr .sh (.pr (.own 53 .sh) (.pr .sh (.pr .sh (.pr .sh (.pr .sh (.pr .sh (.pr .sh (.pr (.own 59 .sh) (.own 3 .sh)))))))))))))))))),(1,uqb),(2,uqa),(9,uqd),(10,uqa),(11,uqa)] [(.brk 0,[(0,.v y140 (.own 0 (.pr .sh (.pr .sh (.pr .sh (.pr .sh (.pr (.own 3 .sh) (.pr (.own 3 .sh) (.pr .sh (.pr (.own 53 .sh) (.pr .sh (.pr .sh (.pr .sh (.pr .sh (.pr .sh (.pr .sh (.pr (.own 59 .sh) (.own 3 .sh))))))))))))))))))])] (uqs (.seq (.cond .nil .nil) (.join (.block (uqs (uqs (.cond uqr .nil)))) [(0,.v y140 (.own 0 (.pr .sh (.pr .sh (.pr .sh (.pr .sh (.pr (.own 3 .sh) (.pr (.own 3 .sh) (.pr .sh (.pr (.own 53 .sh) (.pr .sh (.pr .sh (.pr .sh (.pr .sh (.pr .sh (.pr .sh (.pr (.own 59 .sh) (.own 3 .sh)))))))))))))))))),(1,uqb),(2,uqa),(9,uqd),(10,uqa),(11,uqa)] uqr)))))) fun xs=>by kernel_rfl
def E164:FnE Tryz.prog:=⟨164,sg164,d164,sim164⟩
def d113(p0:uf1):Option (Bool×uf1):=
 (d58 p0.1.2.2.2.2.2.1 p0.2.2.2.2.2.1 p0.2.1).bind fun r=>
 (zaa (β:=(uf1×uf10×Int×Int)) (fun((x,y,z,aa,q,ab,k):uf1×uf10×Int×Int×uf10×Int×Int)=>
 bif (decide (k<ab))then
 bif (decide (0≤k)&&decide (k<(q.length:Int)))then
 some (Sum.inl (x,y,z,(w (aa+(List.getD q (Int.toNat k) 0))),q,ab,(w (k+1))))
 else none
 else
 some (Sum.inr (x,y,z,aa))) (p0,r.1,r.2.1,0,r.1,(r.1.length:Int),0)).bind fun((e,s,ay,t):uf1×uf10×Int×Int)=>
 bif (!decide ((w (e.1.2.2.2.1+1))=0))then
 (d157 e s).bind fun az=>
 (d157 e e.2.2.2.2.2.1).bind fun ba=>
 (d158 (w ((w (Int.tdiv t (w (e.1.2.2.2.1+1))))+1)) e.2.2.2.1).bind fun bb=>
 (d158 ay e.2.2.2.1).bind fun bc=>
 (d160 e s (w ((w (Int.tdiv t (w (e.1.2.2.2.1+1))))+1))).bind fun be=>
 (d159 e (az,ba,bb,bc,(false,[],[]),[],[],[]) be).bind fun u=>
 (d161 u.1 1).bind fun ac=>
 (zaa (β:=(uf1×uf10×Int×uf3×Int)) (fun((ae,l,m,af,ag,h,ah,g):uf1×uf10×Int×uf3×Int×uf10×Int×Int)=>
 bif (decide (g<ah))then
 bif (decide (0≤g)&&decide (g<(h.length:Int)))then
 bif (decide (0≤(List.getD h (Int.toNat g) 0))&&decide ((List.getD h (Int.toNat g) 0)<(l.length:Int)))then
 some (Sum.inl (ae,l,m,af,(w (ag+(bif (decide (0<(w ((List.getD l (Int.toNat (List.getD h (Int.toNat g) 0)) 0)-m))))then(w ((List.getD l (Int.toNat (List.getD h (Int.toNat g) 0)) 0)-m))else 0))),h,ah,(w (g+1))))
 else none
 else none
 else
 some (Sum.inr (ae,l,m,af,ag))) (u.1,s,(w ((w (Int.tdiv t (w (e.1.2.2.2.1+1))))+1)),u.2,0,ac,(ac.length:Int),0)).bind fun((a,ai,aj,b,i):uf1×uf10×Int×uf3×Int)=>
 (d158 i a.2.2.2.1).bind fun n=>
 letJ (fun((f,o,ak,bf,al):uf1×uf3×Int×Int×Bool)=>
 letJ (fun((c,j,bg,bh):uf1×uf3×Int×Bool)=>
 bif (decide ((c.2.2.2.2.2.2.2.1.length:Int)+(([j.1]:List uf5).length:Int)≤LIM))then
 bif (decide ((c.2.2.2.2.2.2.2.2.2.2.2.2.2.2.1.length:Int)+(([j]:List uf3).length:Int)≤LIM))then
 bif (decide ((c.2.2.2.2.2.2.2.2.2.2.2.2.2.2.2.length:Int)+(j.2.2.2.2.2.1.length:Int)≤LIM))then
 some (!bh,(c.1,c.2.1,c.2.2.1,c.2.2.2.1,c.2.2.2.2.1,c.2.2.2.2.2.1,c.2.2.2.2.2.2.1,(c.2.2.2.2.2.2.2.1++[j.1]),c.2.2.2.2.2.2.2.2.1,bg,c.2.2.2.2.2.2.2.2.2.2.1,c.2.2.2.2.2.2.2.2.2.2.2.1,c.2.2.2.2.2.2.2.2.2.2.2.2.1,c.2.2.2.2.2.2.2.2.2.2.2.2.2.1,(c.2.2.2.2.2.2.2.2.2.2.2.2.2.2.1++[j]),(c.2.2.2.2.2.2.2.2.2.2.2.2.2.2.2++j.2.2.2.2.2.1)))
 else none
 else none
 else none) fun am=>
 bif (decide (0<(w ((o.2.2.2.2.2.1.length:Int)+(o.2.2.2.2.2.2.1.length:Int)))))then
 am ((f.1,f.2.1,f.2.2.1,f.2.2.2.1,f.2.2.2.2.1,f.2.2.2.2.2.1,f.2.2.2.2.2.2.1,f.2.2.2.2.2.2.2.1,bf,f.2.2.2.2.2.2.2.2.2),o,ak,al)
 else
 am (f,o,ak,al)) fun p=>
 bif (decide (a.2.2.2.2.2.2.1=a.1.2.2.2.1))then
 p (a,(b.1,b.2.1,b.2.2.1,b.2.2.2.1,n,b.2.2.2.2.2),i,(w ((a.2.2.2.2.2.2.2.2.2.2.2.2.2.2.1.length:Int)+1)),(decide (a.2.2.2.2.2.2.1=a.1.2.2.2.1)))
 else
 (d161 a 0).bind fun bi=>
 bif (decide ((w (a.2.2.2.2.2.2.1+(bi.length:Int)))≤a.1.2.2.2.1))then
 (d161 a 0).bind fun bj=>
 (d159 a (b.1,b.2.1,b.2.2.1,b.2.2.2.1,n,b.2.2.2.2.2) bj).bind fun an=>
 p (an.1,an.2,i,(w ((a.2.2.2.2.2.2.2.2.2.2.2.2.2.2.1.length:Int)+1)),true)
 else
 letJ (fun((ao,ap,bk,aq,v,ar,au,bl):uf1×uf10×Int×uf3×Int×Int×Bool×Bool)=>
 bif bl then
 (d163 ao aq ap v).bind fun av=>
 p (av.1,av.2,v,ar,au)
 else
 (d164 ao ap bk).bind fun bm=>
 p (bm,aq,v,ar,au)) fun ax=>
 bif (decide ((b.2.2.2.2.2.1.length:Int)=0))then
 (d162 a i (w ((a.2.2.2.2.2.2.2.2.2.2.2.2.2.2.1.length:Int)+1))).bind fun bn=>
 ax (a,ai,aj,(b.1,b.2.1,b.2.2.1,b.2.2.2.1,n,b.2.2.2.2.2),i,(w ((a.2.2.2.2.2.2.2.2.2.2.2.2.2.2.1.length:Int)+1)),(decide (a.2.2.2.2.2.2.1=a.1.2.2.2.1)),bn)
 else
 ax (a,ai,aj,(b.1,b.2.1,b.2.2.1,b.2.2.2.1,n,b.2.2.2.2.2),i,(w ((a.2.2.2.2.2.2.2.2.2.2.2.2.2.2.1.length:Int)+1)),(decide (a.2.2.2.2.2.2.1=a.1.2.2.2.1)),false)
 else none
def sg113:Sig:=⟨[(y140,(.io (.own 0 (.pr .sh (.pr .sh (.pr .sh (.pr .sh (.pr (.own 3 .sh) (.pr (.own 3 .sh) (.pr .sh (.pr (.own 53 .sh) (.pr .sh (.pr .sh (.pr .sh (.pr .sh (.pr .sh (.pr .sh (.pr (.own 59 .sh) (.own 3 .sh)))))))))))))))))))],[(y4,.sh)]⟩
theorem sim113:Sim Tryz.prog 113 sg113 d113:=uqz Tryz.func113 (zac rfl) Tryz.call113 (by kernel_rfl) (by kernel_rfl) [.fn E58,.fn E157,.fn E158,.fn E160,.fn E159,.fn E161,.fn E162,.fn E163,.fn E164] (uqs (.seq (.reg [] [{},{},{},{},{},{},{},{},{},{},{},{},{},{},{fl:=1}]) (uqs (.seq (uqs (.block (.loop [(0,.v y140 (.own 0 (.pr .sh (.pr .sh (.pr .sh (.pr .sh (.pr (.own 3 .sh) (.pr (.own 3 .sh) (.pr .sh (.pr (.own 53 .sh) (.pr .sh (.pr .sh (.pr .sh (.pr .sh (.pr .sh (.pr .sh (.pr (.own 59 .sh) (.own 3 .sh)))))))))))))))))),(3,uqf),(4,uqa),(6,uqa),(34,uqf),(35,uqa),(36,uqa)] [(.brk 0,[(0,.v y140 (.own 0 (.pr .sh (.pr .sh (.pr .sh (.pr .sh (.pr (.own 3 .sh) (.pr (.own 3 .sh) (.pr .sh (.pr (.own 53 .sh) (.pr .sh (.pr .sh (.pr .sh (.pr .sh (.pr .sh (.pr .sh (.pr (.own 59 .sh) (.own 3 .sh)))))))))))))))))),(3,uqf),(4,uqa),(6,uqa)])] (uqs (.seq (.cond .nil .nil) (.seq (.block (uqs uqr)) uqr)))))) (uqs (.seq (.reg [] [{},{},{},{},{},{},{},{},{},{},{},{},{},{},{},{},{},{},{},{},{},{frz:=[(55,[]),(61,[])],fl:=7}]) (.seq (.reg [(10,[0,1,1,1,1,1,1,0]),(10,[0,1,1,1,1,1,1,1])] []) (uqs (.seq (uqs (.block (.loop [(0,.v y140 (.own 0 (.pr .sh (.pr .sh (.pr .sh (.pr .sh (.pr (.own 3 .sh) (.pr (.own 3 .sh) (.pr .sh (.pr (.own 53 .sh) (.pr .sh (.pr .sh (.pr .sh (.pr .sh (.pr .sh (.pr .sh (.pr (.own 59 .sh) (.own 3 .sh)))))))))))))))))),(3,uqf),(9,uqa),(10,.v y154 (.own 0 (.pr .sh (.pr .sh (.pr .sh (.pr .sh (.pr .sh (.pr (.own 3 .sh) (.pr .sh .sh))))))))),(11,uqa),(82,uqd),(83,uqa),(84,uqa)] [(.brk 2,[(0,.v y140 (.own 0 (.pr .sh (.pr .sh (.pr .sh (.pr .sh (.pr (.own 3 .sh) (.pr (.own 3 .sh) (.pr .sh (.pr (.own 53 .sh) (.pr .sh (.pr .sh (.pr .sh (.pr .sh (.pr .sh (.pr .sh (.pr (.own 59 .sh) (.own 3 .sh)))))))))))))))))),(3,uqf),(9,uqa),(10,.v y154 (.own 0 (.pr .sh (.pr .sh (.pr .sh (.pr .sh (.pr .sh (.pr (.own 3 .sh) (.pr .sh .sh))))))))),(11,uqa)])] (uqs (.seq (.cond .nil .nil) (.seq (.block (uqs uqr)) uqr)))))) (uqs (uqs (uqs (.join (.block (uqs (.cond .nil (uqs (.cond (uqs uqr) (.join uqr [(0,.v y140 (.own 0 (.pr .sh (.pr .sh (.pr .sh (.pr .sh (.pr (.own 3 .sh) (.pr (.own 3 .sh) (.pr .sh (.pr (.own 53 .sh) (.pr .sh (.pr .sh (.pr .sh (.pr .sh (.pr .sh (.pr .sh (.pr (.own 59 .sh) (.own 3 .sh)))))))))))))))))),(3,uqf),(9,uqa),(10,.v y154 (.own 0 (.pr .sh (.pr .sh (.pr .sh (.pr .sh (.pr .sh (.pr (.own 3 .sh) (.pr .sh .sh))))))))),(11,uqa),(14,uqa),(15,uqc),(147,uqc)] (.cond uqr uqr))))))) [(0,.v y140 (.own 0 (.pr .sh (.pr .sh (.pr .sh (.pr .sh (.pr (.own 3 .sh) (.pr (.own 3 .sh) (.pr .sh (.pr (.own 53 .sh) (.pr .sh (.pr .sh (.pr .sh (.pr .sh (.pr .sh (.pr .sh (.pr (.own 59 .sh) (.own 3 .sh)))))))))))))))))),(10,.v y154 (.own 0 (.pr .sh (.pr .sh (.pr .sh (.pr .sh (.pr .sh (.pr (.own 3 .sh) (.pr .sh .sh))))))))),(11,uqa),(14,uqa),(15,uqc)] (.join (uqs (.cond uqr .nil)) [(0,.v y140 (.own 0 (.pr .sh (.pr .sh (.pr .sh (.pr .sh (.pr (.own 3 .sh) (.pr (.own 3 .sh) (.pr .sh (.pr (.own 53 .sh) (.pr .sh (.pr .sh (.pr .sh (.pr .sh (.pr .sh (.pr .sh (.pr (.own 59 .sh) (.own 3 .sh)))))))))))))))))),(10,.v y154 (.own 0 (.pr .sh (.pr .sh (.pr .sh (.pr .sh (.pr .sh (.pr (.own 3 .sh) (.pr .sh .sh))))))))),(11,uqa),(15,uqc)] (uqs (uqs (.seq (.reg [(10,[0,1,1,1,1,1,0])] []) (uqs (uqs .nil))))))))))))))))))) fun xs=>by kernel_rfl
def E113:FnE Tryz.prog:=⟨113,sg113,d113,sim113⟩
def d56(c:uf4)(gs:List uf9)(lots:List Int):Option (uf2×Int):=
 (d66 2 c gs lots).bind fun r=>
 bif !(decide (r=0))then
 some ((0,0,0,0,[],[]),r)
 else
 (d111 c.2.2.2.2.2.1).bind fun b=>
 bif (decide ((c.2.1.length:Int)=(c.2.1.length:Int))&&(decide (0≤(c.2.1.length:Int))&&decide ((c.2.1.length:Int)≤LIM)))then
 (d112 [b] (c.2.1.length:Int)).bind fun f=>
 (zaa (β:=(uf2×uf1)) (fun((e,k):uf2×uf1)=>
 (d113 k).bind fun a=>
 bif a.1 then
 some (Sum.inl (e,a.2))
 else
 some (Sum.inr (e,a.2))) ((0,0,0,0,[],[]),(c,gs,lots,b,(List.replicate (Int.toNat (c.2.1.length:Int)) 0),f,0,[],0,0,2,c.2.2.2.1,c.2.2.2.2.2.1,(c.2.1.length:Int),[],[]))).bind fun((h,g):uf2×uf1)=>
 some (g.2.2.2.2.2.2.2.2.2.2,0)
 else none
def sg56:Sig:=⟨[(y23,.sh),(y25,.sh),(y26,.sh)],[(y32,.sh),(y2,.sh)]⟩
theorem sim56:Sim Tryz.prog 56 sg56 d56:=uqz Tryz.func56 (zac rfl) Tryz.call56 (by kernel_rfl) (by kernel_rfl) [.fn E66,.fn E111,.fn E112,.fn E113] (uqs (.seq (uqs (uqs (.cond (uqs .nil) .nil))) (uqs (.seq (.reg [] [{},{},{},{},{},{},{},{},{},{},{},{},{},{fl:=1500304059},{fl:=1000007053}]) (uqs (.seq (.block (.loop [(6,.v (.ptr y32) (.own 0 .sh)),(10,.v y140 (.own 0 (.pr .sh (.pr .sh (.pr .sh (.pr .sh (.pr (.own 3 .sh) (.pr (.own 3 .sh) (.pr .sh (.pr (.own 53 .sh) (.pr .sh (.pr .sh (.pr .sh (.pr .sh (.pr .sh (.pr .sh (.pr (.own 59 .sh) (.own 3 .sh))))))))))))))))))] [(.brk 0,[(6,.v (.ptr y32) (.own 0 .sh)),(10,.v y140 (.own 0 (.pr .sh (.pr .sh (.pr .sh (.pr .sh (.pr (.own 3 .sh) (.pr (.own 3 .sh) (.pr .sh (.pr (.own 53 .sh) (.pr .sh (.pr .sh (.pr .sh (.pr .sh (.pr .sh (.pr .sh (.pr (.own 59 .sh) (.own 3 .sh))))))))))))))))))])] (.seq (uqs (.cond .nil .nil)) (.block .nil)))) (.seq (.reg [(10,[0,1,1,1,1,1,1,1,1,1,1,1,1,1,1,0]),(10,[0,1,1,1,1,1,1,1,1,1,1,1,1,1,1,1])] []) .nil))))))) fun xs=>by kernel_rfl
def E56:FnE Tryz.prog:=⟨56,sg56,d56,sim56⟩
def d55:Option Bool:=
 (d48 3 [[0,1],[0,1],[0,1],[0],[2],[2]]).bind fun r=>
 (d25 1 3 1 2 2).bind fun c=>
 (d56 c r.1 [0,1,2]).bind fun b=>
 (d58 2 [33,100] [([0,1],3)]).bind fun a=>
 bif (decide (b.2=0))then
 (d44 b.1.2.2.2.2.2).bind fun e=>
 (d38 e [0,2]).bind fun f=>
 bif f then
 bif a.2.2 then
 (d38 a.1 [99,201]).bind fun g=>
 bif g then
 bif (decide (a.2.1=0))then
 (d60 5).bind fun h=>
 some (decide (h=100))
 else
 some false
 else
 some false
 else
 some false
 else
 some false
 else
 some false
def sg55:Sig:=⟨[],[(y4,.sh)]⟩
def plan55:Plan:=(uqs (.seq (.reg [] [{},{},{},{},{},{},{frz:=[(10,[]),(11,[]),(12,[]),(13,[]),(14,[]),(15,[])]},{},{fl:=1}]) (uqs (.seq (.reg [] [{},{},{},{frz:=[(24,[])]},{fl:=1}]) (.seq (.reg [] [{},{},{frz:=[(30,[])]},{},{},{fl:=1}]) (uqs .nil))))))
theorem ev55 (xs:Vals (ptys sg55.ps)):evF (P:=Tryz.prog) tab [.fn E48,.fn E25,.fn E56,.fn E58,.fn E44,.fn E38,.fn E60] sg55 Tryz.f55.results.toList (code Tryz.f55) plan55 xs=d55  := by kernel_rfl
theorem sim55:Sim Tryz.prog 55 sg55 d55:=sim_ev mixd tabOK Tryz.func55 (zac rfl) Tryz.call55 (uqn (by kernel_rfl)) (by kernel_rfl) plan55 _ fun xs y h=>(ev55 xs).trans h
def E55:FnE Tryz.prog:=⟨55,sg55,d55,sim55⟩
def d114(n:Int):Option Int:=
 (zaa (β:=Int) (fun((a,x,i):Int×Int×Int)=>
 bif (decide (i<a))then
 some (Sum.inl (a,(w (x*10)),(w (i+1))))
 else
 some (Sum.inr x)) (n,1,0)).bind fun(b:Int)=>
 some b
def sg114:Sig:=⟨[(y2,.sh)],[(y2,.sh)]⟩
theorem sim114:Sim Tryz.prog 114 sg114 d114:=uqz Tryz.func114 (zac rfl) Tryz.call114 (by kernel_rfl) (by kernel_rfl) [] (uqs (uqs (.seq (uqs (.block (.loop [(0,uqa),(3,uqa),(4,uqa)] [(.brk 0,[(3,uqa)])] (.seq (uqs (.cond .nil .nil)) (.seq (.block uqr) uqr))))) (uqs .nil)))) fun xs=>by kernel_rfl
def E114:FnE Tryz.prog:=⟨114,sg114,d114,sim114⟩
def d119(a:Int)(b:Int):Option Int:=
 bif (!decide (b=0))then
 some (w (Int.tdiv (w ((w (a+b))-1)) b))
 else none
def sg119:Sig:=⟨[(y2,.sh),(y2,.sh)],[(y2,.sh)]⟩
theorem sim119:Sim Tryz.prog 119 sg119 d119:=uqz Tryz.func119 (zac rfl) Tryz.call119 (by kernel_rfl) (by kernel_rfl) [] (uqs (uqs .nil)) fun xs=>by kernel_rfl
def E119:FnE Tryz.prog:=⟨119,sg119,d119,sim119⟩
def d59(p0:Int)(p1:List Int)(p2:List uf9):Option (uf10×Int×Bool):=
 letJ (fun((aa,ab,ac,ae):Int×uf10×uf7×Bool)=>
   bif ae then
    some ([],0,false)
   else
    (d114 aa).bind fun af=>
    (zaa (β:=(uf10×uf7×Int)⊕(uf10×Int×Bool)) (fun((f,l,i,e):uf10×uf7×Int×Int)=>
      bif (decide (e<(f.length:Int)))then
       letJ (fun((ag,ah,ai,aj,ak):uf10×uf7×Int×Int×Bool)=>
         bif ak then
          some (Sum.inr (Sum.inr ([],0,false)))
         else
          some (Sum.inl (ag,ah,ai,(w (aj+1))))) fun q=>
       bif (decide (0≤e)&&decide (e<(f.length:Int)))then
        bif !(decide ((List.getD f (Int.toNat e) 0)<0))then
         bif (decide (0≤e)&&decide (e<(f.length:Int)))then
          q (f,l,i,e,(decide (i<(List.getD f (Int.toNat e) 0))))
         else none
        else
         q (f,l,i,e,true)
       else none
      else
       some (Sum.inr (Sum.inl (f,l,i)))) (ab,ac,af,0)).bind fun
    |Sum.inl (g,al,am)=>
     bif (decide ((g.length:Int)=(g.length:Int))&&(decide (0≤(g.length:Int))&&decide ((g.length:Int)≤LIM)))then
      (zaa (β:=(uf10×Int)) (fun((an,s,t,u,v,x):uf10×uf7×Int×uf10×Int×Int)=>
        bif (decide (x<(s.length:Int)))then
         (zaa (β:=(uf10×uf7×Int×uf10×Int×Int×Int)) (fun((j,b,m,h,y,a,n,c):uf10×uf7×Int×uf10×Int×Int×Int×Int)=>
           bif (decide (0≤a)&&decide (a<(b.length:Int)))then
            bif (decide (c<(((List.getD b (Int.toNat a) ([],0)).1).length:Int)))then
             bif (decide (0≤a)&&decide (a<(b.length:Int)))then
              bif (decide (0≤c)&&decide (c<(((List.getD b (Int.toNat a) ([],0)).1).length:Int)))then
               bif (decide (0≤(List.getD ((List.getD b (Int.toNat a) ([],0)).1) (Int.toNat c) 0))&&decide ((List.getD ((List.getD b (Int.toNat a) ([],0)).1) (Int.toNat c) 0)<(j.length:Int)))then
                (d119 (w (n*(List.getD j (Int.toNat (List.getD ((List.getD b (Int.toNat a) ([],0)).1) (Int.toNat c) 0)) 0))) m).bind fun z=>
                bif (decide (0≤(List.getD ((List.getD b (Int.toNat a) ([],0)).1) (Int.toNat c) 0))&&decide ((List.getD ((List.getD b (Int.toNat a) ([],0)).1) (Int.toNat c) 0)<(h.length:Int)))then
                 bif (decide (0≤a)&&decide (a<(b.length:Int)))then
                  bif (decide (0≤(List.getD ((List.getD b (Int.toNat a) ([],0)).1) (Int.toNat c) 0))&&decide ((List.getD ((List.getD b (Int.toNat a) ([],0)).1) (Int.toNat c) 0)<(h.length:Int)))then
                   some (Sum.inl (j,b,m,(List.set h (Int.toNat (List.getD ((List.getD b (Int.toNat a) ([],0)).1) (Int.toNat c) 0)) (w ((List.getD h (Int.toNat (List.getD ((List.getD b (Int.toNat a) ([],0)).1) (Int.toNat c) 0)) 0)+(w (z*((List.getD b (Int.toNat a) ([],0)).2)))))),y,a,(w (n-z)),(w (c+1))))
                  else none
                 else none
                else none
               else none
              else none
             else none
            else
             some (Sum.inr (j,b,m,h,y,a,n))
           else none) (an,s,t,u,v,x,t,0)).bind fun((ao,o,ap,aq,ar,k,au):uf10×uf7×Int×uf10×Int×Int×Int)=>
         bif (decide (0≤k)&&decide (k<(o.length:Int)))then
          some (Sum.inl (ao,o,ap,aq,(w (ar+(w (au*((List.getD o (Int.toNat k) ([],0)).2))))),(w (k+1))))
         else none
        else
         some (Sum.inr (u,v))) (g,al,am,(List.replicate (Int.toNat (g.length:Int)) 0),0,0)).bind fun((av,ax):uf10×Int)=>
      some (av,ax,true)
     else none
    |Sum.inr (ay,az,ba)=>
     some (ay,az,ba)) fun p=>
 bif !(decide (p0<1))then
  bif !(decide (6<p0))then
   (d70 (p1.length:Int) p2).bind fun r=>
   p (p0,p1,p2,!r)
  else
   p (p0,p1,p2,true)
 else
  p (p0,p1,p2,true)
def sg59:Sig:=⟨[(y2,.sh),(y26,.bw),(y25,.bw)],[(y26,.sh),(y2,.sh),(y4,.sh)]⟩
theorem sim59:Sim Tryz.prog 59 sg59 d59:=uqz Tryz.func59 (zac rfl) Tryz.call59 (by kernel_rfl) (by kernel_rfl) [.fn E70,.fn E114,.fn E119] (.post (uqs (.seq (.join uqr [(0,uqa),(1,uqb),(2,uqe),(30,uqc)] (.cond (uqs .nil) .nil)) (uqs (.seq (uqs (.block (.loop [(1,uqb),(2,uqe),(9,uqa),(10,uqa)] [(.brk 0,[(1,uqb),(2,uqe),(9,uqa)]),(.ret,[(6,uqf),(7,uqa),(8,uqc)])] (.seq (uqs (.cond .nil .nil)) (.seq (.block (.join uqr [(1,uqb),(2,uqe),(9,uqa),(10,uqa),(51,uqc)] (.cond (uqs .nil) .nil))) uqr))))) (uqs (uqs (.seq (uqs (.block (.loop [(1,uqb),(2,uqe),(9,uqa),(11,uqd),(12,uqa),(13,uqa)] [(.brk 2,[(11,uqd),(12,uqa)])] (.seq (uqs (.cond .nil .nil)) (.seq (.block (uqs (.seq (uqs (.block (.loop [(1,uqb),(2,uqe),(9,uqa),(11,uqd),(12,uqa),(13,uqa),(14,uqa),(15,uqa)] [(.brk 4,[(1,uqb),(2,uqe),(9,uqa),(11,uqd),(12,uqa),(13,uqa),(14,uqa)])] (.seq (uqs (.cond .nil .nil)) (.seq (.block (uqs (uqs (uqs uqr)))) uqr))))) uqr))) uqr))))) (uqs .nil)))))))) [(6,[])]) fun xs=>by kernel_rfl
def E59:FnE Tryz.prog:=⟨59,sg59,d59,sim59⟩
def d116(n:Int)(one:Int):Option uf6:=
 (d65 n one).bind fun r=>
 some r
def d115(l:List Int)(one:Int):Option uf5:=
 (zaa (β:=uf5) (fun((a,b,out,i):uf10×Int×uf5×Int)=>
 bif (decide (i<(a.length:Int)))then
 bif (decide (0≤i)&&decide (i<(a.length:Int)))then
 (d116 (List.getD a (Int.toNat i) 0) b).bind fun r=>
 bif (decide ((out.length:Int)+(([r]:List uf6).length:Int)≤LIM))then
 some (Sum.inl (a,b,(out++[r]),(w (i+1))))
 else none
 else none
 else
 some (Sum.inr out)) (l,one,[],0)).bind fun(c:List uf6)=>
 some c
def d117(p0:List Int)(p1:List Int)(p2:List Int)(p3:Int)(p4:Int):Option (uf10×uf10):=
 (zaa (β:=(uf10×uf10)⊕(uf10×uf10)) (fun((aa,n,ab,ac,o,l):uf10×uf10×uf10×Int×Int×uf10)=>
   bif (decide ((l.length:Int)<o))then
    (zaa (β:=(uf10×uf10×uf10×Int×Int×uf10×Int)) (fun((c,f,a,g,h,i,e,b):uf10×uf10×uf10×Int×Int×uf10×Int×Int)=>
      bif (decide (b<(a.length:Int)))then
       letJ (fun((ae,af,ag,ah,ai,aj,ak,al):uf10×uf10×uf10×Int×Int×uf10×Int×Int)=>
         some (Sum.inl (ae,af,ag,ah,ai,aj,ak,(w (al+1))))) fun p=>
       bif (decide (0≤b)&&decide (b<(a.length:Int)))then
        letJ (fun((q,s,t,u,v,x,am,y,an,ao):uf10×uf10×uf10×Int×Int×uf10×Int×Int×Int×Bool)=>
          bif ao then
           p (q,s,t,u,v,x,an,y)
          else
           p (q,s,t,u,v,x,am,y)) fun k=>
        bif (decide (0≤(List.getD a (Int.toNat b) 0))&&decide ((List.getD a (Int.toNat b) 0)<(f.length:Int)))then
         bif (decide ((List.getD f (Int.toNat (List.getD a (Int.toNat b) 0)) 0)=0))then
          bif (decide (0≤(List.getD a (Int.toNat b) 0))&&decide ((List.getD a (Int.toNat b) 0)<(c.length:Int)))then
           bif (decide (g≤(List.getD c (Int.toNat (List.getD a (Int.toNat b) 0)) 0)))then
            bif !(decide (e<0))then
             bif (decide (0≤(List.getD a (Int.toNat b) 0))&&decide ((List.getD a (Int.toNat b) 0)<(c.length:Int)))then
              bif (decide (0≤e)&&decide (e<(c.length:Int)))then
               k (c,f,a,g,h,i,e,b,(List.getD a (Int.toNat b) 0),(decide ((List.getD c (Int.toNat e) 0)<(List.getD c (Int.toNat (List.getD a (Int.toNat b) 0)) 0))))
              else none
             else none
            else
             k (c,f,a,g,h,i,e,b,(List.getD a (Int.toNat b) 0),true)
           else
            k (c,f,a,g,h,i,e,b,(List.getD a (Int.toNat b) 0),false)
          else none
         else
          k (c,f,a,g,h,i,e,b,(List.getD a (Int.toNat b) 0),false)
        else none
       else none
      else
       some (Sum.inr (c,f,a,g,h,i,e))) (aa,n,ab,ac,o,l,(-1),0)).bind fun((ap,m,aq,ar,au,z,j):uf10×uf10×uf10×Int×Int×uf10×Int)=>
    bif (decide (j<0))then
     some (Sum.inr (Sum.inr (m,z)))
    else
     bif (decide (0≤j)&&decide (j<(m.length:Int)))then
      (d81 z j).bind fun r=>
      some (Sum.inl (ap,(List.set m (Int.toNat j) 1),aq,ar,au,r))
     else none
   else
    some (Sum.inr (Sum.inl (n,l)))) (p0,p1,p2,p3,p4,[])).bind fun
 |Sum.inl (av,ax)=>
  some (ax,av)
 |Sum.inr (ay,az)=>
  some (az,ay)
def d61(digits:Int):Option Int:=
 letJ (fun((b,c):Int×Bool)=>
 bif c then
 some 0
 else
 (d114 (w (Int.tdiv b 2))).bind fun r=>
 some r) fun a=>
 bif !(decide (digits<1))then
 a (digits,(decide (6<digits)))
 else
 a (digits,true)
def sg61:Sig:=⟨[(y2,.sh)],[(y2,.sh)]⟩
theorem sim61:Sim Tryz.prog 61 sg61 d61:=uqz Tryz.func61 (zac rfl) Tryz.call61 (by kernel_rfl) (by kernel_rfl) [.fn E114] (uqs (.seq (.join uqr [(0,uqa),(8,uqc)] (.cond (uqs .nil) .nil)) (uqs .nil))) fun xs=>by kernel_rfl
def E61:FnE Tryz.prog:=⟨61,sg61,d61,sim61⟩
def d118(votes:List Int)(state:List Int)(surplus:Int):Option uf10:=
 (zaa (β:=(uf10×uf10×Int×Int)) (fun((b,c,g,least,i):uf10×uf10×Int×Int×Int)=>
 bif (decide (i<(b.length:Int)))then
 letJ (fun((z,aa,ab,ac,ae):uf10×uf10×Int×Int×Int)=>
 some (Sum.inl (z,aa,ab,ac,(w (ae+1))))) fun p=>
 letJ (fun((h,q,r,af,e,ag):uf10×uf10×Int×Int×Int×Bool)=>
 bif ag then
 bif (decide (0≤e)&&decide (e<(h.length:Int)))then
 p (h,q,r,(List.getD h (Int.toNat e) 0),e)
 else none
 else
 p (h,q,r,af,e)) fun l=>
 bif (decide (0≤i)&&decide (i<(c.length:Int)))then
 bif (decide ((List.getD c (Int.toNat i) 0)=0))then
 bif !(decide (least<0))then
 bif (decide (0≤i)&&decide (i<(b.length:Int)))then
 l (b,c,g,least,i,(decide ((List.getD b (Int.toNat i) 0)<least)))
 else none
 else
 l (b,c,g,least,i,true)
 else
 l (b,c,g,least,i,false)
 else none
 else
 some (Sum.inr (b,c,g,least))) (votes,state,surplus,(-1),0)).bind fun((ah,ai,aj,ak):uf10×uf10×Int×Int)=>
 (zaa (β:=uf10) (fun((f,j,m,n,out,a):uf10×uf10×Int×Int×uf10×Int)=>
 bif (decide (a<(f.length:Int)))then
 letJ (fun((al,am,an,ao,ap,aq):uf10×uf10×Int×Int×uf10×Int)=>
 some (Sum.inl (al,am,an,ao,ap,(w (aq+1))))) fun s=>
 letJ (fun((t,u,v,x,o,k,ar):uf10×uf10×Int×Int×uf10×Int×Bool)=>
 bif ar then
 bif (decide ((o.length:Int)+(([k]:List Int).length:Int)≤LIM))then
 s (t,u,v,x,(o++[k]),k)
 else none
 else
 s (t,u,v,x,o,k)) fun y=>
 bif (decide (0≤a)&&decide (a<(j.length:Int)))then
 bif (decide ((List.getD j (Int.toNat a) 0)=0))then
 bif (decide (0≤a)&&decide (a<(f.length:Int)))then
 y (f,j,m,n,out,a,(decide ((List.getD f (Int.toNat a) 0)≤(w (n+m)))))
 else none
 else
 y (f,j,m,n,out,a,false)
 else none
 else
 some (Sum.inr out)) (ah,ai,aj,ak,[],0)).bind fun(au:List Int)=>
 some au
def d12(p0:Int)(p1:List Int)(p2:List uf9)(p3:Bool)(p4:List uf10):Option Bool:=
 letJ (fun((y,z,be,o,aa,bf):Int×uf10×uf7×Bool×uf8×Bool)=>
 bif bf then
 (d55).bind fun bg=>
 some bg
 else
 letJ (fun((e,ab,ac,f,g,h):Int×uf10×uf7×Bool×uf8×Int)=>
 (d58 e ab ac).bind fun a=>
 (d59 e ab ac).bind fun p=>
 letJ (fun((bh,bi,bj,bk,bl,bm,bn):Int×Bool×uf8×Int×uf10×Int×Bool)=>
 bif bn then
 some false
 else
 (zaa (β:=(Int×Bool×uf8×Int×Int)) (fun((ae,af,ag,ah,k,ai,i):Int×Bool×uf8×Int×uf10×Int×Int)=>
 bif (decide (i<(k.length:Int)))then
 bif (decide (0≤i)&&decide (i<(k.length:Int)))then
 some (Sum.inl (ae,af,ag,ah,k,(w (ai+(List.getD k (Int.toNat i) 0))),(w (i+1))))
 else none
 else
 some (Sum.inr (ae,af,ag,ah,ai))) (bh,bi,bj,bk,bl,bm,0)).bind fun((l,bo,bp,bq,br):Int×Bool×uf8×Int×Int)=>
 (d55).bind fun bs=>
 bif bs then
 bif !bo then
 bif (decide (br=(w (bq*(bp.length:Int)))))then
 (d60 l).bind fun bt=>
 (d61 l).bind fun bu=>
 some (decide (bt=bu))
 else
 some false
 else
 (d60 l).bind fun bv=>
 (d61 l).bind fun bx=>
 some (decide (bv=bx))
 else
 some false) fun j=>
 bif !(!(a.2.2 == p.2.2))then
 bif !(!(decide (a.2.1=p.2.1)))then
 (d38 a.1 p.1).bind fun bz=>
 bif !(!bz)then
 bif !f then
 j (e,f,g,h,a.1,a.2.1,!a.2.2)
 else
 j (e,f,g,h,a.1,a.2.1,false)
 else
 j (e,f,g,h,a.1,a.2.1,true)
 else
 j (e,f,g,h,a.1,a.2.1,true)
 else
 j (e,f,g,h,a.1,a.2.1,true)) fun aj=>
 bif !o then
 (d24 y 6).bind fun ca=>
 (zaa (β:=(Int×uf10×Bool×uf8×Int)) (fun((q,ak,al,am,an,ao):Int×uf10×Bool×uf8×Int×Int)=>
 bif (decide (ao<q))then
 some (Sum.inl (q,ak,al,am,(w (an*10)),(w (ao+1))))
 else
 some (Sum.inr (q,ak,al,am,an))) ((w (1+ca)),z,o,aa,1,0)).bind fun((cb,cc,ce,cf,cg):Int×uf10×Bool×uf8×Int)=>
 (zaa (β:=(Int×Bool×uf8×Int×uf10)) (fun((ap,s,aq,ar,au,av,m):Int×uf10×Bool×uf8×Int×uf10×Int)=>
 letJ (fun((ax,t,ay,az,u,v,n,ch):Int×uf10×Bool×uf8×Int×uf10×Int×Bool)=>
 bif ch then
 bif (decide (0≤n)&&decide (n<(t.length:Int)))then
 (d24 (List.getD t (Int.toNat n) 0) (w (u+1))).bind fun ba=>
 bif (decide ((v.length:Int)+(([ba]:List Int).length:Int)≤LIM))then
 some (Sum.inl (ax,t,ay,az,u,(v++[ba]),(w (n+1))))
 else none
 else none
 else
 some (Sum.inr (ax,ay,az,u,v))) fun bb=>
 bif (decide (m<(s.length:Int)))then
 bb (ap,s,aq,ar,au,av,m,(decide (m<7)))
 else
 bb (ap,s,aq,ar,au,av,m,false)) (cb,cc,ce,cf,cg,[],0)).bind fun((ci,cj,bc,b,c):Int×Bool×uf8×Int×uf10)=>
 bif (decide ((c.length:Int)+(([b]:List Int).length:Int)≤LIM))then
 bif (zbz 0 (bif (decide (7<((c++[b]).length:Int)))then 7 else((c++[b]).length:Int)) (c++[b]).length)then
 (d26 ((List.take (Int.toNat (bif (decide (7<((c++[b]).length:Int)))then 7 else((c++[b]).length:Int))) (c++[b])).length:Int) bc 24).bind fun ck=>
 aj (ci,(List.take (Int.toNat (bif (decide (7<((c++[b]).length:Int)))then 7 else((c++[b]).length:Int))) (c++[b])),ck,cj,bc,b)
 else none
 else none
 else
 aj (y,z,be,o,aa,1)) fun x=>
 (d19 p2).bind fun r=>
 bif !(!r)then
 (d54 p4).bind fun cl=>
 bif !(!cl)then
 x (p0,p1,p2,p3,p4,(decide (10<(p1.length:Int))))
 else
 x (p0,p1,p2,p3,p4,true)
 else
 x (p0,p1,p2,p3,p4,true)
def sg12:Sig:=⟨[(y2,.sh),(y26,.sh),(y25,.bw),(y4,.sh),(y27,.bw)],[(y4,.sh)]⟩
theorem sim12:Sim Tryz.prog 12 sg12 d12:=uqz Tryz.func12 (zac rfl) Tryz.call12 (by kernel_rfl) (by kernel_rfl) [.fn E19,.fn E54,.fn E55,.fn E24,.fn E26,.fn E58,.fn E59,.fn E38,.fn E60,.fn E61] (uqs (.seq (.join uqr [(0,uqa),(1,uqf),(2,uqe),(3,uqc),(4,.v y27 .bw),(34,uqc)] (.cond (uqs .nil) .nil)) (uqs (.join (.post (uqs (.cond (uqs (.seq (uqs (.block (.loop [(0,uqa),(1,uqf),(3,uqc),(4,.v y27 .bw),(11,uqa),(12,uqa)] [(.brk 0,[(0,uqa),(1,uqf),(3,uqc),(4,.v y27 .bw),(11,uqa)])] (.seq (uqs (.cond .nil .nil)) (.seq (.block uqr) uqr))))) (.seq (.reg [] [{fl:=2}]) (.seq (uqs (.block (.loop [(0,uqa),(1,uqf),(3,uqc),(4,.v y27 .bw),(11,uqa),(13,uqd),(14,uqa)] [(.brk 2,[(0,uqa),(3,uqc),(4,.v y27 .bw),(11,uqa),(13,uqd)])] (.seq (.join uqr [(0,uqa),(1,uqf),(3,uqc),(4,.v y27 .bw),(11,uqa),(13,uqd),(14,uqa),(55,uqc)] (.cond .nil .nil)) (.seq (.block uqr) uqr))))) (uqs (uqs uqr)))))) .nil)) [(1,[])]) [(0,uqa),(1,uqf),(2,uqe),(3,uqc),(4,.v y27 .bw),(11,uqa)] (.seq (.reg [] [{},{},{},{},{fl:=1}]) (.seq (.reg [] [{},{},{},{},{fl:=1}]) (.seq (.join uqr [(0,uqa),(3,uqc),(4,.v y27 .bw),(11,uqa),(15,uqf),(16,uqa),(118,uqc)] (.cond (uqs .nil) .nil)) (.seq (uqs (.block (.loop [(0,uqa),(3,uqc),(4,.v y27 .bw),(11,uqa),(15,uqf),(16,uqa),(21,uqa)] [(.brk 4,[(0,uqa),(3,uqc),(4,.v y27 .bw),(11,uqa),(16,uqa)])] (.seq (uqs (.cond .nil .nil)) (.seq (.block uqr) uqr))))) (uqs .nil))))))))) fun xs=>by kernel_rfl
def d62(n:Int)(seats:Int)(digits:Int)(ties:Int)(c:Int)(ballots:List uf10):Option (uf4×uf7×uf2×Int):=
 (d25 1 n seats digits ties).bind fun r=>
 (d26 n ballots 24).bind fun a=>
 (d27 n c).bind fun e=>
 (d56 r a e).bind fun b=>
 some (r,a,b.1,b.2)
def d63(digits:Int):Option Int:=
 (zaa (β:=Int) (fun((a,x,i):Int×Int×Int)=>
 letJ (fun((e,b,f,g):Int×Int×Int×Bool)=>
 bif g then
 some (Sum.inl (e,(w (b*10)),(w (f+1))))
 else
 some (Sum.inr b)) fun c=>
 bif (decide (i<a))then
 c (a,x,i,(decide (i<6)))
 else
 c (a,x,i,false)) (digits,1,0)).bind fun(h:Int)=>
 some h
def d64(r:uf6)(one:Int):Option (Int×Bool):=
 letJ (fun((c,a,e):Int×uf6×Bool)=>
 bif e then
 some (0,false)
 else
 bif (decide ((a.2.1.length:Int)=0))then
 some (0,true)
 else
 bif (decide (0≤0)&&decide (0<(a.2.1.length:Int)))then
 bif (decide (0≤0)&&decide (0<(a.2.2.length:Int)))then
 bif (!decide ((w (List.getD a.2.2 0 0))=0))then
 some ((w ((w (List.getD a.2.1 0 0))*(w (Int.tdiv c (w (List.getD a.2.2 0 0)))))),true)
 else none
 else none
 else none) fun b=>
 bif !r.1 then
 bif !(decide (1<(r.2.1.length:Int)))then
 bif !(!(decide ((r.2.2.length:Int)=1)))then
 bif (decide (0≤0)&&decide (0<(r.2.2.length:Int)))then
 bif !(decide ((List.getD r.2.2 0 0)=0))then
 bif (decide (0≤0)&&decide (0<(r.2.2.length:Int)))then
 bif (!decide ((w (List.getD r.2.2 0 0))=0))then
 b (one,r,!(decide ((w (Int.tmod one (w (List.getD r.2.2 0 0))))=0)))
 else none
 else none
 else
 b (one,r,true)
 else none
 else
 b (one,r,true)
 else
 b (one,r,true)
 else
 b (one,r,true)
def d13(p0:Int)(p1:Int)(p2:Int)(p3:Int)(p4:Int)(p5:List uf10):Option Bool:=
 (d54 p5).bind fun r=>
 bif !r then
  (d55).bind fun bb=>
  some bb
 else
  (d24 p0 7).bind fun b=>
  (d62 (w (1+b)) p1 p2 p3 p4 p5).bind fun a=>
  letJ (fun((bc,be,af,bf,bg):Int×uf8×uf4×uf2×Bool)=>
    bif bg then
     some false
    else
     (d63 af.2.2.2.2.2.1).bind fun bh=>
     (zaa (β:=Unit⊕Bool) (fun((bi,bj,bk,e,q,c):Int×uf8×uf4×uf2×Int×Int)=>
       bif (decide (c<(e.2.2.2.2.1.length:Int)))then
        bif (decide (0≤c)&&decide (c<(e.2.2.2.2.1.length:Int)))then
         (d64 (((((List.getD e.2.2.2.2.1 (Int.toNat c) ([],[],(false,[],[]),(false,[],[]),(false,[],[]),[],[],[])).2).2).2).1) q).bind fun ag=>
         (d64 ((((List.getD e.2.2.2.2.1 (Int.toNat c) ([],[],(false,[],[]),(false,[],[]),(false,[],[]),[],[],[])).2).2).1) q).bind fun ah=>
         (zaa (β:=(Int×uf8×uf4×uf2×Int×Int×uf3×Int×Bool×Bool×Int)) (fun((s,t,u,v,p,x,f,y,ai,aj,z,aa,g):uf11)=>
           bif (decide (g<(f.1.length:Int)))then
            letJ (fun((bl,bm,bn,bo,bp,bq,br,bs,bt,bu,bv,bx,bz):uf11)=>
              some (Sum.inl (bl,bm,bn,bo,bp,bq,br,bs,bt,bu,bv,bx,(w (bz+1))))) fun ak=>
            bif (decide (0≤g)&&decide (g<(f.1.length:Int)))then
             (d64 (List.getD f.1 (Int.toNat g) (false,[],[])) p).bind fun ab=>
             letJ (fun((al,am,an,ao,ap,aq,ar,au,av,ac,ax,ay,az,ae):Int×uf8×uf4×uf2×Int×Int×uf3×Int×Bool×Int×Bool×Int×Int×Int)=>
               bif (decide (ac≤ae))then
                ak (al,am,an,ao,ap,aq,ar,(w (au+ae)),av,ac,ax,(w (ay+1)),az)
               else
                ak (al,am,an,ao,ap,aq,ar,(w (au+ae)),av,ac,ax,ay,az)) fun ba=>
             bif ai then
              ba (s,t,u,v,p,x,f,y,ab.2,aj,z,aa,g,ab.1)
             else
              ba (s,t,u,v,p,x,f,y,false,aj,z,aa,g,ab.1)
            else none
           else
            some (Sum.inr (s,t,u,v,p,x,f,y,ai,z,aa))) (bi,bj,bk,e,q,c,(List.getD e.2.2.2.2.1 (Int.toNat c) ([],[],(false,[],[]),(false,[],[]),(false,[],[]),[],[],[])),ag.1,ag.2,ah.1,ah.2,0,0)).bind fun((h,i,j,l,k,m,ca,cb,cc,ce,cf):Int×uf8×uf4×uf2×Int×Int×uf3×Int×Bool×Bool×Int)=>
         letJ (fun((cg,ch,ci,cj,ck,cl,cm):Int×uf8×uf4×uf2×Int×Int×Bool)=>
           bif cm then
            some (Sum.inr (Sum.inr false))
           else
            some (Sum.inl (cg,ch,ci,cj,ck,(w (cl+1))))) fun n=>
         bif !(!(decide ((ca.1.length:Int)=h)))then
          bif !(!cc)then
           bif !(!ce)then
            bif !(decide (j.2.2.2.1<cf))then
             n (h,i,j,l,k,m,!(decide (cb=(w (k*(i.length:Int))))))
            else
             n (h,i,j,l,k,m,true)
           else
            n (h,i,j,l,k,m,true)
          else
           n (h,i,j,l,k,m,true)
         else
          n (h,i,j,l,k,m,true)
        else none
       else
        some (Sum.inr (Sum.inl ()))) (bc,be,af,bf,bh,0)).bind fun
     |Sum.inl _=>
      (d55).bind fun cn=>
      some cn
     |Sum.inr co=>
      some co) fun o=>
  bif !(!(decide (a.2.2.2=0)))then
   bif !(decide ((a.2.2.1.2.2.2.2.1.length:Int)<1))then
    bif !(decide (600<(a.2.2.1.2.2.2.2.1.length:Int)))then
     bif !(!(decide ((a.2.2.1.2.2.2.2.2.length:Int)=(bif (decide ((w (1+b))<a.1.2.2.2.1))then(w (1+b))else a.1.2.2.2.1))))then
      (d32 (w (1+b)) a.2.2.1.2.2.2.2.2).bind fun cp=>
      o ((w (1+b)),p5,a.1,a.2.2.1,!cp)
     else
      o ((w (1+b)),p5,a.1,a.2.2.1,true)
    else
     o ((w (1+b)),p5,a.1,a.2.2.1,true)
   else
    o ((w (1+b)),p5,a.1,a.2.2.1,true)
  else
   o ((w (1+b)),p5,a.1,a.2.2.1,true)
def d14(p0:Int)(p1:Int)(p2:Int)(p3:Int)(p4:Int)(p5:List uf10):Option Bool:=
 (d54 p5).bind fun r=>
 bif !r then
  (d55).bind fun ao=>
  some ao
 else
  (d24 p0 7).bind fun u=>
  (d62 (w (1+u)) p1 p2 p3 p4 p5).bind fun h=>
  letJ (fun((ap,aq,ar,au):Int×uf4×uf2×Bool)=>
    bif au then
     some false
    else
     (d63 aq.2.2.2.2.2.1).bind fun av=>
     (zaa (β:=Unit⊕Bool) (fun((p,c,ae,af,ag,a):Int×uf2×Int×uf10×uf10×Int)=>
       bif (decide (a<(c.2.2.2.2.1.length:Int)))then
        bif (decide (0≤a)&&decide (a<(c.2.2.2.2.1.length:Int)))then
         letJ (fun((ax,ay,az,ba,bb,bc,be,bf):Int×uf2×Int×uf10×uf10×Int×uf3×Bool)=>
           bif bf then
            some (Sum.inr (Sum.inr false))
           else
            (zaa (β:=(Int×uf2×Int×uf10×uf10×Int×uf3)⊕Bool) (fun((q,v,k,x,y,z,e,b):Int×uf2×Int×uf10×uf10×Int×uf3×Int)=>
              bif (decide (b<q))then
               letJ (fun((bg,bh,bi,bj,bk,bl,bm,bn):Int×uf2×Int×uf10×uf10×Int×uf3×Int)=>
                 some (Sum.inl (bg,bh,bi,bj,bk,bl,bm,(w (bn+1))))) fun aa=>
               bif (decide (0≤b)&&decide (b<(e.2.1.length:Int)))then
                (d64 (List.getD e.2.1 (Int.toNat b) (false,[],[])) k).bind fun ab=>
                bif (decide (0≤b)&&decide (b<(e.1.length:Int)))then
                 (d64 (List.getD e.1 (Int.toNat b) (false,[],[])) k).bind fun ac=>
                 letJ (fun((l,m,f,i,j,n,o,g,s,bo,bp):Int×uf2×Int×uf10×uf10×Int×uf3×Int×Int×Int×Bool)=>
                   bif bp then
                    some (Sum.inr (Sum.inr false))
                   else
                    (d49 j g).bind fun bq=>
                    bif bq then
                     letJ (fun((br,bs,bt,bu,bv,bx,bz,ca,cb):Int×uf2×Int×uf10×uf10×Int×uf3×Int×Bool)=>
                       bif cb then
                        some (Sum.inr (Sum.inr false))
                       else
                        aa (br,bs,bt,bu,bv,bx,bz,ca)) fun ah=>
                     bif !(!(decide (s=0)))then
                      ah (l,m,f,i,j,n,o,g,!(decide (bo=0)))
                     else
                      ah (l,m,f,i,j,n,o,g,true)
                    else
                     (d49 i g).bind fun cc=>
                     bif cc then
                      letJ (fun((ce,cf,cg,ch,ci,cj,ck,cl,cm):Int×uf2×Int×uf10×uf10×Int×uf3×Int×Bool)=>
                        bif cm then
                         some (Sum.inr (Sum.inr false))
                        else
                         aa (ce,cf,cg,ch,ci,cj,ck,cl)) fun ai=>
                      bif !(decide (s≤0))then
                       ai (l,m,f,i,j,n,o,g,(decide (f<s)))
                      else
                       ai (l,m,f,i,j,n,o,g,true)
                     else
                      bif !(decide (s=f))then
                       some (Sum.inr (Sum.inr false))
                      else
                       aa (l,m,f,i,j,n,o,g)) fun aj=>
                 bif !(!ab.2)then
                  aj (q,v,k,x,y,z,e,b,ab.1,ac.1,!ac.2)
                 else
                  aj (q,v,k,x,y,z,e,b,ab.1,ac.1,true)
                else none
               else none
              else
               some (Sum.inr (Sum.inl (q,v,k,x,y,z,e)))) (ax,ay,az,ba,bb,bc,be,0)).bind fun
            |Sum.inl (cn,co,cp,ak,al,cq,t)=>
             bif (decide ((ak.length:Int)+(t.2.2.2.2.2.1.length:Int)≤LIM))then
              bif (decide ((al.length:Int)+(t.2.2.2.2.2.2.1.length:Int)≤LIM))then
               some (Sum.inl (cn,co,cp,(ak++t.2.2.2.2.2.1),(al++t.2.2.2.2.2.2.1),(w (cq+1))))
              else none
             else none
            |Sum.inr cr=>
             some (Sum.inr (Sum.inr cr))) fun am=>
         bif !(!(decide ((((List.getD c.2.2.2.2.1 (Int.toNat a) ([],[],(false,[],[]),(false,[],[]),(false,[],[]),[],[],[])).1).length:Int)=p)))then
          am (p,c,ae,af,ag,a,(List.getD c.2.2.2.2.1 (Int.toNat a) ([],[],(false,[],[]),(false,[],[]),(false,[],[]),[],[],[])),!(decide (((((List.getD c.2.2.2.2.1 (Int.toNat a) ([],[],(false,[],[]),(false,[],[]),(false,[],[]),[],[],[])).2).1).length:Int)=p)))
         else
          am (p,c,ae,af,ag,a,(List.getD c.2.2.2.2.1 (Int.toNat a) ([],[],(false,[],[]),(false,[],[]),(false,[],[]),[],[],[])),true)
        else none
       else
        some (Sum.inr (Sum.inl ()))) (ap,ar,av,[],[],0)).bind fun
     |Sum.inl _=>
      (d55).bind fun cs=>
      some cs
     |Sum.inr ct=>
      some ct) fun an=>
  bif !(!(decide (h.2.2.2=0)))then
   an ((w (1+u)),h.1,h.2.2.1,(decide ((h.2.2.1.2.2.2.2.1.length:Int)<1)))
  else
   an ((w (1+u)),h.1,h.2.2.1,true)
def d15(p0:Int)(p1:Int)(p2:Int)(p3:Int)(p4:Int)(p5:Int)(p6:List uf10):Option Bool:=
 (d54 p6).bind fun r=>
 bif !r then
 (d55).bind fun g=>
 some g
 else
 (d24 p0 7).bind fun f=>
 (d62 (w (1+f)) p1 p2 p3 p4 p6).bind fun a=>
 (d27 (w (1+f)) p5).bind fun b=>
 (d42 a.2.1 b).bind fun h=>
 (d27 (w (1+f)) p4).bind fun i=>
 (d43 i b).bind fun j=>
 (d56 a.1 h j).bind fun c=>
 letJ (fun((k,l,m,n):uf2×uf10×uf2×Bool)=>
 bif n then
 some false
 else
 (d55).bind fun o=>
 bif o then
 (d44 m.2.2.2.2.2).bind fun p=>
 (d43 k.2.2.2.2.2 l).bind fun q=>
 (d44 q).bind fun s=>
 (d38 p s).bind fun t=>
 some t
 else
 some false) fun e=>
 bif !(!(decide (a.2.2.2=0)))then
 bif !(!(decide (c.2=0)))then
 (d32 (w (1+f)) a.2.2.1.2.2.2.2.2).bind fun u=>
 bif !(!u)then
 bif !(!(decide ((a.2.2.1.2.2.2.2.1.length:Int)=(c.1.2.2.2.2.1.length:Int))))then
 e (a.2.2.1,b,c.1,(decide ((a.2.2.1.2.2.2.2.1.length:Int)=0)))
 else
 e (a.2.2.1,b,c.1,true)
 else
 e (a.2.2.1,b,c.1,true)
 else
 e (a.2.2.1,b,c.1,true)
 else
 e (a.2.2.1,b,c.1,true)
def d16(p0:Int)(p1:Int)(p2:Int)(p3:Int)(p4:Int)(p5:List uf10):Option Bool:=
 (d54 p5).bind fun r=>
 bif !r then
  (d55).bind fun q=>
  some q
 else
  (d24 p0 7).bind fun s=>
  (d62 (w (1+s)) p1 p2 p3 p4 p5).bind fun b=>
  letJ (fun((o,t,u):uf4×uf2×Bool)=>
    bif u then
     some false
    else
     (d63 o.2.2.2.2.2.1).bind fun v=>
     (zaa (β:=Unit⊕Bool) (fun((l,c,m,a):uf4×uf2×Int×Int)=>
       bif (decide (a<(c.2.2.2.2.1.length:Int)))then
        bif (decide (0≤a)&&decide (a<(c.2.2.2.2.1.length:Int)))then
         letJ (fun((f,h,g,i,e,x,y):uf4×uf2×Int×Int×uf3×Bool×Bool)=>
           bif y then
            some (Sum.inr (Sum.inr false))
           else
            (d64 e.2.2.2.2.1 g).bind fun p=>
            letJ (fun((z,aa,ab,ac,ai,ae):uf4×uf2×Int×Int×uf3×Bool)=>
              bif ae then
               some (Sum.inr (Sum.inr false))
              else
               some (Sum.inl (z,aa,ab,(w (ac+1))))) fun j=>
            bif !(!p.2)then
             bif !x then
              bif (decide ((w ((e.2.2.2.2.2.1.length:Int)+(e.2.2.2.2.2.2.1.length:Int)))=0))then
               (d60 f.2.2.2.2.2.1).bind fun af=>
               j (f,h,g,i,e,(decide (p.1<af)))
              else
               j (f,h,g,i,e,false)
             else
              j (f,h,g,i,e,false)
            else
             j (f,h,g,i,e,true)) fun n=>
         bif (decide (a=(w ((c.2.2.2.2.1.length:Int)-1))))then
          bif !(!(decide ((((((((((List.getD c.2.2.2.2.1 (Int.toNat a) ([],[],(false,[],[]),(false,[],[]),(false,[],[]),[],[],[])).2).2).2).2).2).2).1).length:Int)=0)))then
           n (l,c,m,a,(List.getD c.2.2.2.2.1 (Int.toNat a) ([],[],(false,[],[]),(false,[],[]),(false,[],[]),[],[],[])),(decide (a=(w ((c.2.2.2.2.1.length:Int)-1)))),(decide (((((((((List.getD c.2.2.2.2.1 (Int.toNat a) ([],[],(false,[],[]),(false,[],[]),(false,[],[]),[],[],[])).2).2).2).2).2).1).length:Int)=0)))
          else
           n (l,c,m,a,(List.getD c.2.2.2.2.1 (Int.toNat a) ([],[],(false,[],[]),(false,[],[]),(false,[],[]),[],[],[])),(decide (a=(w ((c.2.2.2.2.1.length:Int)-1)))),true)
         else
          n (l,c,m,a,(List.getD c.2.2.2.2.1 (Int.toNat a) ([],[],(false,[],[]),(false,[],[]),(false,[],[]),[],[],[])),(decide (a=(w ((c.2.2.2.2.1.length:Int)-1)))),false)
        else none
       else
        some (Sum.inr (Sum.inl ()))) (o,t,v,0)).bind fun
     |Sum.inl _=>
      (d55).bind fun ag=>
      some ag
     |Sum.inr ah=>
      some ah) fun k=>
  bif !(!(decide (b.2.2.2=0)))then
   bif !(decide ((b.2.2.1.2.2.2.2.1.length:Int)<1))then
    bif !(!(decide (b.2.2.1.2.2.1=b.1.2.2.2.2.2.1)))then
     k (b.1,b.2.2.1,!(decide (b.2.2.1.2.1=b.1.2.2.2.1)))
    else
     k (b.1,b.2.2.1,true)
   else
    k (b.1,b.2.2.1,true)
  else
   k (b.1,b.2.2.1,true)
def d17(p0:Int)(p1:Int)(p2:Int)(p3:Int)(p4:Int)(p5:List uf10):Option Bool:=
 (d54 p5).bind fun r=>
 bif !r then
  (d55).bind fun m=>
  some m
 else
  (d24 p0 7).bind fun c=>
  (d62 (w (1+c)) p1 p2 p3 p4 p5).bind fun a=>
  (d51 (w (1+c))).bind fun n=>
  (d50 a.2.1 n).bind fun e=>
  letJ (fun((o,p,q,s,t,u):Int×uf4×uf7×uf2×uf10×Bool)=>
    bif u then
     some false
    else
     (zaa (β:=Unit⊕Bool) (fun((h,i,j,f,g,b):Int×uf4×uf7×uf2×uf10×Int)=>
       bif (decide (b<h))then
        letJ (fun((v,x,y,z,aa,ab,ac):Int×uf4×uf7×uf2×uf10×Int×Bool)=>
          bif ac then
           some (Sum.inr (Sum.inr false))
          else
           some (Sum.inl (v,x,y,z,aa,(w (ab+1))))) fun l=>
        bif (decide (0≤b)&&decide (b<(g.length:Int)))then
         (d52 j).bind fun ae=>
         bif (decide (ae<(w ((w (i.2.2.2.1+1))*(List.getD g (Int.toNat b) 0)))))then
          bif (decide (0≤0)&&decide (0<(f.2.2.2.2.1.length:Int)))then
           (d49 (((((((List.getD f.2.2.2.2.1 0 ([],[],(false,[],[]),(false,[],[]),(false,[],[]),[],[],[])).2).2).2).2).2).1) b).bind fun af=>
           l (h,i,j,f,g,b,!af)
          else none
         else
          l (h,i,j,f,g,b,false)
        else none
       else
        some (Sum.inr (Sum.inl ()))) (o,p,q,s,t,0)).bind fun
     |Sum.inl _=>
      (d55).bind fun ag=>
      some ag
     |Sum.inr ah=>
      some ah) fun k=>
  bif !(!(decide (a.2.2.2=0)))then
   bif !(decide ((a.2.2.1.2.2.2.2.1.length:Int)<1))then
    k ((w (1+c)),a.1,a.2.1,a.2.2.1,e.1,!(decide ((e.1.length:Int)=(w (1+c)))))
   else
    k ((w (1+c)),a.1,a.2.1,a.2.2.1,e.1,true)
  else
   k ((w (1+c)),a.1,a.2.1,a.2.2.1,e.1,true)
def d18(p0:Int)(p1:Int)(p2:Int)(p3:Int)(p4:List uf10):Option Bool:=
 (d54 p4).bind fun r=>
 bif !r then
 (d55).bind fun e=>
 some e
 else
 (d24 p0 7).bind fun b=>
 (d62 (w (1+b)) 0 p1 p2 p3 p4).bind fun a=>
 (d25 0 (w (1+b)) 0 0 p2).bind fun f=>
 (d27 (w (1+b)) p3).bind fun g=>
 (d53 f a.2.1 g).bind fun c=>
 (d55).bind fun h=>
 bif h then
 bif (decide (a.2.2.2=0))then
 bif (decide (c.2=0))then
 bif (decide ((a.2.2.1.2.2.2.2.2.length:Int)=1))then
 (d38 a.2.2.1.2.2.2.2.2 c.1.2.2.2.2.2).bind fun i=>
 some i
 else
 some false
 else
 some false
 else
 some false
 else
 some false
end
end Go.Proofs.YtmipjomnjkmdbaaGreat
namespace Go.Proofs.YtmipjomnjkmdbaaGreat
open Go Go.X
variable {P:GP} {s:GS}
def rd0:Rd:=⟨[],[],0,0,0,[],[],[]⟩
theorem drop_getD{α:Type}{l:List α}{i:Nat}(d:α)(h:i<l.length):l.drop i=l.getD i d::l.drop (i+1):=by
 rw[xac,xag h]
 exact List.drop_eq_getElem_cons h
end Go.Proofs.YtmipjomnjkmdbaaGreat
namespace Go.Proofs.YtmipjomnjkmdbaaGreat
open Go Go.X
structure Ren(n:Nat)(ρ:Nat→Nat)(l l':List Int):Prop where
 mem:∀i,i<n→((i:Int)∈l↔((ρ i:Nat):Int)∈l')
 len:l.length=l'.length
 ins:∀c∈l,∃i:Nat,c=(i:Int)∧i<n
 ins':∀c∈l',∃i:Nat,c=(i:Int)∧i<n
end Go.Proofs.YtmipjomnjkmdbaaGreat
namespace Go.Proofs.YtmipjomnjkmdbaaGreat
open Go Go.X
theorem d44_eq{l:List Int}(hl:l.length≤281474976710656):d44 l=some (selI (fun i=>decide ((i:Int)∈l)) 12):=by
 unfold d44
 refine zae (fun i=>(l,selI (fun i=>decide ((i:Int)∈l)) i,(i:Int))) 12 rfl (fun i hi=>?_) (b:=selI (fun i=>decide ((i:Int)∈l)) 12) ?_ rfl
 ·have hc:=zdc (fun i=>decide ((i:Int)∈l)) i
  simp only[decide_eq_true (show(i:Int)<12 by omega),xad,zah,d49_eq (i:Int) hl,xab,zbc (show i<9223372036854775807 by omega),zec]
  cases decide ((i:Int)∈l)
  ·simp
  ·simp only[xad,if_true,zet (l:=selI (fun i=>decide ((i:Int)∈l)) i) (d:=(i:Int)) (by rw[zbp];omega)]
 ·rfl
theorem while_prp{α β γ:Type}{f:α→Option (α⊕β)}{k:β→Option γ}{a0:α}{b:β}{X:Option γ→Prop}(st:Nat→α)(n:Nat)(h0:st 0=a0)(hs:∀i,i<n→f (st i)=some (.inl (st (i+1))))(he:f (st n)=some (.inr b))(hk:X (k b)):X ((zaa f a0).bind k):=by
 rw[zae st n h0 hs he rfl];exact hk
end Go.Proofs.YtmipjomnjkmdbaaGreat
namespace Go.Proofs.YtmipjomnjkmdbaaGreat
open Go Go.X
theorem wsum_gen{n:Int}{gs:List Grp}{N:Int}(h:PileOK n gs N)(f:List Int→Nat)(c:CT)(lots:List Int):∀m,m≤gs.length→wsum (fun p=>(f p:Int)) (gs.take m)=((sumN (fun g=>(gpOf c gs lots).k g*f ((gpOf c gs lots).p g)) m:Nat):Int)
 | 0,_=>by simp[wsum,sumN]
 |m+1,hm=>by
  have hg:=(h.ballots _ (zch (l:=gs) (d:=([],0)) (i:=m) (by omega))).2
  rw[zcu _ gs (by omega),wsum_gen h f c lots m (by omega),sumN]
  have e1:(gpOf c gs lots).p m=(gs.getD m ([],0)).1:=rfl
  have e2:(((gpOf c gs lots).k m:Nat):Int)=(gs.getD m ([],0)).2:=by
   show((gs.getD m ([],0)).2.toNat:Int)=_
   omega
  rw[e1,Int.natCast_add,xfz,e2]
end Go.Proofs.YtmipjomnjkmdbaaGreat
namespace Go.Proofs.YtmipjomnjkmdbaaGreat
open Go Go.X
theorem zho(f:Nat→Nat){m n:Nat}(h:m≤n):sumN f m≤sumN f n:=by
 induction n with
 |zero=>rw[show m=0 by omega];exact Nat.le_refl _
 |succ n ih=>
  by_cases hm:m=n+1
  ·rw[hm];exact Nat.le_refl _
  ·rw[sumN];have:=ih (by omega);omega
theorem wmul{a b:Nat}(h:a*b≤9223372036854775807):w ((a:Int)*(b:Int))=((a*b:Nat):Int):=by rw[←xfz,zaz (by omega) (by omega)]
theorem wsubN{a b:Nat}(h:b≤a)(ha:a≤9223372036854775807):w ((a:Int)-(b:Int))=((a-b:Nat):Int):=by rw[zaz (by omega) (by omega)];omega
theorem ten_le{d e:Nat}(h:d≤e):10^d≤10^e:=xfo (by decide) h
theorem znn{d:Nat}(h:d≤6):10^d≤1000000:=Nat.le_trans (ten_le h) (by decide)
theorem zkn(d:Nat):0<10^d:=xff (by decide)
theorem wten{i:Nat}(h:i<18):w (((10^i:Nat):Int)*10)=((10^(i+1):Nat):Int):=by
 have h2:10^(i+1)≤10^18:=ten_le (by omega)
 have h3:(10:Nat)^18=1000000000000000000:=by decide
 rw[h3,xbi]at h2
 rw[xbi]
 generalize 10^i=x at h2 ⊢
 rw[zaz (by omega) (by omega)]
 omega
theorem zoy{d:Nat}(h:d≤18):d111 (d:Int)=some ((10^d:Nat):Int):=by
 unfold d111
 refine zae (fun i=>(((10^i:Nat):Int),(d:Int),(i:Int))) d rfl (fun i hi=>?_) ?_ rfl
 ·simp only[dlt hi,xad,wten (show i<18 by omega),zbc (show i<9223372036854775807 by omega)]
 ·simp only[nlt (Nat.le_refl d),xae]
theorem d114_eq{d:Nat}(h:d≤18):d114 (d:Int)=some ((10^d:Nat):Int):=by
 unfold d114
 refine zae (fun i=>((d:Int),((10^i:Nat):Int),(i:Int))) d rfl (fun i hi=>?_) ?_ rfl
 ·simp only[dlt hi,xad,wten (show i<18 by omega),zbc (show i<9223372036854775807 by omega)]
 ·simp only[nlt (Nat.le_refl d),xae]
theorem zox{a b:Nat}(hb:0<b)(h:a+b≤4611686018427387904):d121 (a:Int) (b:Int)=some ((mup a b:Nat):Int):=by
 unfold d121 mup
 have h1:=xcy (a+b-1) b
 have h2:Int.tdiv ((a+b-1:Nat):Int) (b:Int)=(((a+b-1)/b:Nat):Int):=by
  rw[xdr (by omega)];rfl
 have h3:w ((a+b-1:Nat):Int)=((a+b-1:Nat):Int):=zaz (by omega) (by omega)
 have h4:w (((a+b-1)/b:Nat):Int)=(((a+b-1)/b:Nat):Int):=by
  generalize(a+b-1)/b=q at h1 ⊢
  exact zaz (by omega) (by omega)
 rw[decide_eq_false (show ¬(b:Int)=0 by omega),xal,xad,wadd (by omega),show((a+b:Nat):Int)-1=((a+b-1:Nat):Int) by omega,h3,h2,h4]
theorem d119_eq{a b:Nat}(hb:0<b)(h:a+b≤4611686018427387904):d119 (a:Int) (b:Int)=some ((mup a b:Nat):Int):=by
 have:=zox hb h
 unfold d121 at this
 unfold d119
 exact this
def zds(one:Nat)(kp:Nat→Nat)(p:List Int)(m c:Nat):Nat:=sumN (fun j=>if p.getD j 0=(c:Int)then zdt one kp p j else 0) m
def mvoU(P:GP)(one:Nat)(kp:Nat→Nat)(m c:Nat):Nat:=sumN (fun g=>P.k g*zod one kp (P.p g) c) m
def mroU(P:GP)(one:Nat)(kp:Nat→Nat)(m:Nat):Nat:=sumN (fun g=>P.k g*mw one kp (P.p g) (P.p g).length) m
theorem give_step{one:Nat}{kp:Nat→Nat}{p:List Int}{n j k x:Nat}(V:Nat→Nat)(hx:p.getD j 0=(x:Int)) :
  (lst (fun c=>((V c+k*zds one kp p j c:Nat):Int)) n).set x (((V x+k*zds one kp p j x+zdt one kp p j*k:Nat)):Int)=lst (fun c=>((V c+k*zds one kp p (j+1) c:Nat):Int)) n:=by
 rw[ziy]
 refine zbu fun c _=>?_
 unfold upd zds
 rw[sumN,hx]
 by_cases h:c=x
 ·subst h
  rw[if_pos rfl,if_pos rfl,xcd,xbc (zdt one kp p j) k,xcb]
 ·rw[if_neg h,if_neg (by omega),xda]
section
variable {gs:List Grp} (c:CT) (lots:List Int) {one:Nat} {kp:Nat→Nat} (h1:0<one) (h6:one≤1000000) (hk:∀i,kp i≤one)
include h1 h6 hk
theorem zna(hP:sumN (gpOf c gs lots).k gs.length≤100000){g j x:Nat}(hg:g<gs.length)(hj:j<((gpOf c gs lots).p g).length):mvoU (gpOf c gs lots) one kp g x+(gpOf c gs lots).k g*zds one kp ((gpOf c gs lots).p g) j x≤100000000000∧zdt one kp ((gpOf c gs lots).p g) j*(gpOf c gs lots).k g≤100000000000:=by
 have hkg:(gpOf c gs lots).k g≤100000:=Nat.le_trans (znp hg) hP
 have hmg:∀g m x,m≤((gpOf c gs lots).p g).length→zds one kp ((gpOf c gs lots).p g) m x≤one:=fun g m x hm=>by
  have e:=mw_sum h1 hk ((gpOf c gs lots).p g) m
  have:zds one kp ((gpOf c gs lots).p g) m x≤sumN (zdt one kp ((gpOf c gs lots).p g)) m:=ziq fun i _=>by split<;>omega
  omega
 have hmp:zdt one kp ((gpOf c gs lots).p g) j≤one:=Nat.le_trans (zgs h1 hk _ _) (mw_le h1 hk _ _)
 refine⟨?_,Nat.le_trans (Nat.mul_le_mul hmp hkg) (Nat.le_trans (xam _ h6) (by decide))⟩
 have e1:mvoU (gpOf c gs lots) one kp g x+(gpOf c gs lots).k g*zds one kp ((gpOf c gs lots).p g) j x≤sumN (fun g=>(gpOf c gs lots).k g*one) (g+1):=by
  rw[sumN]
  refine Nat.add_le_add (ziq fun i _=>xcj _ (hmg i _ x (Nat.le_refl _))) (xcj _ (hmg g j x (by omega)))
 have e2:=zho (fun g=>(gpOf c gs lots).k g*one) (show g+1≤gs.length by omega)
 rw[zhn (gpOf c gs lots).k one gs.length]at e2
 have e3:sumN (gpOf c gs lots).k gs.length*one≤100000*1000000:=Nat.mul_le_mul hP h6
 omega
theorem zla(hP:sumN (gpOf c gs lots).k gs.length≤100000){g:Nat}(hg:g<gs.length):mroU (gpOf c gs lots) one kp (g+1)≤100000000000∧mw one kp ((gpOf c gs lots).p g) ((gpOf c gs lots).p g).length*(gpOf c gs lots).k g≤100000000000:=by
 have hkg:(gpOf c gs lots).k g≤100000:=Nat.le_trans (znp hg) hP
 refine⟨?_,Nat.le_trans (Nat.mul_le_mul (mw_le h1 hk _ _) hkg) (Nat.le_trans (xam _ h6) (by decide))⟩
 have e1:mroU (gpOf c gs lots) one kp (g+1)≤sumN (fun g=>(gpOf c gs lots).k g*one) (g+1):=ziq fun i _=>xcj _ (mw_le h1 hk _ _)
 have e2:=zho (fun g=>(gpOf c gs lots).k g*one) (show g+1≤gs.length by omega)
 rw[zhn (gpOf c gs lots).k one gs.length]at e2
 have e3:sumN (gpOf c gs lots).k gs.length*one≤100000*1000000:=Nat.mul_le_mul hP h6
 omega
end
theorem pile_k{n:Nat}{gs:List Grp}{N:Int}(hp:PileOK (n:Int) gs N)(c:CT)(lots:List Int):sumN (gpOf c gs lots).k gs.length≤100000∧∀g,g<gs.length→(gs.getD g ([],0)).2=(((gpOf c gs lots).k g:Nat):Int):=by
  have h:=wsum_gen hp (fun _=>1) c lots _ (Nat.le_refl _)
  rw[xbo]at h
  have ht:=hp.total
  have hm:=hp.most
  have e:wsum (fun _=>((1:Nat):Int)) gs=wsum (fun _=>1) gs:=rfl
  rw[e,ht]at h
  simp only[xdp]at h
  refine ⟨by have e2:sumN (gpOf c gs lots).k gs.length=sumN (fun g=>(gpOf c gs lots).k g) gs.length:=rfl
             omega,fun g hg=>?_⟩
  have:=(hp.ballots _ (zch (l:=gs) (d:=([],0)) (i:=g) hg)).2
  show _=((gs.getD g ([],0)).2.toNat:Int)
  omega
theorem d58_ok{n d:Nat}{gs:List Grp}{N:Int}(h1n:1≤n)(hn:n≤7)(hd1:1≤d)(hd6:d≤6)(hp:PileOK (n:Int) gs N)(c:CT)(lots:List Int){kp:Nat→Nat}(hk:∀i,kp i≤10^d) :
  d58 (d:Int) (lst (fun i=>(kp i:Int)) n) gs=some (lst (fun x=>((mvo (gpOf c gs lots) (10^d) kp x:Nat):Int)) n,((mro (gpOf c gs lots) (10^d) kp:Nat):Int),true):=by
 have ho1:=zkn d
 have ho6:=znn hd6
 obtain⟨hks,hkg⟩:=pile_k hp c lots
 have hgl:=(hp.gs (by omega)).1
 have h111:=zoy (d:=d) (by omega)
 have h120:d120 (n:Int) gs=some true:=by
  unfold d120
  rw[decide_eq_true (show(1:Int)≤(n:Int) by omega),xad,decide_eq_true (show(n:Int)≤7 by omega),xad,hp.d124 (by omega)];rfl
 have hball:∀g,g<gs.length→isB (n:Int) ((gpOf c gs lots).p g):=fun g hg=>(hp.ballots _ (zch (l:=gs) (d:=([],0)) (i:=g) hg)).1
 have hdb:=fun g j x hg hj=>zna c lots ho1 ho6 hk hks (g:=g) (j:=j) (x:=x) hg hj
 have hrb:=fun g hg=>zla c lots ho1 ho6 hk hks (g:=g) hg
 have hmp:∀p j,zdt (10^d) kp p j≤10^d:=fun p j=>Nat.le_trans (zgs ho1 hk _ _) (mw_le ho1 hk _ _)
 have hmw:∀p j,mw (10^d) kp p j≤10^d:=fun p j=>mw_le ho1 hk _ _
 have hmst:∀p j,mw (10^d) kp p j-zdt (10^d) kp p j=mw (10^d) kp p (j+1):=fun p j=>rfl
 have hmpe:∀p j,zdt (10^d) kp p j=mup (mw (10^d) kp p j*kp (p.getD j 0).toNat) (10^d):=fun p j=>rfl
 have hmpl:=fun p j=>zgs ho1 hk p j
 unfold d58
 simp only[zam,zah,decide_eq_false (show ¬(d:Int)<1 by omega),decide_eq_false (show ¬(6:Int)<(d:Int) by omega),xal,xad,h120,xab,xap,xae,h111]
 generalize hone:10^d=one at *
 refine zae (fun i=>(lst (fun i=>(kp i:Int)) n,gs,(0:Int),(one:Int),lst (fun i=>(kp i:Int)) n,(n:Int),(i:Int))) n rfl (fun i hi=>?_) (b:=.inl (lst (fun i=>(kp i:Int)) n,gs,(0:Int),(one:Int))) ?_ ?_
 ·have:=hk i
  simp only[dlt hi,d0le,zam,xah,xad,tn,zbd (fun i=>(kp i:Int)) hi,decide_eq_false (show ¬(kp i:Int)<0 by omega),xal,nlt this,xae,zbc (show i<9223372036854775807 by omega)]
 ·simp only[nlt (Nat.le_refl n),xae]
 simp only[zam,xaw,d0le,zbo (n:=n) (by omega),xah,xad,tn]
 have hrep:List.replicate n (0:Int)=lst (fun x=>((mvoU (gpOf c gs lots) one kp 0 x:Nat):Int)) n:=by rw[zoe];rfl
 rw[hrep]
 refine zae (fun g=>(lst (fun i=>(kp i:Int)) n,lst (fun x=>((mvoU (gpOf c gs lots) one kp g x:Nat):Int)) n,((mroU (gpOf c gs lots) one kp g:Nat):Int),(one:Int),gs,(gs.length:Int),(g:Int))) gs.length rfl (fun g hg=>?_) (b:=(lst (fun x=>((mvo (gpOf c gs lots) one kp x:Nat):Int)) n,((mro (gpOf c gs lots) one kp:Nat):Int))) ?_ rfl
 ·have hbg:=hball g hg
  have hpl:=zjb hbg (by omega)
  have hpg:(gs.getD g ([],0)).1=(gpOf c gs lots).p g:=rfl
  have hgk:=hkg g hg
  have hrb:=hrb g hg
  have hdb:=fun j x hj=>hdb g j x hg hj
  have hmvo:∀x,mvoU (gpOf c gs lots) one kp g x+(gpOf c gs lots).k g*zds one kp ((gpOf c gs lots).p g) ((gpOf c gs lots).p g).length x=mvoU (gpOf c gs lots) one kp (g+1) x:=fun x=>rfl
  have hmro:mroU (gpOf c gs lots) one kp (g+1)=mroU (gpOf c gs lots) one kp g+(gpOf c gs lots).k g*mw one kp ((gpOf c gs lots).p g) ((gpOf c gs lots).p g).length:=rfl
  obtain⟨pr,hpr⟩:∃pr,gs.getD g ([],0)=pr:=⟨_,rfl⟩
  rw[hpr]at hpg hgk
  obtain⟨p',k'⟩:=pr
  simp only at hpg hgk
  subst hgk
  generalize(gpOf c gs lots).p g=p at *
  subst hpg
  generalize(gpOf c gs lots).k g=k at *
  simp only[dlt hg,d0le,xah,xad,tn,hpr]
  refine zae (fun j=>(lst (fun i=>(kp i:Int)) n,lst (fun x=>((mvoU (gpOf c gs lots) one kp g x+k*zds one kp p' j x:Nat):Int)) n,((mroU (gpOf c gs lots) one kp g:Nat):Int),(one:Int),((p',(k:Int)):List Int×Int),((mw one kp p' j:Nat):Int),gs,(gs.length:Int),(g:Int),p',(p'.length:Int),(j:Int))) p'.length rfl (fun j hj=>?_) (b:=(lst (fun i=>(kp i:Int)) n,lst (fun x=>((mvoU (gpOf c gs lots) one kp (g+1) x:Nat):Int)) n,((mroU (gpOf c gs lots) one kp g:Nat):Int),(one:Int),((p',(k:Int)):List Int×Int),((mw one kp p' p'.length:Nat):Int),gs,(gs.length:Int),(g:Int))) ?_ ?_
  ·have hb:=hbg.2 _ (zcb hj)
   obtain⟨x,hx⟩:∃x:Nat,p'.getD j 0=(x:Int):=⟨(p'.getD j 0).toNat,by omega⟩
   have hxn:x<n:=by omega
   have h1:=hmw p' j
   have h2:=hk x
   have h3:mw one kp p' j*kp x≤1000000*1000000:=Nat.mul_le_mul (by omega) (by omega)
   have h4:=hmpe p' j
   rw[hx,xan]at h4
   have h5:=hdb j x hj
   have h6:=hmp p' j
   have h7:=hmst p' j
   have h8:=hmpl p' j
   have hgs:=give_step (n:=n) (k:=k) (one:=one) (kp:=kp) (fun x=>mvoU (gpOf c gs lots) one kp g x) hx
   simp only[dlt hj,d0le,xah,xad,tn,hx,zam,dlt hxn,zbd (fun i=>(kp i:Int)) hxn,wmul (show mw one kp p' j*kp x≤9223372036854775807 by omega),zox ho1 (show mw one kp p' j*kp x+one≤4611686018427387904 by omega),xab,←h4,zbd (fun x=>((mvoU (gpOf c gs lots) one kp g x+k*zds one kp p' j x:Nat):Int)) hxn,wmul (show zdt one kp p' j*k≤9223372036854775807 by omega),wadd (show mvoU (gpOf c gs lots) one kp g x+k*zds one kp p' j x+zdt one kp p' j*k≤9223372036854775807 by omega),hgs,wsubN h8 (by omega),h7,zbc (show j<9223372036854775807 by omega)]
  ·simp only[nlt (Nat.le_refl p'.length),xae,hmvo]
  ·have h9:=hmw p' p'.length
   rw[xbc]at hrb
   simp only[wmul (show mw one kp p' p'.length*k≤9223372036854775807 by have:=hrb.2;rw[xbc];omega),wadd (show mroU (gpOf c gs lots) one kp g+mw one kp p' p'.length*k≤9223372036854775807 by rw[xbc (mw one kp p' p'.length)];omega),zbc (show g<9223372036854775807 by omega),hmro,xbc k]
 ·simp only[nlt (Nat.le_refl gs.length),xae]
  rfl
end Go.Proofs.YtmipjomnjkmdbaaGreat
namespace Go.Proofs.YtmipjomnjkmdbaaGreat
open Go Go.X
theorem d59_ok{n d:Nat}{gs:List Grp}{N:Int}(h1n:1≤n)(hn:n≤7)(hd1:1≤d)(hd6:d≤6)(hp:PileOK (n:Int) gs N)(c:CT)(lots:List Int){kp:Nat→Nat}(hk:∀i,kp i≤10^d) :
  d59 (d:Int) (lst (fun i=>(kp i:Int)) n) gs=some (lst (fun x=>((mvo (gpOf c gs lots) (10^d) kp x:Nat):Int)) n,((mro (gpOf c gs lots) (10^d) kp:Nat):Int),true):=by
 have ho1:=zkn d
 have ho6:=znn hd6
 obtain⟨hks,hkg⟩:=pile_k hp c lots
 have hgl:=(hp.gs (by omega)).1
 have h114:=d114_eq (d:=d) (by omega)
 have hpb:zfz (n:Int) gs=true:=by
  unfold zfz goodP
  rw[decide_eq_true hp.good,decide_eq_true (show 1≤(n:Int)∧(n:Int)≤7 by omega)];rfl
 have h70:d70 (n:Int) gs=some true:=by rw[d70_eq (hp.gs (by omega)),hpb]
 have hball:∀g,g<gs.length→isB (n:Int) ((gpOf c gs lots).p g):=fun g hg=>(hp.ballots _ (zch (l:=gs) (d:=([],0)) (i:=g) hg)).1
 have hdb:=fun g j x hg hj=>zna c lots ho1 ho6 hk hks (g:=g) (j:=j) (x:=x) hg hj
 have hrb:=fun g hg=>zla c lots ho1 ho6 hk hks (g:=g) hg
 have hmp:∀p j,zdt (10^d) kp p j≤10^d:=fun p j=>Nat.le_trans (zgs ho1 hk _ _) (mw_le ho1 hk _ _)
 have hmw:∀p j,mw (10^d) kp p j≤10^d:=fun p j=>mw_le ho1 hk _ _
 have hmst:∀p j,mw (10^d) kp p j-zdt (10^d) kp p j=mw (10^d) kp p (j+1):=fun p j=>rfl
 have hmpe:∀p j,zdt (10^d) kp p j=mup (mw (10^d) kp p j*kp (p.getD j 0).toNat) (10^d):=fun p j=>rfl
 have hmpl:=fun p j=>zgs ho1 hk p j
 unfold d59
 simp only[zam,zah,decide_eq_false (show ¬(d:Int)<1 by omega),decide_eq_false (show ¬(6:Int)<(d:Int) by omega),xal,xad,h70,xab,xap,xae,h114]
 generalize hone:10^d=one at *
 refine zae (fun i=>(lst (fun i=>(kp i:Int)) n,gs,(one:Int),(i:Int))) n rfl (fun i hi=>?_) (b:=.inl (lst (fun i=>(kp i:Int)) n,gs,(one:Int))) ?_ ?_
 ·have:=hk i
  simp only[dlt hi,d0le,zam,xah,xad,tn,zbd (fun i=>(kp i:Int)) hi,decide_eq_false (show ¬(kp i:Int)<0 by omega),xal,nlt this,xae,zbc (show i<9223372036854775807 by omega)]
 ·simp only[zam,nlt (Nat.le_refl n),xae]
 simp only[zam,xaw,d0le,zbo (n:=n) (by omega),xah,xad,tn]
 have hrep:List.replicate n (0:Int)=lst (fun x=>((mvoU (gpOf c gs lots) one kp 0 x:Nat):Int)) n:=by rw[zoe];rfl
 rw[hrep]
 refine zae (fun g=>(lst (fun i=>(kp i:Int)) n,gs,(one:Int),lst (fun x=>((mvoU (gpOf c gs lots) one kp g x:Nat):Int)) n,((mroU (gpOf c gs lots) one kp g:Nat):Int),(g:Int))) gs.length rfl (fun g hg=>?_) (b:=(lst (fun x=>((mvo (gpOf c gs lots) one kp x:Nat):Int)) n,((mro (gpOf c gs lots) one kp:Nat):Int))) ?_ rfl
 ·have hbg:=hball g hg
  have hpl:=zjb hbg (by omega)
  have hpg:(gs.getD g ([],0)).1=(gpOf c gs lots).p g:=rfl
  have hgk:=hkg g hg
  have hrb:=hrb g hg
  have hdb:=fun j x hj=>hdb g j x hg hj
  have hmvo:∀x,mvoU (gpOf c gs lots) one kp g x+(gpOf c gs lots).k g*zds one kp ((gpOf c gs lots).p g) ((gpOf c gs lots).p g).length x=mvoU (gpOf c gs lots) one kp (g+1) x:=fun x=>rfl
  have hmro:mroU (gpOf c gs lots) one kp (g+1)=mroU (gpOf c gs lots) one kp g+(gpOf c gs lots).k g*mw one kp ((gpOf c gs lots).p g) ((gpOf c gs lots).p g).length:=rfl
  obtain⟨pr,hpr⟩:∃pr,gs.getD g ([],0)=pr:=⟨_,rfl⟩
  rw[hpr]at hpg hgk
  obtain⟨p',k'⟩:=pr
  simp only at hpg hgk
  subst hgk
  generalize(gpOf c gs lots).p g=p at *
  subst hpg
  generalize(gpOf c gs lots).k g=k at *
  simp only[dlt hg,xad]
  refine zae (fun j=>(lst (fun i=>(kp i:Int)) n,gs,(one:Int),lst (fun x=>((mvoU (gpOf c gs lots) one kp g x+k*zds one kp p' j x:Nat):Int)) n,((mroU (gpOf c gs lots) one kp g:Nat):Int),(g:Int),((mw one kp p' j:Nat):Int),(j:Int))) p'.length rfl (fun j hj=>?_) (b:=(lst (fun i=>(kp i:Int)) n,gs,(one:Int),lst (fun x=>((mvoU (gpOf c gs lots) one kp (g+1) x:Nat):Int)) n,((mroU (gpOf c gs lots) one kp g:Nat):Int),(g:Int),((mw one kp p' p'.length:Nat):Int))) ?_ ?_
  ·have hb:=hbg.2 _ (zcb hj)
   obtain⟨x,hx⟩:∃x:Nat,p'.getD j 0=(x:Int):=⟨(p'.getD j 0).toNat,by omega⟩
   have hxn:x<n:=by omega
   have h1:=hmw p' j
   have h2:=hk x
   have h3:mw one kp p' j*kp x≤1000000*1000000:=Nat.mul_le_mul (by omega) (by omega)
   have h4:=hmpe p' j
   rw[hx,xan]at h4
   have h5:=hdb j x hj
   have h6:=hmp p' j
   have h7:=hmst p' j
   have h8:=hmpl p' j
   have hgs:=give_step (n:=n) (k:=k) (one:=one) (kp:=kp) (fun x=>mvoU (gpOf c gs lots) one kp g x) hx
   simp only[dlt hg,hpr,dlt hj,d0le,xah,xad,tn,hx,zam,dlt hxn,zbd (fun i=>(kp i:Int)) hxn,wmul (show mw one kp p' j*kp x≤9223372036854775807 by omega),d119_eq ho1 (show mw one kp p' j*kp x+one≤4611686018427387904 by omega),xab,←h4,zbd (fun x=>((mvoU (gpOf c gs lots) one kp g x+k*zds one kp p' j x:Nat):Int)) hxn,wmul (show zdt one kp p' j*k≤9223372036854775807 by omega),wadd (show mvoU (gpOf c gs lots) one kp g x+k*zds one kp p' j x+zdt one kp p' j*k≤9223372036854775807 by omega),hgs,wsubN h8 (by omega),h7,zbc (show j<9223372036854775807 by omega)]
  ·simp only[dlt hg,d0le,xah,xad,tn,hpr,nlt (Nat.le_refl p'.length),xae,hmvo]
  ·have h9:=hmw p' p'.length
   rw[xbc]at hrb
   simp only[dlt hg,d0le,xah,xad,tn,hpr,wmul (show mw one kp p' p'.length*k≤9223372036854775807 by have:=hrb.2;rw[xbc];omega),wadd (show mroU (gpOf c gs lots) one kp g+mw one kp p' p'.length*k≤9223372036854775807 by rw[xbc (mw one kp p' p'.length)];omega),zbc (show g<9223372036854775807 by omega),hmro,xbc k]
 ·simp only[nlt (Nat.le_refl gs.length),xae]
  rfl
end Go.Proofs.YtmipjomnjkmdbaaGreat
namespace Go.Proofs.YtmipjomnjkmdbaaGreat
open Go Go.X
theorem swap_eq(A:List Int)(y x:Int)(T:List Int):((A++y::x::T).set (A.length+1) y).set A.length x=A++x::y::T:=by
 rw[List.set_append_right _ _ (by omega),show A.length+1-A.length=1 by omega]
 rw[List.set_append_right _ _ (by omega),Nat.sub_self]
 rfl
theorem getD_mid(A:List Int)(y:Int)(T:List Int):(A++y::T).getD A.length 0=y:=by
 rw[xac,xcq (Nat.le_refl _),Nat.sub_self];rfl
theorem getD_mid1(A:List Int)(y x:Int)(T:List Int):(A++y::x::T).getD (A.length+1) 0=x:=by
 rw[xac,xcq (by omega),show A.length+1-A.length=1 by omega];rfl
noncomputable def insF:(List Int) × Int × Int × (Int→Int→Option Int) × Int × Int→Option (((List Int) × Int × Int × (Int→Int→Option Int) × Int × Int) ⊕ ((List Int) × Int × Int × (Int→Int→Option Int) × Int)):=fun ((data_2,a_2,b_2,cmp_2,i_1,j_):(List Int) × Int × Int × (Int→Int→Option Int) × Int × Int) =>
            letJ (fun ((data_3,a_3,b_3,cmp_3,i_2,j__1,t34):(List Int) × Int × Int × (Int→Int→Option Int) × Int × Int × Bool) =>
                bif t34 then
                  bif (decide (0≤(w (j__1-1)))&&decide ((w (j__1-1))<(data_3.length:Int)))then
                    bif (decide (0≤j__1)&&decide (j__1<(data_3.length:Int)))then
                      bif (decide (0≤j__1)&&decide (j__1<(data_3.length:Int)))then
                        bif (decide (0≤(w (j__1-1)))&&decide ((w (j__1-1))<((List.set data_3 (Int.toNat j__1) (List.getD data_3 (Int.toNat (w (j__1-1))) 0)).length:Int)))then
                          some (Sum.inl ((List.set (List.set data_3 (Int.toNat j__1) (List.getD data_3 (Int.toNat (w (j__1-1))) 0)) (Int.toNat (w (j__1-1))) (List.getD data_3 (Int.toNat j__1) 0)),a_3,b_3,cmp_3,i_2,(w (j__1-1))))
                        else none
                      else none
                    else none
                  else none
                else
                  some (Sum.inr (data_3,a_3,b_3,cmp_3,i_2))) fun j__2=>
            bif (decide (a_2<j_))then
              bif (decide (0≤j_)&&decide (j_<(data_2.length:Int)))then
                bif (decide (0≤(w (j_-1)))&&decide ((w (j_-1))<(data_2.length:Int)))then
                  (cmp_2 (List.getD data_2 (Int.toNat j_) 0) (List.getD data_2 (Int.toNat (w (j_-1))) 0)).bind fun r=>
                  j__2 (data_2,a_2,b_2,cmp_2,i_1,j_,(decide (r<0)))
                else none
              else none
            else
              j__2 (data_2,a_2,b_2,cmp_2,i_1,j_,false)
theorem d228_ex{l:List Int}{cmp:Int→Int→Option Int}{g:Int→Int→Int}(hl:l.length≤1000)(hn:l.Nodup)(hc:∀a∈l,∀b∈l,cmp a b=some (g a b))(ht:∀a∈l,∀b∈l,a≠b→g a b<0∨g b a<0)(htr:∀a∈l,∀b∈l,∀c∈l,g a b<0→g b c<0→g a c<0) :
  ∃L,d228 l 0 (l.length:Int) cmp=some L∧L.Perm l∧L.Pairwise fun a b=>g a b<0:=by
 cases l with
 |nil=>
  refine⟨[],?_,xhj _,by simp⟩
  unfold d228
  refine zae (fun i=>([],0,(([]:List Int).length:Int),cmp,w (0+1))) 0 rfl (fun i hi=>by omega) (b:=([]:List Int)) ?_ rfl
  rfl
 |cons x0 l0=>
 generalize hll:x0::l0=l at *
 have hpos:1≤l.length:=by rw[←hll];simp
 unfold d228
 refine zbq (Q:=fun(r:Option (List Int))=>∃L:List Int,r=some L∧L.Perm l∧L.Pairwise fun a b=>g a b<0) (fun(i:Nat) (st:(List Int)×Int×Int×(Int→Int→Option Int)×Int)=>∃S:List Int,st=(S++l.drop (i+1),0,(l.length:Int),cmp,((i+1:Nat):Int))∧S.Perm (l.take (i+1))∧(S.Pairwise fun a b=>g a b<0)) (l.length-1) ?_ ?_ ?_
 ·refine⟨l.take 1,by rw[xcx];rfl,xhj _,?_⟩
  rw[←hll];simp
 ·rintro i st hi ⟨S,rfl,hS,hs⟩
  have hi1:i+1<l.length:=by omega
  obtain⟨x,hx⟩:∃x,l.getD (i+1) 0=x:=⟨_,rfl⟩
  have hdrop:l.drop (i+1)=x::l.drop (i+2):=by rw[←hx];exact drop_getD 0 hi1
  have hSl:S.length=i+1:=by rw[hS.length_eq,xav];omega
  have hmS:∀a∈S,a∈l:=fun a ha=>xcg (hS.mem_iff.1 ha)
  have hxm:x∈l:=by rw[←hx];exact zcb hi1
  have hxS:x∉S:=fun h=>by
   have h1:=hS.mem_iff.1 h
   have h2:l.take (i+1)++l.drop (i+1)=l:=xcx _ _
   have h3:(l.take (i+1)++l.drop (i+1)).Nodup:=by rw[h2];exact hn
   exact(xfh.1 h3).2.2 x h1 x (by rw[hdrop];simp) rfl
  have htk:l.take (i+2)=l.take (i+1)++[x]:=by rw[←hx];exact zbj l 0 hi1
  rw[hdrop]
  generalize l.drop (i+2)=T at *
  have hdlen:∀A B:List Int,S=A++B→(A++x::(B++T)).length=(S++x::T).length:=fun A B e=>by rw[e];simp;omega
  have htot:(S++x::T).length≤1000:=by
   rw[←hdrop,List.length_append,hSl,xet]
   omega
  have hin:∃S':List Int,zaa insF (S++x::T,0,(l.length:Int),cmp,((i+1:Nat):Int),((i+1:Nat):Int))=some (S'++T,0,(l.length:Int),cmp,((i+1:Nat):Int))∧S'.Perm (l.take (i+2))∧(S'.Pairwise fun a b=>g a b<0):=by
   have key:=zgn (γ:=(List Int)×Int×Int×(Int→Int→Option Int)×Int) (k:=some) (Q:=fun r=>∃S':List Int,r=some (S'++T,0,(l.length:Int),cmp,((i+1:Nat):Int))∧S'.Perm (l.take (i+2))∧(S'.Pairwise fun a b=>g a b<0))
    (f:=insF) (a0:=(S++x::T,0,(l.length:Int),cmp,((i+1:Nat):Int),((i+1:Nat):Int)))
    (fun(m:Nat) (st:(List Int)×Int×Int×(Int→Int→Option Int)×Int×Int)=>∃A B:List Int,st=(A++x::(B++T),0,(l.length:Int),cmp,((i+1:Nat):Int),(m:Int))∧S=A++B∧A.length=m∧∀b∈B,g x b<0) (i+1) ⟨S,[],rfl,by simp,hSl,by simp⟩ (fun m st hst=>?_)
   ·obtain⟨S',h1,h2,h3⟩:=key
    refine⟨S',?_,h2,h3⟩
    rw[xaz]at h1
    obtain⟨b,h4,h5⟩:=h1
    exact h4.trans h5
   ·obtain⟨A,B,rfl,hAB,hAm,hB⟩:=hst
    have hstop:(∀a∈A,g a x<0)→∃S':List Int,some (A++x::(B++T),(0:Int),(l.length:Int),cmp,((i+1:Nat):Int))=some (S'++T,0,(l.length:Int),cmp,((i+1:Nat):Int))∧S'.Perm (l.take (i+2))∧(S'.Pairwise fun a b=>g a b<0):=fun hA=>by
     refine⟨A++x::B,by rw[xcp,xbu],?_,?_⟩
     ·rw[htk]
      refine List.perm_middle.trans ?_
      rw[←hAB]
      exact(xgv (l₁:=[x]) (l₂:=S)).trans (List.Perm.append_right _ hS)
     ·rw[hAB,xeq]at hs
      rw[xeq,xcn]
      refine⟨hs.1,⟨hB,hs.2.1⟩,fun a ha b hb=>?_⟩
      rcases xat.1 hb with rfl|hb
      ·exact hA a ha
      ·exact hs.2.2 a ha b hb
    cases m with
    |zero=>
     have hA0:A=[]:=xea.1 hAm
     refine .inr ⟨(A++x::(B++T),0,(l.length:Int),cmp,((i+1:Nat):Int)),?_,hstop (by rw[hA0];simp)⟩
     unfold insF
     simp only[zah,show decide ((0:Int)<((0:Nat):Int))=false from rfl,xae]
    |succ m=>
     obtain⟨A',y,rfl⟩:∃A' y,A=A'++[y]:=by
      rcases List.eq_nil_or_concat A with rfl|⟨A',y,h⟩
      ·simp at hAm
      ·exact⟨A',y,by rw[h,List.concat_eq_append]⟩
     have hA'm:A'.length=m:=by simpa using hAm
     subst hA'm
     have hym:y∈S:=by rw[hAB];simp
     have hyl:=hmS y hym
     have hlen:=hdlen _ B hAB
     have e0:A'++[y]++x::(B++T)=A'++y::x::(B++T):=by simp
     rw[e0]at hlen ⊢
     have hlA:(A'++y::x::(B++T)).length≤1000:=by omega
     have hm1:A'.length+1<(A'++y::x::(B++T)).length:=by simp
     have hm0:A'.length<(A'++y::x::(B++T)).length:=by simp
     have hgx:=getD_mid1 A' y x (B++T)
     have hgy:=getD_mid A' y (x::(B++T))
     have hsw:=swap_eq A' y x (B++T)
     by_cases hlt:g x y<0
     ·refine .inl ⟨(A'++x::y::(B++T),0,(l.length:Int),cmp,((i+1:Nat):Int),(A'.length:Int)),A'.length,?_,by omega,A',y::B,rfl,by rw[hAB];simp,rfl,fun b hb=>?_⟩
      ·unfold insF
       simp only[zah,decide_eq_true (show(0:Int)<((A'.length+1:Nat):Int) by omega),xad,d0le,dlt hm1,dlt hm0,xah,tn,wpred (show A'.length<9223372036854775807 by omega),hgx,hgy,hc x hxm y hyl,xab,decide_eq_true hlt,List.length_set,hsw]
      ·rcases xat.1 hb with rfl|hb
       ·exact hlt
       ·exact hB b hb
     ·have hyx:g y x<0:=(ht y hyl x hxm (fun e=>hxS (by rw[←e];exact hym))).resolve_right hlt
      have hst:=hstop (fun a ha=>by
       rcases List.mem_append.1 ha with ha|ha
       ·refine htr a (hmS a (by rw[hAB];simp[ha])) y hyl x hxm ?_ hyx
        rw[hAB,xeq,xeq]at hs
        exact hs.1.2.2 a ha y (by simp)
       ·rw[xei.1 ha];exact hyx)
      rw[e0]at hst
      refine .inr ⟨(A'++y::x::(B++T),0,(l.length:Int),cmp,((i+1:Nat):Int)),?_,hst⟩
      unfold insF
      simp only[zah,decide_eq_true (show(0:Int)<((A'.length+1:Nat):Int) by omega),xad,d0le,dlt hm1,dlt hm0,xah,tn,wpred (show A'.length<9223372036854775807 by omega),hgx,hgy,hc x hxm y hyl,xab,decide_eq_false hlt,xae]
  obtain⟨S',h1,h2,h3⟩:=hin
  refine⟨(S'++T,0,(l.length:Int),cmp,((i+1+1:Nat):Int)),?_,S',rfl,h2,h3⟩
  show(bif decide (((i+1:Nat):Int)<(l.length:Int))then(zaa insF (S++x::T,(0:Int),(l.length:Int),cmp,((i+1:Nat):Int),((i+1:Nat):Int))).bind (fun p=>some (Sum.inl (p.1,p.2.1,p.2.2.1,p.2.2.2.1,w (p.2.2.2.2+1))))else some (Sum.inr (S++x::T)))=_
  rw[dlt hi1,xad,h1,xab,zbc (show i+1<9223372036854775807 by omega)]
 ·rintro st ⟨S,rfl,hS,hs⟩
  rw[show l.length-1+1=l.length by omega,xbo]at hS
  refine⟨S++l.drop (l.length-1+1),?_,S,?_,hS,hs⟩
  ·simp only[show l.length-1+1=l.length by omega,nlt (Nat.le_refl l.length),xae]
  ·rw[List.drop_of_length_le (by omega),xcm]
theorem d195_ex{l:List Int}{cmp:Int→Int→Option Int}{g:Int→Int→Int}(hl:l.length≤12)(hn:l.Nodup)(hc:∀a∈l,∀b∈l,cmp a b=some (g a b))(ht:∀a∈l,∀b∈l,a≠b→g a b<0∨g b a<0)(htr:∀a∈l,∀b∈l,∀c∈l,g a b<0→g b c<0→g a c<0) :
  ∃L,d195 l cmp=some L∧L.Perm l∧L.Pairwise fun a b=>g a b<0:=by
 obtain⟨L,h1,h2,h3⟩:=d228_ex (by omega) hn hc ht htr
 refine⟨L,?_,h2,h3⟩
 unfold d195
 have e208:∀x,d208 x=some (Lib.bitLen x.toNat:Int):=fun x=>rfl
 rw[e208,xab]
 have hw:w ((l.length:Int)-0)=(l.length:Int):=zaz (by omega) (by omega)
 show((d214N 2 l 0 (l.length:Int) _ cmp).bind fun r_1=>some r_1)=_
 show((d214F (d214N 1) l 0 (l.length:Int) _ cmp).bind fun r_1=>some r_1)=_
 unfold d214F
 generalize((Lib.bitLen (wu64 (l.length:Int)).toNat:Nat):Int)=t3
 refine xaz.2 ⟨L,?_,rfl⟩
 refine zae (fun _=>(l,0,(l.length:Int),t3,cmp,true,true)) 0 rfl (fun i hi=>by omega) (b:=L) ?_ rfl
 simp only[hw,decide_eq_true (show(l.length:Int)≤12 by omega),xad,h1,xab]
theorem zov{a b:Nat}(ha:a≤9223372036854775807)(hb:b≤9223372036854775807)(hb0:0<b):d158 (a:Int) (b:Int)=some (rr (frac a b)):=by
 unfold d158
 have h1:=zlh (n:=a) (by omega)
 have h2:=zlh (n:=b) (by omega)
 rw[d128_eq (by omega) (by omega),d128_eq (by omega) (by omega),xab,xab,decide_eq_false (show ¬(a:Int)<0 by omega),decide_eq_false (show ¬(b:Int)<0 by omega),xgd,xgd,d127_eq _ (zak _) (zak _) (by omega) (by omega),zat,zat]
 show some (rr (mkRat (a:Int) b))=_
 rw[Rat.mkRat_eq_div]
 rfl
end Go.Proofs.YtmipjomnjkmdbaaGreat
