/- Part 12 of what stands below the statement. -/
import Derived.Laws.CopyOwn
import Derived.Deep.RegionLaw
import Derived.Deep.OwnRows
import Derived.Test.YtamgmpngdmnadaaGreatE11
set_option linter.unusedSimpArgs false
set_option linter.unusedVariables false
set_option linter.unnecessarySimpa false
namespace Go.Proofs.YtamgmpngdmnadaaGreat
open Go Go.Proofs Go.RowKit Go.X
attribute [local go_sem] Oper.semAt_some
def FrR(g m k:Nat)(a:Act):Prop:=∃(x0 x1 x2 x3 x4 x5 x6 x9 x10 x11 x12 x13 x14 x15 x16 x17 x18 x19 x20 x21 x22 x23 x24 x25 x26 x27 x28 x29 x30 x31 x32 x33 x34 x35 x36 x37 x38 x39 x40 x41 x42 x43 x44 x45 x46 x47:Value),a={tmps:=#[x0,x1,x2,x3,x4,x5,x6,.slice (some ⟨g,0,none⟩) m m,.int .i64 (k:Int),x9,x10,x11,x12,x13,x14,x15,x16,x17,x18,x19,x20,x21,x22,x23,x24,x25,x26,x27,x28,x29,x30,x31,x32,x33,x34,x35,x36,x37,x38,x39,x40,x41,x42,x43,x44,x45,x46,x47],defers:=[]}
theorem FrR.mk{g m k:Nat}{x0 x1 x2 x3 x4 x5 x6 x9 x10 x11 x12 x13 x14 x15 x16 x17 x18 x19 x20 x21 x22 x23 x24 x25 x26 x27 x28 x29 x30 x31 x32 x33 x34 x35 x36 x37 x38 x39 x40 x41 x42 x43 x44 x45 x46 x47:Value}:FrR g m k {tmps:=#[x0,x1,x2,x3,x4,x5,x6,.slice (some ⟨g,0,none⟩) m m,.int .i64 (k:Int),x9,x10,x11,x12,x13,x14,x15,x16,x17,x18,x19,x20,x21,x22,x23,x24,x25,x26,x27,x28,x29,x30,x31,x32,x33,x34,x35,x36,x37,x38,x39,x40,x41,x42,x43,x44,x45,x46,x47],defers:=[]}:=⟨x0,x1,x2,x3,x4,x5,x6,x9,x10,x11,x12,x13,x14,x15,x16,x17,x18,x19,x20,x21,x22,x23,x24,x25,x26,x27,x28,x29,x30,x31,x32,x33,x34,x35,x36,x37,x38,x39,x40,x41,x42,x43,x44,x45,x46,x47,rfl⟩
theorem FrR.elim{g m k:Nat}{a:Act}{P:Prop}(h:FrR g m k a)(f:∀(x0 x1 x2 x3 x4 x5 x6 x9 x10 x11 x12 x13 x14 x15 x16 x17 x18 x19 x20 x21 x22 x23 x24 x25 x26 x27 x28 x29 x30 x31 x32 x33 x34 x35 x36 x37 x38 x39 x40 x41 x42 x43 x44 x45 x46 x47:Value),a={tmps:=#[x0,x1,x2,x3,x4,x5,x6,.slice (some ⟨g,0,none⟩) m m,.int .i64 (k:Int),x9,x10,x11,x12,x13,x14,x15,x16,x17,x18,x19,x20,x21,x22,x23,x24,x25,x26,x27,x28,x29,x30,x31,x32,x33,x34,x35,x36,x37,x38,x39,x40,x41,x42,x43,x44,x45,x46,x47],defers:=[]}→P):P:=by
 obtain⟨x0,x1,x2,x3,x4,x5,x6,x9,x10,x11,x12,x13,x14,x15,x16,x17,x18,x19,x20,x21,x22,x23,x24,x25,x26,x27,x28,x29,x30,x31,x32,x33,x34,x35,x36,x37,x38,x39,x40,x41,x42,x43,x44,x45,x46,x47,e⟩:=h
 exact f x0 x1 x2 x3 x4 x5 x6 x9 x10 x11 x12 x13 x14 x15 x16 x17 x18 x19 x20 x21 x22 x23 x24 x25 x26 x27 x28 x29 x30 x31 x32 x33 x34 x35 x36 x37 x38 x39 x40 x41 x42 x43 x44 x45 x46 x47 e
def rw_(m k:Nat)(v:Int):List Value:=List.replicate k (.int .i64 v)++List.replicate (m-k) (.int .i64 0)
theorem rw_splice{m k d:Nat}(v:Int)(h:k+d≤m):splice (rw_ m k v) k (List.replicate d (.int .i64 v))=rw_ m (k+d) v:=by
 unfold splice rw_
 rw[List.length_replicate,List.take_left' (by simp),List.drop_append,List.drop_eq_nil_of_le (by simp),xby,List.length_replicate,List.drop_replicate,←xcj,List.replicate_append_replicate]
 congr 2
 omega
theorem rw_zero(m:Nat)(v:Int):rw_ m 0 v=List.replicate m (.int .i64 0):=by unfold rw_;rw[Nat.sub_zero];rfl
theorem rw_len{m k:Nat}(v:Int)(h:k≤m):(rw_ m k v).length=m:=by unfold rw_;simp;omega
theorem hsz3:(Tryz.prog.info? 3).map (·.size)=some 1:=by
 have:=info3
 cases hq:Tryz.prog.info? 3 with
 |none=>rw[hq]at this;cases this
 |some i=>
  rw[hq]at this
  simp only[xbl,xai,xal]at this
  rw[xbl,this.2.1]
theorem make26(m:Nat)(hm:m≤1000)(w:World):(Instr.makeSlice 26 (.int .i64 (m:Int)) (.int .i64 (m:Int))).run Tryz.prog w=.ok (.slice (some ⟨w.heap.size,0,none⟩) m m) (w.alloc (.cells (rw_ m 0 0).toArray 3)):=by
 rw[run_make_row' 26 3 (.int .i64 0) 8 Tryz.underlying26 info3 rfl .i64 .i64 m (by omega) (by omega) w,rw_zero,←toList_madeCells_one,Array.toArray_toList]
set_option maxRecDepth 100000 in
set_option maxHeartbeats 4000000 in
theorem repeat_ok(b off c m:Nat)(v:Int)(w:World)(hm:m≤1000)(hc:w.cell? ⟨b,off,none⟩=some (.int .i64 v)) :
  Calls Tryz.prog 88 #[.slice (some ⟨b,off,none⟩) 1 c,.int .i64 (m:Int)] w fun e w'=>∃v',e=.returned v'∧w'.ownsRow w.heap.size 3 1 v' m (List.replicate m (.int .i64 v))∧Below w.heap.size w w':=by
 have hin:∀c:Int,0≤c→c≤4294967296→IntKind.i64.wrap c=c:=fun c h0 h1=>IntWalk.i64_in c ⟨by omega,by omega⟩
 have hmul:∀w',Calls Tryz.prog 151 #[.int .u64 1,.int .u64 (m:Int)] w' fun e w''=>e=.returned (.tuple #[.int .u64 0,.int .u64 (m:Int)])∧w''=w':=fun w'=>by
  have h:=Any.bits_Mul Tryz.mul 1 m (by omega) (by omega) w'
  have e1:1*m/18446744073709551616=0:=by omega
  have e2:1*m%18446744073709551616=m:=by omega
  rw[e1,e2]at h
  exact h
 have hmk:=make26 m hm
 have hc':∀o,(w.alloc o).cell? ⟨b,off,none⟩=some (.int .i64 v):=fun o=>Lib.cell?_alloc_some _ hc
 have hm0:¬(m:Int)<0:=by omega
 have hm1:¬(9223372036854775807:Int)<(m:Int):=by omega
 obtain⟨d0,hd0⟩:∃d0,d0=Nat.min 1 m:=⟨_,rfl⟩
 have hd1:d0≤1∧d0≤m∧(0<m→0<d0):=by
  rw[hd0]
  refine⟨xia _ _,xht _ _,fun h=>?_⟩
  show 0<min 1 m
  omega
 obtain⟨X,hX⟩:∃X:List Value,X=List.replicate d0 (Value.int .i64 v):=⟨_,rfl⟩
 have hXl:X.length=Nat.min 1 m:=by rw[hX,List.length_replicate,hd0]
 have hXv:∀u∈X,u=.int .i64 v:=fun u hu=>by
  rw[hX]at hu
  exact xex hu
 have hXs:splice (rw_ m 0 0) 0 X=rw_ m d0 v:=by
  rw[rw_zero,←rw_zero m v,hX,rw_splice v (by omega),Nat.zero_add]
 replace hXs:Hid (splice (rw_ m 0 0) 0 X=rw_ m d0 v):=hXs
 replace hd0:Hid (d0=Nat.min 1 m):=hd0
 clear hX
 go_enter Tryz.func88,Tryz.ntmps88
 go_upto_region 7 with(go_at_call 151;refine(hmul _).mono ?_;rintro e w1 ⟨rfl,hw1⟩;rw[hw1])
 go_wp2_with (refine wpList_copy_splice rfl (.tmp 31) (.tmp 32) 26 26 rfl 3 Tryz.underlying26 hsz3 _ _ m m 1 c rfl rfl w.heap.size 0 (rw_ m 0 0) 3 ?qc1 X hXl ?qc2 ?qc3 ?qc4 w.heap.size w ?qc5 ?qc6 ?_)
 case qc1=>exact heap_alloc_new w _
 case qc2=>
  intro _ j u hj
  have hjl:j<X.length:=(xdp.1 hj).1
  rw[hXl,←hd0.out]at hjl
  obtain rfl:j=0:=by omega
  rw[hXv u (xgq hj)]
  exact hc' _
 case qc3=>
  rw[rw_len 0 (xbf m),hXl,←hd0.out]
  omega
 case qc4=>
  intro u hu
  rw[hXv u hu]
  rfl
 case qc5=>exact(Below.refl _ w).alloc (Nat.le_refl _) _
 case qc6=>exact Nat.le_refl _
 intro w2 hg2 hb2
 replace hg2:Hid (w2.heap[w.heap.size]?=some (Obj.cells (rw_ m d0 v).toArray 3)):=by
  have:=hg2.out
  rw[hXs.out]at this
  exact this
 rw[←hd0.out]
 clear hXs hmk hXl hXv
 clear hd0
 go_wp2
 refine loop_invT (R:=fun mm a w'=>∃k:Nat,k≤m∧mm=m-k∧(0<m→0<k)∧Hid (w'.heap[w.heap.size]?=some (Obj.cells (rw_ m k v).toArray 3))∧Below w.heap.size w w'∧FrR w.heap.size m k a) (m:=m-d0) ?zgs ?init1
 case init1=>exact⟨d0,hd1.2.1,rfl,hd1.2.2,hg2,hb2,FrR.mk⟩
 case zgs=>
  rintro mm a w' ⟨k,hk,rfl,hpos,hg,hb,hfr⟩
  refine hfr.elim ?_
  intro x0 x1 x2 x3 x4 x5 x6 x9 x10 x11 x12 x13 x14 x15 x16 x17 x18 x19 x20 x21 x22 x23 x24 x25 x26 x27 x28 x29 x30 x31 x32 x33 x34 x35 x36 x37 x38 x39 x40 x41 x42 x43 x44 x45 x46 x47 hfe
  subst hfe
  rcases xdb k m with hlt|hge
  ·have hlt':(k:Int)<(m:Int):=by omega
   obtain⟨d,hd⟩:∃d,d=Nat.min k (m-k):=⟨_,rfl⟩
   have hd1:d≤k∧d≤m-k∧0<d:=by
    rw[hd]
    refine⟨xia _ _,xht _ _,?_⟩
    show 0<min k (m-k)
    have:=hpos (by omega)
    omega
   obtain⟨X,hX⟩:∃X:List Value,X=List.replicate d (Value.int .i64 v):=⟨_,rfl⟩
   have hXl:X.length=Nat.min k (m-k):=by rw[hX,List.length_replicate,hd]
   have hXl':X.length=d:=by rw[hX,List.length_replicate]
   have hXv:∀u∈X,u=.int .i64 v:=fun u hu=>by
    rw[hX]at hu
    exact xex hu
   have hXs:splice (rw_ m k v) k X=rw_ m (k+d) v:=by rw[hX,rw_splice v (by omega)]
   replace hXs:Hid (splice (rw_ m k v) k X=rw_ m (k+d) v):=hXs
   replace hd:Hid (d=Nat.min k (m-k)):=hd
   replace hXl':Hid (X.length=d):=hXl'
   clear hX
   have hrl:=rw_len v hk
   have hwr:IntKind.i64.wrap ((k:Int)+((Nat.min k (m-k):Nat):Int))=((k+d:Nat):Int):=by
    rw[←hd.out,hin _ (by omega) (by omega)];omega
   have k0:(0:Int)≤(k:Int):=by omega
   have k1:(k:Int)≤(m:Int):=by omega
   have k2:¬m=k:=by omega
   have k3:((m:Int)-(k:Int)).toNat=m-k:=by omega
   have hgd:w'.drew.heap[w.heap.size]?=some (Obj.cells (rw_ m k v).toArray 3):=hg.out
   have hbd:Below w.heap.size w w'.drew:=hb.trans ⟨rfl,rfl,rfl,Nat.le_refl _,fun _ _=>rfl⟩
   have hfit:k+X.length≤(rw_ m k v).length:=by rw[hrl,hXl'.out];omega
   have hone:∀u∈X,u.oneCell'=true:=fun u hu=>by rw[hXv u hu];rfl
   have hsrc:∀j u,X[j]?=some u→w'.drew.cell? ((⟨w.heap.size,0,none⟩:Addr).add j)=some u:=fun j u hj=>by
    have hjl:j<X.length:=(xdp.1 hj).1
    rw[hXv u (xgq hj),Addr.add_lit]
    rw[hXl'.out]at hjl
    have hjk:j<k:=by omega
    unfold World.cell?
    rw[hgd]
    simp[rw_,List.getElem?_append,hjk]
   replace hgd:Aside (w'.drew.heap[w.heap.size]?=some (Obj.cells (rw_ m k v).toArray 3)):=hgd
   replace hsrc:Aside (∀j u,X[j]?=some u→w'.drew.cell? ((⟨w.heap.size,0,none⟩:Addr).add j)=some u):=hsrc
   go_wp2
   go_region_law (refine step_copy_splice rfl (.tmp 41) (.tmp 44) 26 26 rfl 3 Tryz.underlying26 hsz3 (some ⟨w.heap.size,k,none⟩) (some ⟨w.heap.size,0,none⟩) (m-k) (m-k) k m (by simp[Act.eval,Act.put,k2]) (by simp[Act.eval,Act.put]) w.heap.size k (rw_ m k v) 3 hgd.out X hXl (fun _=>⟨rfl,_,rfl,hsrc.out⟩) hfit hone w.heap.size w hbd (Nat.le_refl _) ?_;intro w4 hg4 hb4)
   replace hg4:Hid (w4.heap[w.heap.size]?=some (Obj.cells (rw_ m (k+d) v).toArray 3)):=by
    have:=hg4.out
    rw[hXs.out]at this
    exact this
   go_wp2
   exact⟨m-(k+d),by omega,k+d,by omega,rfl,fun _=>by omega,hg4,hb4,FrR.mk⟩
  ·have hge':¬(k:Int)<(m:Int):=by omega
   have hkm:k=m:=by omega
   subst hkm
   have hrep:rw_ k k v=List.replicate k (Value.int .i64 v):=by unfold rw_;rw[Nat.sub_self];simp
   go_wp2
   go_ret
   exact⟨_,rfl,⟨by simp,.inr ⟨w.heap.size,k,_,rfl,Nat.le_refl _,hg.out,Nat.le_refl _,by unfold maxLen;omega,by simp[hrep],by simp[hrep]⟩⟩,hb⟩
end Go.Proofs.YtamgmpngdmnadaaGreat
namespace Go.Proofs.YtamgmpngdmnadaaGreat
open Go Go.Proofs Go.RowKit Go.X
theorem enters112:zcm Tryz.prog 88:=enters_of Tryz.func88 (by kernel_rfl) rfl
noncomputable def d88 (xs:List Int) (n:Int):Option (List Int):=bif decide (xs.length=1)&&(decide (0≤n)&&decide (n≤1000))then some (List.replicate n.toNat (xs.getD 0 0))else none
def sg88:Sig:=⟨[(y26,.bw),(y3,.sh)],[(y26,.own 3 .sh)]⟩
theorem sim88:Sim Tryz.prog 88 sg88 d88:=by
 refine⟨enters112,fun xs y hy S hS vs hvs hargs=>?_⟩
 have hy0:d88 xs.1 xs.2.1=some y:=hy
 obtain⟨xs,n,u⟩:=xs
 simp only at hy0
 obtain⟨z,hz,hn0,hn1,hy'⟩:∃z:Int,(xs:List Int)=[z]∧0≤n∧n≤1000∧List.replicate n.toNat z=y:=by
  unfold d88 at hy0
  cases hq:(decide ((xs:List Int).length=1)&&(decide (0≤(n:Int))&&decide ((n:Int)≤1000)))with
  |false=>rw[hq]at hy0;cases hy0
  |true=>
   rw[hq]at hy0
   rw[xaf,xaf,xag,xag,xag]at hq
   obtain⟨z,hz⟩:=xei.1 hq.1
   have h2:=xbc hy0
   rw[hz]at h2
   exact⟨z,hz,hq.2.1,hq.2.2,h2⟩
 obtain⟨v,hv,hr⟩:=hargs 0 ⟨y26,.bw,xs⟩ rfl
 obtain⟨v2,hv2,hr2⟩:=hargs 1 ⟨y3,.sh,n⟩ rfl
 have hl:vs.length=2:=hvs
 obtain⟨v',v2',rfl⟩:∃a b,vs=[a,b]:=by
  match vs,hl with
  | [a,b],_=>exact⟨a,b,rfl⟩
 have e1:v'=v:=by simpa using hv
 have e2:v2'=v2:=by simpa using hv2
 subst e1 e2
 dsimp only at hr hr2
 obtain⟨hxl,_,A,len,cap,h0,rfl,hcap,h3⟩:=hr.1
 have hv0:v'=.slice A (xs:List Int).length cap:=by simpa[zab,Ty.agg]using h0
 subst hv0
 have h02:zab (.int .i64) v2' 0=some v2':=by simp[zab,Ty.agg]
 obtain⟨q1,q2⟩:=hr2.1
 rw[h02]at q1
 have q1':v2'=.int .i64 n:=by injection q1
 subst q1'
 obtain⟨b,o,hA,hzw,hcz⟩:∃b o,A=some ⟨b,o,none⟩∧IntKind.i64.wrap z=z∧S.w.cell? ⟨b,o,none⟩=some (.int .i64 z):=by
  rcases h3 with⟨h3,_⟩|⟨b,o,hA,hx,h4⟩
  ·exfalso;rw[hz]at h3;cases h3
  ·refine⟨b,o,hA,?_,?_⟩
   ·have:=(h4 0 (by rw[hz];simp)).2
    simpa[hz]using this
   ·have:=(h4 0 (by rw[hz];simp)).1
    simpa[blk,Ty.size,hz]using this
 subst hA
 obtain⟨m,rfl⟩:∃m:Nat,n=(m:Int):=⟨Int.toNat n,(xgz hn0).symm⟩
 rw[Int.toNat_natCast]at hy'
 have hlen1:(xs:List Int).length=1:=by rw[hz];rfl
 have hm1000:m≤1000:=by have:(m:Int)≤1000:=hn1;omega
 have hcall:=repeat_ok b o cap m z S.w hm1000 hcz
 rw[hlen1]
 refine Calls.mono hcall fun e w' ⟨r,hr,ho,hb⟩=>?_
 subst hr
 obtain⟨ys,hys⟩:∃ys:List Int,ys=y:=⟨y,rfl⟩
 subst hys
 have hyl:ys.length=m:=by rw[←hy',List.length_replicate]
 have hall:∀u∈ys,u=z:=by
  rw[←hy']
  exact fun u=>xex
 have hwr:∀(i:Nat) (hi:i<ys.length),ys[i]=z:=fun i hi=>hall _ (xbe hi)
 obtain⟨ho1,ho2⟩:=ho
 let S':St:={S with w:=w',own:=fun b=>if r.ownBlock=some b then some (0,[0])else S.own b,hv:=fun z=>if z=(0,[0])then r else S.hv z}
 have hhv:S'.hv (0,[0])=r:=by
  show(if((0,[0]):Go.X.Place)=(0,[0])then r else S.hv (0,[0]))=r
  simp
 have hbig:∀b,r.ownBlock=some b→S.w.heap.size≤b∧b<w'.heap.size:=fun b hbb=>by
  rcases ho2 with⟨h1,_⟩|⟨g,c,cur,h1,h2,h3,_⟩
  ·rw[h1]at hbb;cases hbb
  ·rw[h1]at hbb;cases hbb;exact⟨h2,(xbx.1 h3).1⟩
 have hold:∀b,b<S.w.heap.size→S'.own b=S.own b:=fun b hlt=>if_neg fun hh=>absurd (hbig b hh).1 (by omega)
 have hfr:Frm S S':=by
  refine⟨fun _ h=>h,rfl,fun b hb'=>?_,fun b hb'=>?_,fun b p hb'=>?_,hb.os,hb.tape,hb.output,hb.size,fun b hlt _=>hb.block b hlt⟩
  ·exact⟨(hold b (hS.shared b hb').2).trans (hS.shared b hb').1,xap (hS.shared b hb').2 hb.size,.inl hb'⟩
  ·exact(hold b (hS.borrowed b hb').2).trans (hS.borrowed b hb').1
  ·have hb2:(if r.ownBlock=some b then some (0,[0])else S.own b)=some p:=hb'
   split at hb2
   ·rename_i hh
    exact⟨(hbig b hh).2,.inl (hbig b hh).1⟩
   ·exact⟨xap (hS.owned b p hb2) hb.size,.inr (by rw[hb2];simp)⟩
 refine⟨r,S',rfl,rfl,hfr,⟨⟨?_,by simp[Ty.size],?_,?_⟩,fun h=>by cases h⟩,fun q e hq=>by cases hq⟩
 ·show ys.length≤_
  rw[hyl]
  have:1000≤maxL:=by unfold maxL;omega
  omega
 ·rw[hhv];simp[zab,Ty.agg]
 ·rw[hhv]
  rcases ho2 with⟨h1,h2⟩|⟨g,c,cur,h1,h2,h3,h4,h5,h6,h7⟩
  ·exact .inl ⟨h1,by have:=hyl;rw[h2]at this;exact xdi this⟩
  ·rw[←hyl]at h1 h4
   refine .inr ⟨g,c,cur,h1,if_pos (by rw[h1];rfl),h3,h4,h5,by simpa[Ty.size]using h6,fun i hi=>⟨?_,by
    show IntKind.i64.wrap (ys[i]'hi)=ys[i]'hi
    rw[hwr i hi];exact hzw⟩⟩
   have hi':i<m:=by rw[←hyl];exact hi
   have:=xbb (fun l=>l[i]?) h7
   simp only[xda,xct,hi',if_true,xhr,xar]at this
   have e0:i*Ty.size (.int .i64)+0=i:=by simp[Ty.size]
   show cur[i*Ty.size (.int .i64)+0]?=some (.int .i64 (ys[i]'hi))
   rw[e0,hwr i hi]
   exact this
noncomputable def E88:FnE Tryz.prog:=⟨88,sg88,d88,sim88⟩
end Go.Proofs.YtamgmpngdmnadaaGreat
open Go Go.Proofs Go.X
namespace Go.Proofs.YtamgmpngdmnadaaGreat
set_option maxRecDepth 100000
noncomputable section
abbrev uqs(p:Plan):Plan:=.seq (.reg [] []) p
theorem uqn{a b:Nat}(h:Nat.ble a b=true):a≤b:=Nat.le_of_ble_eq_true h
abbrev uqa:JE:=.v y2 .sh
abbrev uqb:JE:=.v y26 .bw
abbrev uqc:JE:=.v y4 .sh
abbrev uqd:JE:=.v y26 (.own 3 .sh)
abbrev uqe:JE:=.v y25 .bw
abbrev uqf:JE:=.v y26 .sh
abbrev uqr:Plan:=.reg [] []
theorem uqz{f:FuncId}{fn:Func}{code:Code}{sg:Sig}{den:Arr (ptys sg.ps) (Option (Ret sg.res))}(hf:Tryz.prog.funcs[f]?=some fn)(hb:fn.body=some code)(hc:zcm Tryz.prog f)(hl:Nat.ble sg.ps.length fn.ntmps=true)(ho:zfj fn.ntmps (ioKs 0 sg.ps) code=true)(FT:List (TgE Tryz.prog))(pl:Plan)(h:∀xs,evF tab FT sg fn.results.toList code pl xs=app _ den xs):Sim Tryz.prog f sg den:=sim_ev mixd tabOK hf hb hc (uqn hl) ho pl den fun xs y e=>(h xs).trans e
abbrev ua0:=(Bool×(List Bool×List Bool))
abbrev ua1:=(Bool×(List Int×List Int))
abbrev ua2:=(List Bool)
abbrev ua3:=(List Int)
abbrev ua4:=ua2×ua2×ua2×Bool×Int
def d226(a:List Int):Option ua3:=
 (bif decide ((a.length:Int)≤LIM)then some ()else none).bind fun u=>
 (d228 (List.take (zar a) a)).bind fun r=>
 some r
def sg226:Sig:=⟨[(y99,.bw)],[(y99,(.own 169 .sh))]⟩
theorem sim226:Sim Tryz.prog 226 sg226 d226:=uqz Tryz.func226 (zaa rfl) Tryz.call226 (by kernel_rfl) (by kernel_rfl) [.pre zoi,.fn E228] (uqs (uqs .nil)) fun xs=>by kernel_rfl
def E226:FnE Tryz.prog:=⟨226,sg226,d226,sim226⟩
def d166(n:Int):Option ua3:=
 (d226 [(wu32 n),(wu32 (wu64 (Int.fdiv n (2^(min (Int.toNat 32) 64)))))]).bind fun r=>
 some r
def sg166:Sig:=⟨[(y12,.sh)],[(y99,(.own 169 .sh))]⟩
theorem sim166:Sim Tryz.prog 166 sg166 d166:=uqz Tryz.func166 (zaa rfl) Tryz.call166 (by kernel_rfl) (by kernel_rfl) [.fn E226] (uqs (uqs .nil)) fun xs=>by kernel_rfl
def E166:FnE Tryz.prog:=⟨166,sg166,d166,sim166⟩
def d165(n:Int):Option ua3:=
 bif (decide (n<0))then
 (d166 (wu64 (0-(wu64 n)))).bind fun r=>
 some r
 else
 (d166 (wu64 n)).bind fun a=>
 some a
def sg165:Sig:=⟨[(y2,.sh)],[(y99,(.own 169 .sh))]⟩
theorem sim165:Sim Tryz.prog 165 sg165 d165:=uqz Tryz.func165 (zaa rfl) Tryz.call165 (by kernel_rfl) (by kernel_rfl) [.fn E166] (uqs (.seq (uqs (.cond (uqs .nil) .nil)) (uqs .nil))) fun xs=>by kernel_rfl
def E165:FnE Tryz.prog:=⟨165,sg165,d165,sim165⟩
def d222(a:List Int):Option Int:=
 (bif decide ((a.length:Int)≤LIM)then some ()else none).bind fun u=>
 bif (decide (((List.take (zar a) a).length:Int)=0))then
 some 0
 else
 bif (decide (0≤(w (((List.take (zar a) a).length:Int)-1)))&&decide ((w (((List.take (zar a) a).length:Int)-1))<((List.take (zar a) a).length:Int)))then
 (d245 (List.getD (List.take (zar a) a) (Int.toNat (w (((List.take (zar a) a).length:Int)-1))) 0)).bind fun r=>
 some (w ((w (32*(w (((List.take (zar a) a).length:Int)-1))))+r))
 else none
def sg222:Sig:=⟨[(y99,.bw)],[(y2,.sh)]⟩
theorem sim222:Sim Tryz.prog 222 sg222 d222:=uqz Tryz.func222 (zaa rfl) Tryz.call222 (by kernel_rfl) (by kernel_rfl) [.pre zoi,.fn E245] (uqs (uqs (.seq (uqs (.cond (uqs .nil) .nil)) (uqs .nil)))) fun xs=>by kernel_rfl
def E222:FnE Tryz.prog:=⟨222,sg222,d222,sim222⟩
def d223:Option ua1:=
 (d166 1).bind fun r=>
 some (false,[],r)
def sg223:Sig:=⟨[],[(y101,.sh)]⟩
def plan223:Plan:=(uqs (.seq (.reg [] [{},{frz:=[(1,[])]}]) .nil))
theorem ev223 (xs:Vals (ptys sg223.ps)):evF (P:=Tryz.prog) tab [.fn E166] sg223 Tryz.f223.results.toList (code Tryz.f223) plan223 xs=d223  := by kernel_rfl
theorem sim223:Sim Tryz.prog 223 sg223 d223:=sim_ev mixd tabOK Tryz.func223 (zaa rfl) Tryz.call223 (uqn (by kernel_rfl)) (by kernel_rfl) plan223 _ fun xs y h=>(ev223 xs).trans h
def E223:FnE Tryz.prog:=⟨223,sg223,d223,sim223⟩
def d265(a:List Int)(b:List Int):Option Int:=
 (bif decide ((a.length:Int)≤LIM)then some ()else none).bind fun u=>
 (bif decide ((b.length:Int)≤LIM)then some ()else none).bind fun g=>
 bif !(decide (((List.take (zar a) a).length:Int)=((List.take (zar b) b).length:Int)))then
  bif (decide (((List.take (zar a) a).length:Int)<((List.take (zar b) b).length:Int)))then
   some (-1)
  else
   some 1
 else
  (zae (β:=Unit⊕Int) (fun((c,e,i):ua3×ua3×Int)=>
    bif (decide (0≤i))then
     bif (decide (0≤i)&&decide (i<(c.length:Int)))then
      bif (decide (0≤i)&&decide (i<(e.length:Int)))then
       bif (decide ((List.getD c (Int.toNat i) 0)<(List.getD e (Int.toNat i) 0)))then
        some (Sum.inr (Sum.inr (-1)))
       else
        bif (decide (0≤i)&&decide (i<(c.length:Int)))then
         bif (decide (0≤i)&&decide (i<(e.length:Int)))then
          bif (decide ((List.getD e (Int.toNat i) 0)<(List.getD c (Int.toNat i) 0)))then
           some (Sum.inr (Sum.inr 1))
          else
           some (Sum.inl (c,e,(w (i-1))))
         else none
        else none
      else none
     else none
    else
     some (Sum.inr (Sum.inl ()))) ((List.take (zar a) a),(List.take (zar b) b),(w (((List.take (zar a) a).length:Int)-1)))).bind fun
  |Sum.inl _=>
   some 0
  |Sum.inr f=>
   some f
def sg265:Sig:=⟨[(y99,.bw),(y99,.bw)],[(y2,.sh)]⟩
theorem sim265:Sim Tryz.prog 265 sg265 d265:=uqz Tryz.func265 (zaa rfl) Tryz.call265 (by kernel_rfl) (by kernel_rfl) [.pre zoi] (uqs (uqs (.seq (uqs (.cond (.seq (uqs (.cond (uqs .nil) .nil)) (uqs .nil)) .nil)) (.seq (uqs (.block (.loop [(0,.v y99 .bw),(1,.v y99 .bw),(5,uqa)] [(.brk 0,[]),(.ret,[(4,uqa)])] (.seq (uqs (.cond .nil .nil)) (.seq (.block (.block (uqs (.cond (uqs .nil) (uqs (.cond (uqs .nil) .nil)))))) uqr))))) (uqs .nil))))) fun xs=>by kernel_rfl
def E265:FnE Tryz.prog:=⟨265,sg265,d265,sim265⟩
def d266(a:List Int)(d:Int):Option (ua3×Int):=
 bif (decide ((a.length:Int)=(a.length:Int))&&(decide (0≤(a.length:Int))&&decide ((a.length:Int)≤LIM)))then
 (zae (β:=(ua3×Int)) (fun((c,b,q,rest,i):ua3×Int×ua3×Int×Int)=>
 bif (decide (0≤i))then
 bif (decide (0≤i)&&decide (i<(c.length:Int)))then
 bif (!decide (b=0))then
 bif (decide (0≤i)&&decide (i<(q.length:Int)))then
 bif (!decide (b=0))then
 some (Sum.inl (c,b,(List.set q (Int.toNat i) (wu32 (wu64 (Int.tdiv (wu64 ((BitVec.ofInt 64 (wu64 (rest*2^(min (Int.toNat 32) 64)))|||BitVec.ofInt 64 (wu64 (List.getD c (Int.toNat i) 0))).toNat:Int)) b)))),(wu64 (Int.tmod (wu64 ((BitVec.ofInt 64 (wu64 (rest*2^(min (Int.toNat 32) 64)))|||BitVec.ofInt 64 (wu64 (List.getD c (Int.toNat i) 0))).toNat:Int)) b)),(w (i-1))))
 else none
 else none
 else none
 else none
 else
 some (Sum.inr (q,rest))) (a,d,(List.replicate (Int.toNat (a.length:Int)) 0),0,(w ((a.length:Int)-1)))).bind fun((e,f):ua3×Int)=>
 some (e,f)
 else none
def sg266:Sig:=⟨[(y99,.bw),(y12,.sh)],[(y99,(.own 169 .sh)),(y12,.sh)]⟩
theorem sim266:Sim Tryz.prog 266 sg266 d266:=uqz Tryz.func266 (zaa rfl) Tryz.call266 (by kernel_rfl) (by kernel_rfl) [] (uqs (uqs (uqs (.seq (uqs (.block (.loop [(0,.v y99 .bw),(1,.v y12 .sh),(6,.v y99 (.own 169 .sh)),(7,.v y12 .sh),(8,uqa)] [(.brk 0,[(6,.v y99 (.own 169 .sh)),(7,.v y12 .sh)])] (.seq (uqs (.cond .nil .nil)) (.seq (.block (uqs (uqs uqr))) uqr))))) (uqs .nil))))) fun xs=>by kernel_rfl
def E266:FnE Tryz.prog:=⟨266,sg266,d266,sim266⟩
def d267(x:Int):Option Int:=
 (d245 x).bind fun r=>
 some (w (32-r))
def sg267:Sig:=⟨[(y169,.sh)],[(y2,.sh)]⟩
theorem sim267:Sim Tryz.prog 267 sg267 d267:=uqz Tryz.func267 (zaa rfl) Tryz.call267 (by kernel_rfl) (by kernel_rfl) [.fn E245] (uqs (uqs .nil)) fun xs=>by kernel_rfl
def E267:FnE Tryz.prog:=⟨267,sg267,d267,sim267⟩
def d268(a:List Int)(n:Int):Option ua3:=
 bif (decide ((w ((a.length:Int)+1))=(w ((a.length:Int)+1)))&&(decide (0≤(w ((a.length:Int)+1)))&&decide ((w ((a.length:Int)+1))≤LIM)))then
 (zae (β:=ua3) (fun((c,out,e,f,b):Int×ua3×ua3×Int×Int)=>
 bif (decide (b<f))then
 bif (decide (0≤b)&&decide (b<(e.length:Int)))then
 bif (decide (0≤c))then
 bif (decide (0≤b)&&decide (b<(out.length:Int)))then
 bif (decide (0≤b)&&decide (b<(out.length:Int)))then
 bif (decide (0≤(w (b+1)))&&decide ((w (b+1))<((List.set out (Int.toNat b) (wu32 ((BitVec.ofInt 32 (List.getD out (Int.toNat b) 0)|||BitVec.ofInt 32 (wu32 (wu64 ((wu64 (List.getD e (Int.toNat b) 0))*2^(min (Int.toNat c) 64))))).toNat:Int))).length:Int)))then
 some (Sum.inl (c,(List.set (List.set out (Int.toNat b) (wu32 ((BitVec.ofInt 32 (List.getD out (Int.toNat b) 0)|||BitVec.ofInt 32 (wu32 (wu64 ((wu64 (List.getD e (Int.toNat b) 0))*2^(min (Int.toNat c) 64))))).toNat:Int))) (Int.toNat (w (b+1))) (wu32 (wu64 (Int.fdiv (wu64 ((wu64 (List.getD e (Int.toNat b) 0))*2^(min (Int.toNat c) 64))) (2^(min (Int.toNat 32) 64)))))),e,f,(w (b+1))))
 else none
 else none
 else none
 else none
 else none
 else
 some (Sum.inr out)) (n,(List.replicate (Int.toNat (w ((a.length:Int)+1))) 0),a,(a.length:Int),0)).bind fun(g:List Int)=>
 some g
 else none
def sg268:Sig:=⟨[(y99,.bw),(y2,.sh)],[(y99,(.own 169 .sh))]⟩
theorem sim268:Sim Tryz.prog 268 sg268 d268:=uqz Tryz.func268 (zaa rfl) Tryz.call268 (by kernel_rfl) (by kernel_rfl) [] (uqs (uqs (.seq (uqs (.block (.loop [(1,uqa),(5,.v y99 (.own 169 .sh)),(13,.v y99 .bw),(14,uqa),(15,uqa)] [(.brk 0,[(5,.v y99 (.own 169 .sh))])] (uqs (.seq (.cond .nil .nil) (.seq (.block (uqs (uqs (uqs uqr)))) uqr)))))) (uqs .nil)))) fun xs=>by kernel_rfl
def E268:FnE Tryz.prog:=⟨268,sg268,d268,sim268⟩
def d296(p0:List Int)(p1:List Int)(p2:Int):Option Int:=
 bif (decide (0≤(w (p2+(p1.length:Int))))&&decide ((w (p2+(p1.length:Int)))<(p0.length:Int)))then
 bif (decide (0≤(w ((w (p2+(p1.length:Int)))-1)))&&decide ((w ((w (p2+(p1.length:Int)))-1))<(p0.length:Int)))then
 bif (decide (0≤(w ((p1.length:Int)-1)))&&decide ((w ((p1.length:Int)-1))<(p1.length:Int)))then
 bif (!decide ((wu64 (List.getD p1 (Int.toNat (w ((p1.length:Int)-1))) 0))=0))then
 bif (!decide ((wu64 (List.getD p1 (Int.toNat (w ((p1.length:Int)-1))) 0))=0))then
 (zae (β:=Int) (fun((c,e,b,a,j,f,g):ua3×ua3×Int×Int×Int×Int×Int)=>
 letJ (fun((m,n,o,p,h,i,k,q):ua3×ua3×Int×Int×Int×Int×Int×Bool)=>
 bif q then
 bif (decide (4294967296≤(wu64 (k+h))))then
 some (Sum.inr (wu64 (i-1)))
 else
 some (Sum.inl (m,n,o,p,h,(wu64 (i-1)),(wu64 (k+h))))
 else
 some (Sum.inr i)) fun l=>
 bif !(decide (4294967296≤f))then
 bif (decide (0≤(w (a-2)))&&decide ((w (a-2))<(e.length:Int)))then
 bif (decide (0≤(w ((w (b+a))-2)))&&decide ((w ((w (b+a))-2))<(c.length:Int)))then
 l (c,e,b,a,j,f,g,(decide ((wu64 ((BitVec.ofInt 64 (wu64 (g*2^(min (Int.toNat 32) 64)))|||BitVec.ofInt 64 (wu64 (List.getD c (Int.toNat (w ((w (b+a))-2))) 0))).toNat:Int))<(wu64 (f*(wu64 (List.getD e (Int.toNat (w (a-2))) 0)))))))
 else none
 else none
 else
 l (c,e,b,a,j,f,g,true)) (p0,p1,p2,(p1.length:Int),(wu64 (List.getD p1 (Int.toNat (w ((p1.length:Int)-1))) 0)),(wu64 (Int.tdiv (wu64 ((BitVec.ofInt 64 (wu64 ((wu64 (List.getD p0 (Int.toNat (w (p2+(p1.length:Int)))) 0))*2^(min (Int.toNat 32) 64)))|||BitVec.ofInt 64 (wu64 (List.getD p0 (Int.toNat (w ((w (p2+(p1.length:Int)))-1))) 0))).toNat:Int)) (wu64 (List.getD p1 (Int.toNat (w ((p1.length:Int)-1))) 0)))),(wu64 (Int.tmod (wu64 ((BitVec.ofInt 64 (wu64 ((wu64 (List.getD p0 (Int.toNat (w (p2+(p1.length:Int)))) 0))*2^(min (Int.toNat 32) 64)))|||BitVec.ofInt 64 (wu64 (List.getD p0 (Int.toNat (w ((w (p2+(p1.length:Int)))-1))) 0))).toNat:Int)) (wu64 (List.getD p1 (Int.toNat (w ((p1.length:Int)-1))) 0)))))).bind fun(r:Int)=>
 some r
 else none
 else none
 else none
 else none
 else none
def sg296:Sig:=⟨[(y99,.bw),(y99,.bw),(y2,.sh)],[(y12,.sh)]⟩
theorem sim296:Sim Tryz.prog 296 sg296 d296:=uqz Tryz.func296 (zaa rfl) Tryz.call296 (by kernel_rfl) (by kernel_rfl) [] (uqs (uqs (uqs (uqs (uqs (.seq (.block (.loop [(0,.v y99 .bw),(1,.v y99 .bw),(2,uqa),(7,uqa),(9,.v y12 .sh),(10,.v y12 .sh),(11,.v y12 .sh)] [(.brk 0,[(10,.v y12 .sh)])] (.seq (.join uqr [(0,.v y99 .bw),(1,.v y99 .bw),(2,uqa),(7,uqa),(9,.v y12 .sh),(10,.v y12 .sh),(11,.v y12 .sh),(66,uqc)] (.cond .nil .nil)) (.block (uqs (uqs (uqs (.cond .nil .nil)))))))) (uqs .nil))))))) fun xs=>by kernel_rfl
def E296:FnE Tryz.prog:=⟨296,sg296,d296,sim296⟩
def d297(a:List Int)(i:Int):Option Int:=
 bif (decide (i<(a.length:Int)))then
 bif (decide (0≤i)&&decide (i<(a.length:Int)))then
 some (wu64 (List.getD a (Int.toNat i) 0))
 else none
 else
 some 0
def sg297:Sig:=⟨[(y99,.bw),(y2,.sh)],[(y12,.sh)]⟩
theorem sim297:Sim Tryz.prog 297 sg297 d297:=uqz Tryz.func297 (zaa rfl) Tryz.call297 (by kernel_rfl) (by kernel_rfl) [] (uqs (.seq (uqs (.cond (uqs .nil) .nil)) (uqs .nil))) fun xs=>by kernel_rfl
def E297:FnE Tryz.prog:=⟨297,sg297,d297,sim297⟩
def d269(p0:List Int)(p1:List Int):Option (ua3×ua3):=
 bif (decide ((w ((p0.length:Int)-(p1.length:Int)))=(w ((p0.length:Int)-(p1.length:Int))))&&(decide (0≤(w ((p0.length:Int)-(p1.length:Int))))&&decide ((w ((p0.length:Int)-(p1.length:Int)))≤LIM)))then
 (zae (β:=(ua3×ua3)) (fun((j,s,t,u,k):ua3×ua3×Int×ua3×Int)=>
 bif (decide (0≤k))then
 (d296 j s k).bind fun r=>
 (zae (β:=(ua3×ua3×Int×ua3×Int×Int×Int)) (fun((f,l,v,x,c,h,m,n,y,a):ua3×ua3×Int×ua3×Int×Int×Int×Int×Int×Int)=>
 bif (decide (a<y))then
 (d297 l a).bind fun o=>
 bif (decide (0≤(w (a+c)))&&decide ((w (a+c))<(f.length:Int)))then
 bif (decide (0≤(w (a+c)))&&decide ((w (a+c))<(f.length:Int)))then
 some (Sum.inl ((List.set f (Int.toNat (w (a+c))) (wu32 (wu64 ((wu64 ((wu64 (4294967296+(wu64 (List.getD f (Int.toNat (w (a+c))) 0))))-(wu64 ((BitVec.ofInt 64 (wu64 ((wu64 (h*o))+n))&&&BitVec.ofInt 64 4294967295).toNat:Int))))-m)))),l,v,x,c,h,(wu64 (1-(wu64 (Int.fdiv (wu64 ((wu64 ((wu64 (4294967296+(wu64 (List.getD f (Int.toNat (w (a+c))) 0))))-(wu64 ((BitVec.ofInt 64 (wu64 ((wu64 (h*o))+n))&&&BitVec.ofInt 64 4294967295).toNat:Int))))-m)) (2^(min (Int.toNat 32) 64)))))),(wu64 (Int.fdiv (wu64 ((wu64 (h*o))+n)) (2^(min (Int.toNat 32) 64)))),y,(w (a+1))))
 else none
 else none
 else
 some (Sum.inr (f,l,v,x,c,h,m))) (j,s,t,u,k,r,0,0,(w (t+1)),0)).bind fun((z,aa,p,ab,ac,ae,an):ua3×ua3×Int×ua3×Int×Int×Int)=>
 letJ (fun((ao,ap,aq,af,i,ar):ua3×ua3×Int×ua3×Int×Int)=>
 bif (decide (0≤i)&&decide (i<(af.length:Int)))then
 some (Sum.inl (ao,ap,aq,(List.set af (Int.toNat i) (wu32 ar)),(w (i-1))))
 else none) fun ag=>
 bif (decide (0<an))then
 (zae (β:=(ua3×ua3×Int×ua3×Int×Int)) (fun((g,q,ah,ai,e,aj,ak,al,b):ua3×ua3×Int×ua3×Int×Int×Int×Int×Int)=>
 bif (decide (b<al))then
 bif (decide (0≤(w (b+e)))&&decide ((w (b+e))<(g.length:Int)))then
 (d297 q b).bind fun am=>
 bif (decide (0≤(w (b+e)))&&decide ((w (b+e))<(g.length:Int)))then
 some (Sum.inl ((List.set g (Int.toNat (w (b+e))) (wu32 (wu64 ((wu64 ((wu64 (List.getD g (Int.toNat (w (b+e))) 0))+am))+ak)))),q,ah,ai,e,aj,(wu64 (Int.fdiv (wu64 ((wu64 ((wu64 (List.getD g (Int.toNat (w (b+e))) 0))+am))+ak)) (2^(min (Int.toNat 32) 64)))),al,(w (b+1))))
 else none
 else none
 else
 some (Sum.inr (g,q,ah,ai,e,aj))) (z,aa,p,ab,ac,(wu64 (ae-1)),0,(w (p+1)),0)).bind fun((au,av,ax,ay,az,ba):ua3×ua3×Int×ua3×Int×Int)=>
 ag (au,av,ax,ay,az,ba)
 else
 ag (z,aa,p,ab,ac,ae)
 else
 some (Sum.inr (j,u))) (p0,p1,(p1.length:Int),(List.replicate (Int.toNat (w ((p0.length:Int)-(p1.length:Int)))) 0),(w ((w ((p0.length:Int)-(p1.length:Int)))-1)))).bind fun((bb,bc):ua3×ua3)=>
 some (bc,bb)
 else none
def sg269:Sig:=⟨[(y99,(.io (.own 169 .sh))),(y99,.sh)],[(y99,(.own 169 .sh))]⟩
theorem sim269:Sim Tryz.prog 269 sg269 d269:=uqz Tryz.func269 (zaa rfl) Tryz.call269 (by kernel_rfl) (by kernel_rfl) [.fn E296,.fn E297] (uqs (uqs (uqs (.seq (uqs (.block (.loop [(0,.v y99 (.own 169 .sh)),(1,.v y99 .sh),(5,uqa),(6,.v y99 (.own 169 .sh)),(7,uqa)] [(.brk 0,[(0,.v y99 (.own 169 .sh)),(6,.v y99 (.own 169 .sh))])] (.seq (uqs (.cond .nil .nil)) (.seq (.block (uqs (uqs (.seq (uqs (.block (.loop [(0,.v y99 (.own 169 .sh)),(1,.v y99 .sh),(5,uqa),(6,.v y99 (.own 169 .sh)),(7,uqa),(8,.v y12 .sh),(9,.v y12 .sh),(10,.v y12 .sh),(37,uqa),(38,uqa)] [(.brk 2,[(0,.v y99 (.own 169 .sh)),(1,.v y99 .sh),(5,uqa),(6,.v y99 (.own 169 .sh)),(7,uqa),(8,.v y12 .sh),(9,.v y12 .sh)])] (uqs (.seq (.cond .nil .nil) (.seq (.block (uqs (uqs (uqs (uqs (uqs uqr)))))) uqr)))))) (.join (uqs (.cond (uqs (uqs (uqs (.block (.loop [(0,.v y99 (.own 169 .sh)),(1,.v y99 .sh),(5,uqa),(6,.v y99 (.own 169 .sh)),(7,uqa),(8,.v y12 .sh),(10,.v y12 .sh),(79,uqa),(80,uqa)] [(.brk 4,[(0,.v y99 (.own 169 .sh)),(1,.v y99 .sh),(5,uqa),(6,.v y99 (.own 169 .sh)),(7,uqa),(8,.v y12 .sh)])] (uqs (.seq (.cond .nil .nil) (.seq (.block (uqs (uqs (uqs uqr)))) uqr)))))))) .nil)) [(0,.v y99 (.own 169 .sh)),(1,.v y99 .sh),(5,uqa),(6,.v y99 (.own 169 .sh)),(7,uqa),(8,.v y12 .sh)] uqr))))) uqr))))) (uqs .nil))))) fun xs=>by kernel_rfl
def E269:FnE Tryz.prog:=⟨269,sg269,d269,sim269⟩
def d270(a:List Int)(n:Int):Option ua3:=
 bif (decide ((a.length:Int)=(a.length:Int))&&(decide (0≤(a.length:Int))&&decide ((a.length:Int)≤LIM)))then
 (zae (β:=ua3) (fun((c,e,out,f,b):ua3×Int×ua3×Int×Int)=>
 bif (decide (b<f))then
 (d297 c b).bind fun r=>
 (d297 c (w (b+1))).bind fun g=>
 bif (decide (0≤e))then
 bif (decide (0≤b)&&decide (b<(out.length:Int)))then
 some (Sum.inl (c,e,(List.set out (Int.toNat b) (wu32 (wu64 (Int.fdiv (wu64 ((BitVec.ofInt 64 r|||BitVec.ofInt 64 (wu64 (g*2^(min (Int.toNat 32) 64)))).toNat:Int)) (2^(min (Int.toNat e) 64)))))),f,(w (b+1))))
 else none
 else none
 else
 some (Sum.inr out)) (a,n,(List.replicate (Int.toNat (a.length:Int)) 0),(a.length:Int),0)).bind fun(h:List Int)=>
 some h
 else none
def sg270:Sig:=⟨[(y99,.bw),(y2,.sh)],[(y99,(.own 169 .sh))]⟩
theorem sim270:Sim Tryz.prog 270 sg270 d270:=uqz Tryz.func270 (zaa rfl) Tryz.call270 (by kernel_rfl) (by kernel_rfl) [.fn E297] (uqs (uqs (.seq (uqs (.block (.loop [(0,.v y99 .bw),(1,uqa),(5,.v y99 (.own 169 .sh)),(11,uqa),(12,uqa)] [(.brk 0,[(5,.v y99 (.own 169 .sh))])] (uqs (.seq (.cond .nil .nil) (.seq (.block (uqs uqr)) uqr)))))) (uqs .nil)))) fun xs=>by kernel_rfl
def E270:FnE Tryz.prog:=⟨270,sg270,d270,sim270⟩
def d225(p0:List Int)(p1:List Int):Option (ua3×ua3×Bool):=
 (bif decide ((p0.length:Int)≤LIM)then some ()else none).bind fun u=>
 (bif decide ((p1.length:Int)≤LIM)then some ()else none).bind fun m=>
 bif (decide (((List.take (zar p1) p1).length:Int)=0))then
 some ([],[],false)
 else
 (d265 (List.take (zar p0) p0) (List.take (zar p1) p1)).bind fun r=>
 bif (decide (r<0))then
 (d228 (List.take (zar p0) p0)).bind fun f=>
 some ([],f,true)
 else
 bif (decide (((List.take (zar p1) p1).length:Int)=1))then
 bif (decide (0≤0)&&decide (0<((List.take (zar p1) p1).length:Int)))then
 (d266 (List.take (zar p0) p0) (wu64 (List.getD (List.take (zar p1) p1) 0 0))).bind fun c=>
 (d226 c.1).bind fun g=>
 (d166 c.2).bind fun h=>
 some (g,h,true)
 else none
 else
 bif (decide (0≤(w (((List.take (zar p1) p1).length:Int)-1)))&&decide ((w (((List.take (zar p1) p1).length:Int)-1))<((List.take (zar p1) p1).length:Int)))then
 (d267 (List.getD (List.take (zar p1) p1) (Int.toNat (w (((List.take (zar p1) p1).length:Int)-1))) 0)).bind fun a=>
 (d268 (List.take (zar p0) p0) a).bind fun i=>
 (d268 (List.take (zar p1) p1) a).bind fun b=>
 (bif decide ((b.length:Int)≤LIM)then some ()else none).bind fun n=>
 (d269 i (List.take (zar b) b)).bind fun e=>
 (d226 e.1).bind fun j=>
 (d270 e.2 a).bind fun k=>
 (d226 k).bind fun l=>
 some (j,l,true)
 else none
def sg225:Sig:=⟨[(y99,.bw),(y99,.bw)],[(y99,.sh),(y99,.sh),(y4,.sh)]⟩
theorem sim225:Sim Tryz.prog 225 sg225 d225:=uqz Tryz.func225 (zaa rfl) Tryz.call225 (by kernel_rfl) (by kernel_rfl) [.pre zoi,.fn E265,.fn E228,.fn E266,.fn E226,.fn E166,.fn E267,.fn E268,.fn E269,.fn E270] (.post (uqs (uqs (.seq (.block (uqs (.cond (uqs .nil) (uqs (.cond (uqs .nil) (uqs (.cond (.seq (.reg [] [{},{},{},{},{},{},{fl:=1}]) (uqs .nil)) .nil))))))) (uqs (.seq (.reg [] [{},{},{},{},{},{},{frz:=[(56,[])]}]) (uqs (uqs .nil))))))) [(5,[]),(4,[])]) fun xs=>by kernel_rfl
def E225:FnE Tryz.prog:=⟨225,sg225,d225,sim225⟩
def d224(a:List Int)(b:List Int):Option ua3:=
 (d226 a).bind fun r=>
 (d226 b).bind fun f=>
 (zae (β:=ua3) (fun((e,c):ua3×ua3)=>
 bif (decide (0<(c.length:Int)))then
 (d225 e c).bind fun g=>
 some (Sum.inl (c,g.2.1))
 else
 some (Sum.inr e)) (r,f)).bind fun(h:List Int)=>
 some h
def sg224:Sig:=⟨[(y99,.bw),(y99,.bw)],[(y99,.sh)]⟩
theorem sim224:Sim Tryz.prog 224 sg224 d224:=uqz Tryz.func224 (zaa rfl) Tryz.call224 (by kernel_rfl) (by kernel_rfl) [.fn E226,.fn E225] (uqs (uqs (.seq (.block (.frz [(1,[]),(0,[])] (.loop [(0,.v y99 .sh),(1,.v y99 .sh)] [(.brk 0,[(0,.v y99 .sh)])] (.seq (uqs (.cond .nil .nil)) (.block (.seq (.reg [] [{},{},{},{fl:=1}]) uqr)))))) (uqs .nil)))) fun xs=>by kernel_rfl
def E224:FnE Tryz.prog:=⟨224,sg224,d224,sim224⟩
def d164(neg:Bool)(num:List Int)(den:List Int):Option ua1:=
 letJ (fun((f,a,b,l,g):Bool×ua3×ua3×ua1×Bool)=>
 bif g then
 (d223).bind fun h=>
 some h
 else
 (d224 a b).bind fun c=>
 (d225 a c).bind fun i=>
 (d225 b c).bind fun j=>
 some (f,i.1,j.1)) fun e=>
 (d222 num).bind fun r=>
 bif !(decide (r=0))then
 (d222 den).bind fun k=>
 e (neg,num,den,(false,[],[]),(decide (k=0)))
 else
 e (neg,num,den,(false,[],[]),true)
def sg164:Sig:=⟨[(y4,.sh),(y99,.bw),(y99,.bw)],[(y101,.sh)]⟩
theorem sim164:Sim Tryz.prog 164 sg164 d164:=uqz Tryz.func164 (zaa rfl) Tryz.call164 (by kernel_rfl) (by kernel_rfl) [.fn E222,.fn E223,.fn E224,.fn E225] (uqs (.seq (.join uqr [(0,uqc),(1,.v y99 .bw),(2,.v y99 .bw),(6,.v (.ptr y101) (.own 0 .sh)),(21,uqc)] (.cond (uqs .nil) .nil)) (uqs (.seq (.reg [] [{},{},{},{fl:=1}]) (.seq (.reg [] [{},{},{},{fl:=1}]) (uqs .nil)))))) fun xs=>by kernel_rfl
def E164:FnE Tryz.prog:=⟨164,sg164,d164,sim164⟩
def d93(n:Int):Option ua1:=
 (d165 n).bind fun r=>
 (d166 1).bind fun a=>
 (d164 (decide (n<0)) r a).bind fun b=>
 some b
def sg93:Sig:=⟨[(y2,.sh)],[(y101,.sh)]⟩
theorem sim93:Sim Tryz.prog 93 sg93 d93:=uqz Tryz.func93 (zaa rfl) Tryz.call93 (by kernel_rfl) (by kernel_rfl) [.fn E165,.fn E166,.fn E164] (uqs (uqs .nil)) fun xs=>by kernel_rfl
def E93:FnE Tryz.prog:=⟨93,sg93,d93,sim93⟩
def d188(a:List Bool)(n:Int):Option ua2:=
 bif (decide (n=n)&&(decide (0≤n)&&decide (n≤LIM)))then
 bif (decide (((List.replicate (Int.toNat n) false).length:Int)+(a.length:Int)≤LIM))then
 some ((List.replicate (Int.toNat n) false)++a)
 else none
 else none
def d192(b:List Bool)(i:Int):Option Bool:=
 bif (decide (0≤i))then
 bif (decide (i<(b.length:Int)))then
 bif (decide (0≤i)&&decide (i<(b.length:Int)))then
 some (List.getD b (Int.toNat i) false)
 else none
 else
 some false
 else
 some false
def d189(b:List Bool):Option ua2:=
 (zae (β:=(ua2×Int)) (fun((a,n):ua2×Int)=>
 letJ (fun((f,g,i):ua2×Int×Bool)=>
 bif i then
 some (Sum.inl (f,(w (g-1))))
 else
 some (Sum.inr (f,g))) fun h=>
 bif (decide (0<n))then
 bif (decide (0≤(w (n-1)))&&decide ((w (n-1))<(a.length:Int)))then
 h (a,n,!(List.getD a (Int.toNat (w (n-1))) false))
 else none
 else
 h (a,n,false)) (b,(b.length:Int))).bind fun((c,e):ua2×Int)=>
 bif (zck 0 e c.length)then
 bif (decide ((([]:List Bool).length:Int)+((List.drop 0 (List.take (Int.toNat e) c)).length:Int)≤LIM))then
 some (List.drop 0 (List.take (Int.toNat e) c))
 else none
 else none
def d120(a:List Bool)(b:List Bool):Option ua2:=
 (zae (β:=ua2) (fun((e,f,out,carry,i):ua4)=>
 bif (decide (i≤(bif (decide ((e.length:Int)<(f.length:Int)))then(f.length:Int)else(e.length:Int))))then
 letJ (fun((h,j,k,l,m):ua4)=>
 some (Sum.inl (h,j,k,l,(w (m+1))))) fun g=>
 (d192 e i).bind fun r=>
 (d192 f i).bind fun c=>
 bif (decide ((out.length:Int)+(([!((!(r == c)) == carry)]:List Bool).length:Int)≤LIM))then
 bif r then
 bif !c then
 bif r then
 bif !carry then
 bif c then
 g (e,f,(out++[!((!(r == c)) == carry)]),carry,i)
 else
 g (e,f,(out++[!((!(r == c)) == carry)]),false,i)
 else
 g (e,f,(out++[!((!(r == c)) == carry)]),true,i)
 else
 bif c then
 g (e,f,(out++[!((!(r == c)) == carry)]),carry,i)
 else
 g (e,f,(out++[!((!(r == c)) == carry)]),false,i)
 else
 g (e,f,(out++[!((!(r == c)) == carry)]),true,i)
 else
 bif r then
 bif !carry then
 bif c then
 g (e,f,(out++[!((!(r == c)) == carry)]),carry,i)
 else
 g (e,f,(out++[!((!(r == c)) == carry)]),false,i)
 else
 g (e,f,(out++[!((!(r == c)) == carry)]),true,i)
 else
 bif c then
 g (e,f,(out++[!((!(r == c)) == carry)]),carry,i)
 else
 g (e,f,(out++[!((!(r == c)) == carry)]),false,i)
 else none
 else
 some (Sum.inr out)) (a,b,[],false,0)).bind fun(n:List Bool)=>
 (d189 n).bind fun o=>
 some o
def d118(a:List Bool)(b:List Bool):Option ua2:=
 (zae (β:=ua2) (fun((e,c,sum,i):ua2×ua2×ua2×Int)=>
 bif (decide (i<(c.length:Int)))then
 letJ (fun((g,h,j,k):ua2×ua2×ua2×Int)=>
 some (Sum.inl (g,h,j,(w (k+1))))) fun f=>
 bif (decide (0≤i)&&decide (i<(c.length:Int)))then
 bif (List.getD c (Int.toNat i) false)then
 (d188 e i).bind fun r=>
 (d120 sum r).bind fun l=>
 f (e,c,l,i)
 else
 f (e,c,sum,i)
 else none
 else
 some (Sum.inr sum)) (a,b,[],0)).bind fun(m:List Bool)=>
 (d189 m).bind fun n=>
 some n
def d121(a:List Bool)(b:List Bool):Option Int:=
 (zae (β:=Unit⊕Int) (fun((c,e,i):ua2×ua2×Int)=>
   bif (decide (0≤i))then
    (d192 c i).bind fun r=>
    (d192 e i).bind fun f=>
    bif !(r == f)then
     (d192 c i).bind fun g=>
     bif g then
      some (Sum.inr (Sum.inr 1))
     else
      some (Sum.inr (Sum.inr (-1)))
    else
     some (Sum.inl (c,e,(w (i-1))))
   else
    some (Sum.inr (Sum.inl ()))) (a,b,(w ((bif (decide ((a.length:Int)<(b.length:Int)))then(b.length:Int)else(a.length:Int))-1)))).bind fun
 |Sum.inl _=>
  some 0
 |Sum.inr h=>
  some h
def d122(a:List Bool)(b:List Bool):Option ua2:=
 (zae (β:=ua2) (fun((e,f,out,borrow,i):ua4)=>
 bif (decide (i<(e.length:Int)))then
 letJ (fun((h,j,k,l,m):ua4)=>
 some (Sum.inl (h,j,k,l,(w (m+1))))) fun g=>
 (d192 e i).bind fun r=>
 (d192 f i).bind fun c=>
 bif (decide ((out.length:Int)+(([!((!(r == c)) == borrow)]:List Bool).length:Int)≤LIM))then
 bif !r then
 bif !c then
 bif !r then
 bif !borrow then
 bif c then
 g (e,f,(out++[!((!(r == c)) == borrow)]),borrow,i)
 else
 g (e,f,(out++[!((!(r == c)) == borrow)]),false,i)
 else
 g (e,f,(out++[!((!(r == c)) == borrow)]),true,i)
 else
 bif c then
 g (e,f,(out++[!((!(r == c)) == borrow)]),borrow,i)
 else
 g (e,f,(out++[!((!(r == c)) == borrow)]),false,i)
 else
 g (e,f,(out++[!((!(r == c)) == borrow)]),true,i)
 else
 bif !r then
 bif !borrow then
 bif c then
 g (e,f,(out++[!((!(r == c)) == borrow)]),borrow,i)
 else
 g (e,f,(out++[!((!(r == c)) == borrow)]),false,i)
 else
 g (e,f,(out++[!((!(r == c)) == borrow)]),true,i)
 else
 bif c then
 g (e,f,(out++[!((!(r == c)) == borrow)]),borrow,i)
 else
 g (e,f,(out++[!((!(r == c)) == borrow)]),false,i)
 else none
 else
 some (Sum.inr out)) (a,b,[],false,0)).bind fun(n:List Bool)=>
 (d189 n).bind fun o=>
 some o
def d154(a:Int)(b:Int):Option ua1:=
 (d165 a).bind fun r=>
 (d165 b).bind fun c=>
 (d164 (!((decide (a<0)) == (decide (b<0)))) r c).bind fun e=>
 some e
def sg154:Sig:=⟨[(y2,.sh),(y2,.sh)],[(y101,.sh)]⟩
theorem sim154:Sim Tryz.prog 154 sg154 d154:=uqz Tryz.func154 (zaa rfl) Tryz.call154 (by kernel_rfl) (by kernel_rfl) [.fn E165,.fn E164] (uqs (uqs .nil)) fun xs=>by kernel_rfl
def E154:FnE Tryz.prog:=⟨154,sg154,d154,sim154⟩
def d229(r:ua1):Option ua1:=
 (d164 r.1 r.2.1 r.2.2).bind fun a=>
 some a
def sg229:Sig:=⟨[(y101,.bw)],[(y101,.sh)]⟩
theorem sim229:Sim Tryz.prog 229 sg229 d229:=uqz Tryz.func229 (zaa rfl) Tryz.call229 (by kernel_rfl) (by kernel_rfl) [.fn E164] (uqs (uqs .nil)) fun xs=>by kernel_rfl
def E229:FnE Tryz.prog:=⟨229,sg229,d229,sim229⟩
def d231(p0:List Int)(p1:List Int):Option ua3:=
 (bif decide ((p0.length:Int)≤LIM)then some ()else none).bind fun u=>
 (bif decide ((p1.length:Int)≤LIM)then some ()else none).bind fun ac=>
 bif (decide ((w (((List.take (zar p0) p0).length:Int)+((List.take (zar p1) p1).length:Int)))=(w (((List.take (zar p0) p0).length:Int)+((List.take (zar p1) p1).length:Int))))&&(decide (0≤(w (((List.take (zar p0) p0).length:Int)+((List.take (zar p1) p1).length:Int))))&&decide ((w (((List.take (zar p0) p0).length:Int)+((List.take (zar p1) p1).length:Int)))≤LIM)))then
 (zae (β:=ua3) (fun((h,m,i,n,c):ua3×ua3×ua3×Int×Int)=>
 bif (decide (c<n))then
 bif (decide (0≤c)&&decide (c<(i.length:Int)))then
 (zae (β:=(ua3×ua3×Int×Int×ua3×Int×Int)) (fun((o,e,b,j,k,p,q,s,f,t,a):ua3×ua3×Int×Int×Int×ua3×Int×Int×ua3×Int×Int)=>
 bif (decide (a<t))then
 bif (decide (0≤a)&&decide (a<(f.length:Int)))then
 bif (decide (0≤(w (b+a)))&&decide ((w (b+a))<(e.length:Int)))then
 bif (decide (0≤(w (b+a)))&&decide ((w (b+a))<(e.length:Int)))then
 some (Sum.inl (o,(List.set e (Int.toNat (w (b+a))) (wu32 (wu64 ((wu64 ((wu64 ((wu64 j)*(wu64 (List.getD f (Int.toNat a) 0))))+(wu64 (List.getD e (Int.toNat (w (b+a))) 0))))+k)))),b,j,(wu64 (Int.fdiv (wu64 ((wu64 ((wu64 ((wu64 j)*(wu64 (List.getD f (Int.toNat a) 0))))+(wu64 (List.getD e (Int.toNat (w (b+a))) 0))))+k)) (2^(min (Int.toNat 32) 64)))),p,q,s,f,t,(w (a+1))))
 else none
 else none
 else none
 else
 some (Sum.inr (o,e,b,k,p,q,s))) (h,m,c,(List.getD i (Int.toNat c) 0),0,i,n,c,h,(h.length:Int),0)).bind fun((g,v,l,x,y,z,aa):ua3×ua3×Int×Int×ua3×Int×Int)=>
 bif (decide (0≤(w (l+(g.length:Int))))&&decide ((w (l+(g.length:Int)))<(v.length:Int)))then
 some (Sum.inl (g,(List.set v (Int.toNat (w (l+(g.length:Int)))) (wu32 x)),y,z,(w (aa+1))))
 else none
 else none
 else
 some (Sum.inr m)) ((List.take (zar p1) p1),(List.replicate (Int.toNat (w (((List.take (zar p0) p0).length:Int)+((List.take (zar p1) p1).length:Int)))) 0),(List.take (zar p0) p0),((List.take (zar p0) p0).length:Int),0)).bind fun(ab:List Int)=>
 (d226 ab).bind fun r=>
 some r
 else none
def sg231:Sig:=⟨[(y99,.bw),(y99,.bw)],[(y99,(.own 169 .sh))]⟩
theorem sim231:Sim Tryz.prog 231 sg231 d231:=uqz Tryz.func231 (zaa rfl) Tryz.call231 (by kernel_rfl) (by kernel_rfl) [.pre zoi,.fn E226] (uqs (uqs (uqs (.seq (uqs (.block (.loop [(1,.v y99 .bw),(5,.v y99 (.own 169 .sh)),(22,.v y99 .bw),(23,uqa),(24,uqa)] [(.brk 0,[(5,.v y99 (.own 169 .sh))])] (uqs (.seq (.cond .nil .nil) (.seq (.block (uqs (uqs (.seq (uqs (.block (.loop [(1,.v y99 .bw),(5,.v y99 (.own 169 .sh)),(6,uqa),(7,.v y169 .sh),(8,.v y12 .sh),(22,.v y99 .bw),(23,uqa),(24,uqa),(29,.v y99 .bw),(30,uqa),(31,uqa)] [(.brk 2,[(1,.v y99 .bw),(5,.v y99 (.own 169 .sh)),(6,uqa),(8,.v y12 .sh),(22,.v y99 .bw),(23,uqa),(24,uqa)])] (uqs (.seq (.cond .nil .nil) (.seq (.block (uqs (uqs (uqs uqr)))) uqr)))))) uqr)))) uqr)))))) (uqs .nil))))) fun xs=>by kernel_rfl
def E231:FnE Tryz.prog:=⟨231,sg231,d231,sim231⟩
def d271(a:List Int)(b:List Int):Option ua3:=
 (bif decide ((a.length:Int)≤LIM)then some ()else none).bind fun u=>
 (bif decide ((b.length:Int)≤LIM)then some ()else none).bind fun m=>
 bif (decide ((w ((bif (decide (((List.take (zar a) a).length:Int)<((List.take (zar b) b).length:Int)))then((List.take (zar b) b).length:Int)else((List.take (zar a) a).length:Int))+1))=(w ((bif (decide (((List.take (zar a) a).length:Int)<((List.take (zar b) b).length:Int)))then((List.take (zar b) b).length:Int)else((List.take (zar a) a).length:Int))+1)))&&(decide (0≤(w ((bif (decide (((List.take (zar a) a).length:Int)<((List.take (zar b) b).length:Int)))then((List.take (zar b) b).length:Int)else((List.take (zar a) a).length:Int))+1)))&&decide ((w ((bif (decide (((List.take (zar a) a).length:Int)<((List.take (zar b) b).length:Int)))then((List.take (zar b) b).length:Int)else((List.take (zar a) a).length:Int))+1))≤LIM)))then
 (zae (β:=(Int×ua3×Int)) (fun((f,g,n,out,carry,h,c):ua3×ua3×Int×ua3×Int×Int×Int)=>
 bif (decide (c<h))then
 (d297 f c).bind fun r=>
 (d297 g c).bind fun i=>
 bif (decide (0≤c)&&decide (c<(out.length:Int)))then
 some (Sum.inl (f,g,n,(List.set out (Int.toNat c) (wu32 (wu64 ((wu64 (r+i))+carry)))),(wu64 (Int.fdiv (wu64 ((wu64 (r+i))+carry)) (2^(min (Int.toNat 32) 64)))),h,(w (c+1))))
 else none
 else
 some (Sum.inr (n,out,carry))) ((List.take (zar a) a),(List.take (zar b) b),(bif (decide (((List.take (zar a) a).length:Int)<((List.take (zar b) b).length:Int)))then((List.take (zar b) b).length:Int)else((List.take (zar a) a).length:Int)),(List.replicate (Int.toNat (w ((bif (decide (((List.take (zar a) a).length:Int)<((List.take (zar b) b).length:Int)))then((List.take (zar b) b).length:Int)else((List.take (zar a) a).length:Int))+1))) 0),0,(bif (decide (((List.take (zar a) a).length:Int)<((List.take (zar b) b).length:Int)))then((List.take (zar b) b).length:Int)else((List.take (zar a) a).length:Int)),0)).bind fun((e,j,k):Int×ua3×Int)=>
 bif (decide (0≤e)&&decide (e<(j.length:Int)))then
 (d226 (List.set j (Int.toNat e) (wu32 k))).bind fun l=>
 some l
 else none
 else none
def sg271:Sig:=⟨[(y99,.bw),(y99,.bw)],[(y99,(.own 169 .sh))]⟩
theorem sim271:Sim Tryz.prog 271 sg271 d271:=uqz Tryz.func271 (zaa rfl) Tryz.call271 (by kernel_rfl) (by kernel_rfl) [.pre zoi,.fn E297,.fn E226] (uqs (uqs (uqs (uqs (uqs (.seq (uqs (.block (.loop [(0,.v y99 .bw),(1,.v y99 .bw),(5,uqa),(6,.v y99 (.own 169 .sh)),(7,.v y12 .sh),(22,uqa),(23,uqa)] [(.brk 0,[(5,uqa),(6,.v y99 (.own 169 .sh)),(7,.v y12 .sh)])] (uqs (.seq (.cond .nil .nil) (.seq (.block (uqs (uqs (uqs uqr)))) uqr)))))) (uqs (uqs .nil)))))))) fun xs=>by kernel_rfl
def E271:FnE Tryz.prog:=⟨271,sg271,d271,sim271⟩
def d272(a:List Int)(b:List Int):Option (ua3×Bool):=
 (bif decide ((a.length:Int)≤LIM)then some ()else none).bind fun u=>
 (bif decide ((b.length:Int)≤LIM)then some ()else none).bind fun l=>
 (d265 (List.take (zar a) a) (List.take (zar b) b)).bind fun r=>
 bif (decide (r<0))then
 some ([],false)
 else
 bif (decide (((List.take (zar a) a).length:Int)=((List.take (zar a) a).length:Int))&&(decide (0≤((List.take (zar a) a).length:Int))&&decide (((List.take (zar a) a).length:Int)≤LIM)))then
 (zae (β:=ua3) (fun((e,f,out,borrow,g,c):ua3×ua3×ua3×Int×Int×Int)=>
 bif (decide (c<g))then
 (d297 e c).bind fun h=>
 (d297 f c).bind fun i=>
 bif (decide (0≤c)&&decide (c<(out.length:Int)))then
 some (Sum.inl (e,f,(List.set out (Int.toNat c) (wu32 (wu64 ((wu64 ((wu64 (4294967296+h))-i))-borrow)))),(wu64 (1-(wu64 (Int.fdiv (wu64 ((wu64 ((wu64 (4294967296+h))-i))-borrow)) (2^(min (Int.toNat 32) 64)))))),g,(w (c+1))))
 else none
 else
 some (Sum.inr out)) ((List.take (zar a) a),(List.take (zar b) b),(List.replicate (Int.toNat ((List.take (zar a) a).length:Int)) 0),0,((List.take (zar a) a).length:Int),0)).bind fun(j:List Int)=>
 (d226 j).bind fun k=>
 some (k,true)
 else none
def sg272:Sig:=⟨[(y99,.bw),(y99,.bw)],[(y99,.sh),(y4,.sh)]⟩
theorem sim272:Sim Tryz.prog 272 sg272 d272:=uqz Tryz.func272 (zaa rfl) Tryz.call272 (by kernel_rfl) (by kernel_rfl) [.pre zoi,.fn E265,.fn E297,.fn E226] (.post (uqs (uqs (.seq (uqs (.cond (uqs .nil) .nil)) (uqs (uqs (.seq (uqs (.block (.loop [(0,.v y99 .bw),(1,.v y99 .bw),(6,.v y99 (.own 169 .sh)),(7,.v y12 .sh),(22,uqa),(23,uqa)] [(.brk 0,[(6,.v y99 (.own 169 .sh))])] (uqs (.seq (.cond .nil .nil) (.seq (.block (uqs (uqs (uqs uqr)))) uqr)))))) (uqs .nil))))))) [(4,[])]) fun xs=>by kernel_rfl
def E272:FnE Tryz.prog:=⟨272,sg272,d272,sim272⟩
def d230(aNeg:Bool)(a:List Int)(bNeg:Bool)(b:List Int):Option (Bool×ua3):=
 bif (aNeg == bNeg)then
 (d271 a b).bind fun r=>
 some (aNeg,r)
 else
 (d272 a b).bind fun c=>
 bif c.2 then
 some (aNeg,c.1)
 else
 (d272 b a).bind fun e=>
 some (bNeg,e.1)
def sg230:Sig:=⟨[(y4,.sh),(y99,.bw),(y4,.sh),(y99,.bw)],[(y4,.sh),(y99,.sh)]⟩
theorem sim230:Sim Tryz.prog 230 sg230 d230:=uqz Tryz.func230 (zaa rfl) Tryz.call230 (by kernel_rfl) (by kernel_rfl) [.fn E271,.fn E272] (.post (uqs (.seq (uqs (.cond (uqs .nil) .nil)) (.seq (.seq (.reg [] [{},{},{},{fl:=1}]) (uqs (.cond (uqs .nil) .nil))) (.seq (.reg [] [{},{},{},{fl:=1}]) (uqs .nil))))) [(9,[])]) fun xs=>by kernel_rfl
def E230:FnE Tryz.prog:=⟨230,sg230,d230,sim230⟩
def d175(a:ua1)(b:ua1):Option ua1:=
 (d229 a).bind fun r=>
 (d229 b).bind fun c=>
 (d231 r.2.1 c.2.2).bind fun f=>
 (d231 c.2.1 r.2.2).bind fun g=>
 (d230 r.1 f c.1 g).bind fun e=>
 (d231 r.2.2 c.2.2).bind fun h=>
 (d164 e.1 e.2 h).bind fun i=>
 some i
def sg175:Sig:=⟨[(y101,.bw),(y101,.bw)],[(y101,.sh)]⟩
theorem sim175:Sim Tryz.prog 175 sg175 d175:=uqz Tryz.func175 (zaa rfl) Tryz.call175 (by kernel_rfl) (by kernel_rfl) [.fn E229,.fn E231,.fn E230,.fn E164] (uqs (uqs (.seq (.reg [] [{},{},{},{},{},{},{},{},{},{},{},{},{},{},{},{fl:=1}]) (uqs .nil)))) fun xs=>by kernel_rfl
def E175:FnE Tryz.prog:=⟨175,sg175,d175,sim175⟩
def d169(a:ua1)(b:ua1):Option ua1:=
 (d175 a (!b.1,b.2)).bind fun r=>
 some r
def sg169:Sig:=⟨[(y101,.bw),(y101,.bw)],[(y101,.sh)]⟩
theorem sim169:Sim Tryz.prog 169 sg169 d169:=uqz Tryz.func169 (zaa rfl) Tryz.call169 (by kernel_rfl) (by kernel_rfl) [.fn E175] (uqs (uqs (uqs .nil))) fun xs=>by kernel_rfl
def E169:FnE Tryz.prog:=⟨169,sg169,d169,sim169⟩
def d174(a:ua1)(b:ua1):Option Int:=
 (d169 a b).bind fun r=>
 bif r.1 then
 some (-1)
 else
 bif (decide ((r.2.1.length:Int)=0))then
 some 0
 else
 some 1
def sg174:Sig:=⟨[(y101,.bw),(y101,.bw)],[(y2,.sh)]⟩
theorem sim174:Sim Tryz.prog 174 sg174 d174:=uqz Tryz.func174 (zaa rfl) Tryz.call174 (by kernel_rfl) (by kernel_rfl) [.fn E169] (uqs (uqs (.seq (.block (uqs (.cond (uqs .nil) (uqs (.cond (uqs .nil) .nil))))) (uqs .nil)))) fun xs=>by kernel_rfl
def E174:FnE Tryz.prog:=⟨174,sg174,d174,sim174⟩
def d235(a:List Int)(b:List Int):Option Bool:=
 bif !(decide ((a.length:Int)=(b.length:Int)))then
  some false
 else
  (zae (β:=Unit⊕Bool) (fun((c,e,i):ua3×ua3×Int)=>
    bif (decide (i<(c.length:Int)))then
     bif (decide (0≤i)&&decide (i<(c.length:Int)))then
      bif (decide (0≤i)&&decide (i<(e.length:Int)))then
       bif !(decide ((List.getD c (Int.toNat i) 0)=(List.getD e (Int.toNat i) 0)))then
        some (Sum.inr (Sum.inr false))
       else
        some (Sum.inl (c,e,(w (i+1))))
      else none
     else none
    else
     some (Sum.inr (Sum.inl ()))) (a,b,0)).bind fun
  |Sum.inl _=>
   some true
  |Sum.inr f=>
   some f
def sg235:Sig:=⟨[(y99,.bw),(y99,.bw)],[(y4,.sh)]⟩
theorem sim235:Sim Tryz.prog 235 sg235 d235:=uqz Tryz.func235 (zaa rfl) Tryz.call235 (by kernel_rfl) (by kernel_rfl) [] (uqs (.seq (uqs (.cond (uqs .nil) .nil)) (.seq (uqs (.block (.loop [(0,.v y99 .bw),(1,.v y99 .bw),(5,uqa)] [(.brk 0,[]),(.ret,[(4,uqc)])] (.seq (uqs (.cond .nil .nil)) (.seq (.block (uqs (.cond (uqs .nil) .nil))) uqr))))) (uqs .nil)))) fun xs=>by kernel_rfl
def E235:FnE Tryz.prog:=⟨235,sg235,d235,sim235⟩
def d179(a:ua1)(b:ua1):Option Bool:=
 bif (a.1 == b.1)then
 (d235 a.2.1 b.2.1).bind fun r=>
 bif r then
 (d235 a.2.2 b.2.2).bind fun c=>
 some c
 else
 some false
 else
 some false
def sg179:Sig:=⟨[(y101,.bw),(y101,.bw)],[(y4,.sh)]⟩
theorem sim179:Sim Tryz.prog 179 sg179 d179:=uqz Tryz.func179 (zaa rfl) Tryz.call179 (by kernel_rfl) (by kernel_rfl) [.fn E235] (uqs (uqs .nil)) fun xs=>by kernel_rfl
def E179:FnE Tryz.prog:=⟨179,sg179,d179,sim179⟩
def d249(a:List Int):Option ua2:=
 (zae (β:=ua2) (fun((g,b,i):ua3×ua2×Int)=>
 bif (decide (i<(g.length:Int)))then
 (zae (β:=(ua3×ua2×Int)) (fun((e,f,c,k):ua3×ua2×Int×Int)=>
 bif (decide (k<32))then
 bif (decide (0≤c)&&decide (c<(e.length:Int)))then
 bif (decide (0≤k))then
 bif (decide ((f.length:Int)+(([(decide ((wu32 ((BitVec.ofInt 32 (wu32 (Int.fdiv (List.getD e (Int.toNat c) 0) (2^(min (Int.toNat k) 32))))&&&BitVec.ofInt 32 1).toNat:Int))=1))]:List Bool).length:Int)≤LIM))then
 some (Sum.inl (e,(f++[(decide ((wu32 ((BitVec.ofInt 32 (wu32 (Int.fdiv (List.getD e (Int.toNat c) 0) (2^(min (Int.toNat k) 32))))&&&BitVec.ofInt 32 1).toNat:Int))=1))]),c,(wu64 (k+1))))
 else none
 else none
 else none
 else
 some (Sum.inr (e,f,c))) (g,b,i,0)).bind fun((h,j,l):ua3×ua2×Int)=>
 some (Sum.inl (h,j,(w (l+1))))
 else
 some (Sum.inr b)) (a,[],0)).bind fun(m:List Bool)=>
 (d189 m).bind fun r=>
 some r
def d187(n:Int):Option ua2:=
 (d249 [(wu32 n),(wu32 (wu64 (Int.fdiv n (2^(min (Int.toNat 32) 64)))))]).bind fun r=>
 some r
def d250(b:List Bool):Option ua3:=
 (d189 b).bind fun r=>
 bif (decide ((w (Int.tdiv (w ((r.length:Int)+31)) 32))=(w (Int.tdiv (w ((r.length:Int)+31)) 32)))&&(decide (0≤(w (Int.tdiv (w ((r.length:Int)+31)) 32)))&&decide ((w (Int.tdiv (w ((r.length:Int)+31)) 32))≤LIM)))then
 (zae (β:=ua3) (fun((c,a,i):ua2×ua3×Int)=>
 bif (decide (i<(c.length:Int)))then
 letJ (fun((f,g,h):ua2×ua3×Int)=>
 some (Sum.inl (f,g,(w (h+1))))) fun e=>
 bif (decide (0≤i)&&decide (i<(c.length:Int)))then
 bif (List.getD c (Int.toNat i) false)then
 bif (decide (0≤(w (Int.tdiv i 32)))&&decide ((w (Int.tdiv i 32))<(a.length:Int)))then
 bif (decide (0≤(wu64 (w (Int.tmod i 32)))))then
 bif (decide (0≤(w (Int.tdiv i 32)))&&decide ((w (Int.tdiv i 32))<(a.length:Int)))then
 e (c,(List.set a (Int.toNat (w (Int.tdiv i 32))) (wu32 ((BitVec.ofInt 32 (List.getD a (Int.toNat (w (Int.tdiv i 32))) 0)|||BitVec.ofInt 32 (wu32 (1*2^(min (Int.toNat (wu64 (w (Int.tmod i 32)))) 32)))).toNat:Int))),i)
 else none
 else none
 else none
 else
 e (c,a,i)
 else none
 else
 some (Sum.inr a)) (r,(List.replicate (Int.toNat (w (Int.tdiv (w ((r.length:Int)+31)) 32))) 0),0)).bind fun(j:List Int)=>
 some j
 else none
def d190(r:ua0):Option ua1:=
 (d250 r.2.1).bind fun a=>
 (d250 r.2.2).bind fun b=>
 some (r.1,a,b)
def d281(n:Int):Option ua2:=
 (zae (β:=ua2) (fun((a,b):Int×ua2)=>
 bif (decide (0<a))then
 bif (decide ((b.length:Int)+(([(decide ((w (Int.tmod a 2))=1))]:List Bool).length:Int)≤LIM))then
 some (Sum.inl ((w (Int.tdiv a 2)),(b++[(decide ((w (Int.tmod a 2))=1))])))
 else none
 else
 some (Sum.inr b)) (n,[])).bind fun(c:List Bool)=>
 some c
def d283(a:List Bool)(b:List Bool):Option (ua2×ua2):=
 bif (decide ((a.length:Int)=(a.length:Int))&&(decide (0≤(a.length:Int))&&decide ((a.length:Int)≤LIM)))then
 (zae (β:=(ua2×ua2)) (fun((c,e,q,r,i):ua2×ua2×ua2×ua2×Int)=>
 bif (decide (0≤i))then
 letJ (fun((h,j,k,l,m):ua2×ua2×ua2×ua2×Int)=>
 some (Sum.inl (h,j,k,l,(w (m-1))))) fun g=>
 bif (decide (0≤i)&&decide (i<(c.length:Int)))then
 bif (decide ((([(List.getD c (Int.toNat i) false)]:List Bool).length:Int)+(r.length:Int)≤LIM))then
 (d189 ([(List.getD c (Int.toNat i) false)]++r)).bind fun f=>
 (d121 f e).bind fun n=>
 bif (decide (0≤n))then
 (d122 f e).bind fun o=>
 bif (decide (0≤i)&&decide (i<(q.length:Int)))then
 g (c,e,(List.set q (Int.toNat i) true),o,i)
 else none
 else
 g (c,e,q,f,i)
 else none
 else none
 else
 some (Sum.inr (q,r))) (a,b,(List.replicate (Int.toNat (a.length:Int)) false),[],(w ((a.length:Int)-1)))).bind fun((p,s):ua2×ua2)=>
 (d189 p).bind fun t=>
 some (t,s)
 else none
def d282(a:List Bool)(b:List Bool):Option ua2:=
 (zae (β:=ua2) (fun((e,c):ua2×ua2)=>
 bif (decide (0<(c.length:Int)))then
 (d283 e c).bind fun r=>
 some (Sum.inl (c,r.2))
 else
 some (Sum.inr e)) (a,b)).bind fun(f:List Bool)=>
 (d189 f).bind fun g=>
 some g
def d251(neg:Bool)(n:List Bool)(d:List Bool):Option ua0:=
 letJ (fun((f,a,b,j,g):Bool×ua2×ua2×ua0×Bool)=>
 bif g then
 (d281 1).bind fun r=>
 some (false,[],r)
 else
 (d282 a b).bind fun c=>
 (d283 a c).bind fun h=>
 (d283 b c).bind fun i=>
 some (f,h.1,i.1)) fun e=>
 bif !(decide ((n.length:Int)=0))then
 e (neg,n,d,(false,[],[]),(decide ((d.length:Int)=0)))
 else
 e (neg,n,d,(false,[],[]),true)
def d191(a:ua0)(b:ua0):Option ua0:=
 (d118 a.2.1 b.2.2).bind fun r=>
 (d118 a.2.2 b.2.1).bind fun c=>
 (d251 (!(a.1 == b.1)) r c).bind fun e=>
 some e
def d205(r:ua1):Option ua0:=
 (d249 r.2.1).bind fun a=>
 (d249 r.2.2).bind fun b=>
 (d251 r.1 a b).bind fun c=>
 some c
def d227(a:ua1)(b:ua1):Option ua1:=
 (d231 a.2.1 b.2.1).bind fun r=>
 (d231 a.2.2 b.2.2).bind fun c=>
 (d164 (!(a.1 == b.1)) r c).bind fun e=>
 some e
def sg227:Sig:=⟨[(y101,.bw),(y101,.bw)],[(y101,.sh)]⟩
theorem sim227:Sim Tryz.prog 227 sg227 d227:=uqz Tryz.func227 (zaa rfl) Tryz.call227 (by kernel_rfl) (by kernel_rfl) [.fn E231,.fn E164] (uqs (uqs .nil)) fun xs=>by kernel_rfl
def E227:FnE Tryz.prog:=⟨227,sg227,d227,sim227⟩
def d233(a:ua1)(b:ua1):Option (ua1×Bool):=
 (d229 a).bind fun r=>
 (d229 b).bind fun c=>
 bif (decide ((c.2.1.length:Int)=0))then
 some ((false,[],[]),false)
 else
 (d231 r.2.1 c.2.2).bind fun e=>
 (d231 r.2.2 c.2.1).bind fun f=>
 (d164 (!(r.1 == c.1)) e f).bind fun g=>
 some (g,true)
def sg233:Sig:=⟨[(y101,.bw),(y101,.bw)],[(y101,.sh),(y4,.sh)]⟩
theorem sim233:Sim Tryz.prog 233 sg233 d233:=uqz Tryz.func233 (zaa rfl) Tryz.call233 (by kernel_rfl) (by kernel_rfl) [.fn E229,.fn E231,.fn E164] (uqs (uqs (.seq (uqs (.cond (uqs .nil) .nil)) (uqs .nil)))) fun xs=>by kernel_rfl
def E233:FnE Tryz.prog:=⟨233,sg233,d233,sim233⟩
def d284(s1:List Int)(s2:List Int):Option Bool:=
 bif !(decide ((s1.length:Int)=(s2.length:Int)))then
  some false
 else
  (zae (β:=Unit⊕Bool) (fun((b,c,e,a):ua3×ua3×Int×Int)=>
    bif (decide (a<e))then
     bif (decide (0≤a)&&decide (a<(b.length:Int)))then
      bif (decide (0≤a)&&decide (a<(c.length:Int)))then
       bif !(decide ((List.getD b (Int.toNat a) 0)=(List.getD c (Int.toNat a) 0)))then
        some (Sum.inr (Sum.inr false))
       else
        some (Sum.inl (b,c,e,(w (a+1))))
      else none
     else none
    else
     some (Sum.inr (Sum.inl ()))) (s1,s2,(s1.length:Int),0)).bind fun
  |Sum.inl _=>
   some true
  |Sum.inr f=>
   some f
def d252(r:ua1):Option Bool:=
 (d229 r).bind fun a=>
 bif (r.1 == a.1)then
 (d284 r.2.1 a.2.1).bind fun b=>
 bif b then
 (d284 r.2.2 a.2.2).bind fun c=>
 some c
 else
 some false
 else
 some false
def d300(a:ua0):Option ua0:=
 (d251 (!a.1) a.2.1 a.2.2).bind fun r=>
 some r
def d299(a:ua0)(b:ua0):Option ua0:=
 (d118 a.2.1 b.2.2).bind fun r=>
 (d118 b.2.1 a.2.2).bind fun c=>
 (d118 a.2.2 b.2.2).bind fun e=>
 bif (a.1 == b.1)then
 (d120 r c).bind fun f=>
 (d251 a.1 f e).bind fun g=>
 some g
 else
 (d121 r c).bind fun h=>
 bif (decide (0≤h))then
 (d122 r c).bind fun i=>
 (d251 a.1 i e).bind fun j=>
 some j
 else
 (d122 c r).bind fun k=>
 (d251 b.1 k e).bind fun l=>
 some l
def d279(a:ua0)(b:ua0):Option Int:=
 (d300 b).bind fun r=>
 (d299 a r).bind fun c=>
 bif (decide ((c.2.1.length:Int)=0))then
 some 0
 else
 bif c.1 then
 some (-1)
 else
 some 1
end
end Go.Proofs.YtamgmpngdmnadaaGreat
