/- A part of the proof. -/
import Derived.Laws.CopyOwn
import Derived.Deep.RegionLaw
import Derived.Deep.OwnRows
import Derived.Test.YtamgmpngdmnadaaGreatJ11
set_option linter.defProp false
set_option linter.unusedSimpArgs false
set_option linter.unusedVariables false
set_option linter.unnecessarySimpa false
namespace Go.Proofs.YtamgmpngdmnadaaGreat
open Tryz
open Go Go.Proofs Go.RowKit Go.X
section
attribute [local go_sem] Oper.semAt_some
def FrR(g m k:Nat)(a:Act):Prop:=∃(x0 x1 x2 x3 x4 x5 x6 x9 x10 x11 x12 x13 x14 x15 x16 x17 x18 x19 x20 x21 x22 x23 x24 x25 x26 x27 x28 x29 x30 x31 x32 x33 x34 x35 x36 x37 x38 x39 x40 x41 x42 x43 x44 x45 x46 x47:Value),a={tmps:=#[x0,x1,x2,x3,x4,x5,x6,.slice (some ⟨g,0,none⟩) m m,.int .i64 (k:Int),x9,x10,x11,x12,x13,x14,x15,x16,x17,x18,x19,x20,x21,x22,x23,x24,x25,x26,x27,x28,x29,x30,x31,x32,x33,x34,x35,x36,x37,x38,x39,x40,x41,x42,x43,x44,x45,x46,x47],defers:=[]}
def FrR.mk{g m k:Nat}{x0 x1 x2 x3 x4 x5 x6 x9 x10 x11 x12 x13 x14 x15 x16 x17 x18 x19 x20 x21 x22 x23 x24 x25 x26 x27 x28 x29 x30 x31 x32 x33 x34 x35 x36 x37 x38 x39 x40 x41 x42 x43 x44 x45 x46 x47:Value}:FrR g m k {tmps:=#[x0,x1,x2,x3,x4,x5,x6,.slice (some ⟨g,0,none⟩) m m,.int .i64 (k:Int),x9,x10,x11,x12,x13,x14,x15,x16,x17,x18,x19,x20,x21,x22,x23,x24,x25,x26,x27,x28,x29,x30,x31,x32,x33,x34,x35,x36,x37,x38,x39,x40,x41,x42,x43,x44,x45,x46,x47],defers:=[]}:=⟨x0,x1,x2,x3,x4,x5,x6,x9,x10,x11,x12,x13,x14,x15,x16,x17,x18,x19,x20,x21,x22,x23,x24,x25,x26,x27,x28,x29,x30,x31,x32,x33,x34,x35,x36,x37,x38,x39,x40,x41,x42,x43,x44,x45,x46,x47,rfl⟩
def FrR.elim{g m k:Nat}{a:Act}{P:Prop}(h:FrR g m k a)(f:∀(x0 x1 x2 x3 x4 x5 x6 x9 x10 x11 x12 x13 x14 x15 x16 x17 x18 x19 x20 x21 x22 x23 x24 x25 x26 x27 x28 x29 x30 x31 x32 x33 x34 x35 x36 x37 x38 x39 x40 x41 x42 x43 x44 x45 x46 x47:Value),a={tmps:=#[x0,x1,x2,x3,x4,x5,x6,.slice (some ⟨g,0,none⟩) m m,.int .i64 (k:Int),x9,x10,x11,x12,x13,x14,x15,x16,x17,x18,x19,x20,x21,x22,x23,x24,x25,x26,x27,x28,x29,x30,x31,x32,x33,x34,x35,x36,x37,x38,x39,x40,x41,x42,x43,x44,x45,x46,x47],defers:=[]}->P):P:=by obtain⟨x0,x1,x2,x3,x4,x5,x6,x9,x10,x11,x12,x13,x14,x15,x16,x17,x18,x19,x20,x21,x22,x23,x24,x25,x26,x27,x28,x29,x30,x31,x32,x33,x34,x35,x36,x37,x38,x39,x40,x41,x42,x43,x44,x45,x46,x47,e⟩:=h;exact f x0 x1 x2 x3 x4 x5 x6 x9 x10 x11 x12 x13 x14 x15 x16 x17 x18 x19 x20 x21 x22 x23 x24 x25 x26 x27 x28 x29 x30 x31 x32 x33 x34 x35 x36 x37 x38 x39 x40 x41 x42 x43 x44 x45 x46 x47 e
def rw_(m k:Nat)(v:Int):List Value:=List.replicate k (.int .i64 v)++List.replicate (m-k) (.int .i64 0)
def rw_splice{m k d:Nat}(v:Int)(h:k+d<=m):splice (rw_ m k v) k (List.replicate d (.int .i64 v))=rw_ m (k+d) v:=by unfold splice rw_;rw[xbq,List.take_left' (by simp),List.drop_append,xfy (by simp),xdp,xbq,List.drop_replicate,<-xbv,List.replicate_append_replicate];congr 2;omega
def rw_zero(m:Nat)(v:Int):rw_ m 0 v=List.replicate m (.int .i64 0):=by unfold rw_;rw[xir];rfl
def rw_len{m k:Nat}(v:Int)(h:k<=m):(rw_ m k v).length=m:=by unfold rw_;simp;omega
def hsz3:(prog.info? 3).map (·.size)=some 1:=by
 have:=info3;cases hq:prog.info? 3 with
 |none=>rw[hq]at this;cases this
 |some i=>rw[hq]at this;simp only[xch,xaq,xaw]at this;rw[xch,this.2.1]
def make26(m:Nat)(hm:m<=1000)(w:World):(Instr.makeSlice 26 (.int .i64 (m:Int)) (.int .i64 (m:Int))).run prog w=.ok (.slice (some ⟨w.heap.size,0,none⟩) m m) (w.alloc (.cells (rw_ m 0 0).toArray 3)):=by rw[run_make_row' 26 3 (.int .i64 0) 8 underlying26 info3 rfl .i64 .i64 m (by omega) (by omega) w,rw_zero,<-toList_madeCells_one,Array.toArray_toList]
set_option maxRecDepth 100000 in
set_option maxHeartbeats 4000000 in
def repeat_ok(b off c m:Nat)(v:Int)(w:World)(hm:m<=1000)(hc:w.cell? ⟨b,off,none⟩=some (.int .i64 v)) :
  Calls prog 88 #[.slice (some ⟨b,off,none⟩) 1 c,.int .i64 (m:Int)] w λe w'=>∃v',e=.returned v'/\w'.ownsRow w.heap.size 3 1 v' m (List.replicate m (.int .i64 v))/\Below w.heap.size w w':=by
 have ja:∀c:Int,0<=c->c<=4294967296->IntKind.i64.wrap c=c:=λc h0 h1=>IntWalk.i64_in c ⟨by omega,by omega⟩;have hp:∀w',Calls prog 151 #[.int .u64 1,.int .u64 (m:Int)] w' λe w''=>e=.returned (.tuple #[.int .u64 0,.int .u64 (m:Int)])/\w''=w':=λw'=>by
  have h:=Any.bits_Mul Tryz.mul 1 m (by omega) (by omega) w';have e1:1*m/18446744073709551616=0:=by omega
  have e2:1*m%18446744073709551616=m:=by omega
  rw[e1,e2]at h;exact h
 have h6:=make26 m hm;have h8:∀o,(w.alloc o).cell? ⟨b,off,none⟩=some (.int .i64 v):=λo=>Lib.cell?_alloc_some _ hc;have jc:¬(m:Int)<0:=by omega
 have jd:¬(9223372036854775807:Int)<(m:Int):=by omega
 obtain⟨d0,hf⟩:∃d0,d0=Nat.min 1 m:=⟨_,rfl⟩;have hq:d0<=1/\d0<=m/\(0<m->0<d0):=by rw[hf];refine⟨xhu _ _,xjj _ _,λh=>?_⟩;show 0<min 1 m;omega
 obtain⟨X,hX⟩:∃X:List Value,X=List.replicate d0 (Value.int .i64 v):=⟨_,rfl⟩;have hi:X.length=Nat.min 1 m:=by rw[hX,xbq,hf]
 have hl:∀u∈X,u=.int .i64 v:=λu hu=>by rw[hX]at hu;exact xem hu
 have he:splice (rw_ m 0 0) 0 X=rw_ m d0 v:=by rw[rw_zero,<-rw_zero m v,hX,rw_splice v (by omega),xck]
 replace he:Hid (splice (rw_ m 0 0) 0 X=rw_ m d0 v):=he;replace hf:Hid (d0=Nat.min 1 m):=hf;clear hX;go_enter func88,ntmps88;go_upto_region 7 with(go_at_call 151;refine(hp _).mono ?_;rintro e w1 ⟨rfl,hw1⟩;rw[hw1])
 go_wp2_with (refine wpList_copy_splice rfl (.tmp 31) (.tmp 32) 26 26 rfl 3 underlying26 hsz3 _ _ m m 1 c rfl rfl w.heap.size 0 (rw_ m 0 0) 3 ?qc1 X hi ?qc2 ?qc3 ?qc4 w.heap.size w ?qc5 ?qc6 ?_);case qc1=>exact heap_alloc_new w _
 case qc2=>
  intro _ j u hj;have hs:j<X.length:=(xei.1 hj).1;rw[hi,<-hf.out]at hs;obtain rfl:j=0:=by omega
  rw[hl u (xgh hj)];exact h8 _
 case qc3=>
  rw[rw_len 0 (xbx m),hi,<-hf.out];omega
 case qc4=>
  intro u hu;rw[hl u hu];rfl
 case qc5=>exact(Below.refl _ w).alloc (xag _) _
 case qc6=>exact xag _
 intro w2 hw h3;replace hw:Hid (w2.heap[w.heap.size]?=some (Obj.cells (rw_ m d0 v).toArray 3)):=by have:=hw.out;rw[he.out]at this;exact this
 rw[<-hf.out];clear he h6 hi hl;clear hf;go_wp2;refine zkv (R:=λmm a w'=>∃k:Nat,k<=m/\mm=m-k/\(0<m->0<k)/\Hid (w'.heap[w.heap.size]?=some (Obj.cells (rw_ m k v).toArray 3))/\Below w.heap.size w w'/\FrR w.heap.size m k a) (m:=m-d0) ?zfj ?init1;case init1=>exact⟨d0,hq.2.1,rfl,hq.2.2,hw,h3,FrR.mk⟩
 case zfj=>
  rintro mm a w' ⟨k,hk,rfl,hpos,hg,hb,hfr⟩;refine hfr.elim ?_;intro x0 x1 x2 x3 x4 x5 x6 x9 x10 x11 x12 x13 x14 x15 x16 x17 x18 x19 x20 x21 x22 x23 x24 x25 x26 x27 x28 x29 x30 x31 x32 x33 x34 x35 x36 x37 x38 x39 x40 x41 x42 x43 x44 x45 x46 x47 h4;subst h4;rcases xeo k m with hlt|hge
  ·have hy:(k:Int)<(m:Int):=by omega
   obtain⟨d,hd⟩:∃d,d=Nat.min k (m-k):=⟨_,rfl⟩;have hq:d<=k/\d<=m-k/\0<d:=by rw[hd];refine⟨xhu _ _,xjj _ _,?_⟩;show 0<min k (m-k);have:=hpos (by omega);omega
   obtain⟨X,hX⟩:∃X:List Value,X=List.replicate d (Value.int .i64 v):=⟨_,rfl⟩;have hi:X.length=Nat.min k (m-k):=by rw[hX,xbq,hd]
   have ha:X.length=d:=by rw[hX,xbq]
   have hl:∀u∈X,u=.int .i64 v:=λu hu=>by rw[hX]at hu;exact xem hu
   have he:splice (rw_ m k v) k X=rw_ m (k+d) v:=by rw[hX,rw_splice v (by omega)]
   replace he:Hid (splice (rw_ m k v) k X=rw_ m (k+d) v):=he;replace hd:Hid (d=Nat.min k (m-k)):=hd;replace ha:Hid (X.length=d):=ha;clear hX;have hx:=rw_len v hk;have jb:IntKind.i64.wrap ((k:Int)+((Nat.min k (m-k):Nat):Int))=((k+d:Nat):Int):=by rw[<-hd.out,ja _ (by omega) (by omega)];omega
   have k0:(0:Int)<=(k:Int):=by omega
   have k1:(k:Int)<=(m:Int):=by omega
   have k2:¬m=k:=by omega
   have k3:((m:Int)-(k:Int)).toNat=m-k:=by omega
   have ho:w'.drew.heap[w.heap.size]?=some (Obj.cells (rw_ m k v).toArray 3):=hg.out;have hz:Below w.heap.size w w'.drew:=hb.trans ⟨rfl,rfl,rfl,xag _,λ_ _=>rfl⟩;have ht:k+X.length<=(rw_ m k v).length:=by rw[hx,ha.out];omega
   have hv:∀u∈X,u.oneCell'=true:=λu hu=>by rw[hl u hu];rfl
   have hh:∀j u,X[j]?=some u->w'.drew.cell? ((⟨w.heap.size,0,none⟩:Addr).add j)=some u:=λj u hj=>by
    have hs:j<X.length:=(xei.1 hj).1;rw[hl u (xgh hj),Addr.add_lit];rw[ha.out]at hs;have h2:j<k:=by omega
    unfold World.cell?;rw[ho];simp[rw_,List.getElem?_append,h2]
   replace ho:Aside (w'.drew.heap[w.heap.size]?=some (Obj.cells (rw_ m k v).toArray 3)):=ho;replace hh:Aside (∀j u,X[j]?=some u->w'.drew.cell? ((⟨w.heap.size,0,none⟩:Addr).add j)=some u):=hh;go_wp2;go_region_law (refine step_copy_splice rfl (.tmp 41) (.tmp 44) 26 26 rfl 3 underlying26 hsz3 (some ⟨w.heap.size,k,none⟩) (some ⟨w.heap.size,0,none⟩) (m-k) (m-k) k m (by simp[Act.eval,Act.put,k2]) (by simp[Act.eval,Act.put]) w.heap.size k (rw_ m k v) 3 ho.out X hi (λ_=>⟨rfl,_,rfl,hh.out⟩) ht hv w.heap.size w hz (xag _) ?_;intro w4 hr h7);replace hr:Hid (w4.heap[w.heap.size]?=some (Obj.cells (rw_ m (k+d) v).toArray 3)):=by have:=hr.out;rw[he.out]at this;exact this
   go_wp2;exact⟨m-(k+d),by omega,k+d,by omega,rfl,λ_=>by omega,hr,h7,FrR.mk⟩
  ·have h5:¬(k:Int)<(m:Int):=by omega
   have h9:k=m:=by omega
   subst h9;have hn:rw_ k k v=List.replicate k (Value.int .i64 v):=by unfold rw_;rw[xen];simp
   go_wp2;go_ret;exact⟨_,rfl,⟨by simp,.inr ⟨w.heap.size,k,_,rfl,xag _,hg.out,xag _,by unfold maxLen;omega,by simp[hn],by simp[hn]⟩⟩,hb⟩
end
def enters112:zdn prog 88:=enters_of func88 (by kernel_rfl) rfl
noncomputable def d88 (xs:List Int) (n:Int):Option (List Int):=bif decide (xs.length=1)&&(decide (0<=n)&&decide (n<=1000))then some (List.replicate n.toNat (xs.getD 0 0))else none
def sg88:Sig:=⟨[(y26,.bw),(y3,.sh)],[(y26,.own 3 .sh)]⟩
def sim88:Sim prog 88 sg88 d88:=by
 refine⟨enters112,λxs y hy S hS vs hvs hargs=>?_⟩;have hd:d88 xs.1 xs.2.1=some y:=hy;obtain⟨xs,n,u⟩:=xs;simp only at hd;obtain⟨z,hz,h9,jh,hn⟩:∃z:Int,(xs:List Int)=[z]/\0<=n/\n<=1000/\List.replicate n.toNat z=y:=by
  unfold d88 at hd;cases hq:(decide ((xs:List Int).length=1)&&(decide (0<=(n:Int))&&decide ((n:Int)<=1000)))with
  |false=>rw[hq]at hd;cases hd
  |true=>rw[hq]at hd;rw[xal,xal,xak,xak,xak]at hq;obtain⟨z,hz⟩:=xcw.1 hq.1;have h2:=xbi hd;rw[hz]at h2;exact⟨z,hz,hq.2.1,hq.2.2,h2⟩
 obtain⟨v,hv,hr⟩:=hargs 0 ⟨y26,.bw,xs⟩ rfl;obtain⟨v2,jf,hp⟩:=hargs 1 ⟨y3,.sh,n⟩ rfl;have hl:vs.length=2:=hvs;obtain⟨v',v2',rfl⟩:∃a b,vs=[a,b]:=by
  match vs,hl with
  | [a,b],_=>exact⟨a,b,rfl⟩
 have e1:v'=v:=by simpa using hv
 have e2:v2'=v2:=by simpa using jf
 subst e1 e2;dsimp only at hr hp;obtain⟨jj,_,A,len,cap,h0,rfl,h8,h3⟩:=hr.1;have je:v'=.slice A (xs:List Int).length cap:=by simpa[zab,Ty.agg]using h0
 subst je;have ja:zab (.int .i64) v2' 0=some v2':=by simp[zab,Ty.agg]
 obtain⟨q1,q2⟩:=hp.1;rw[ja]at q1;have q1':v2'=.int .i64 n:=by injection q1
 subst q1';obtain⟨b,o,hA,jg,jb⟩:∃b o,A=some ⟨b,o,none⟩/\IntKind.i64.wrap z=z/\S.w.cell? ⟨b,o,none⟩=some (.int .i64 z):=by
  rcases h3 with⟨h3,_⟩|⟨b,o,hA,hx,h4⟩
  ·exfalso;rw[hz]at h3;cases h3
  ·refine⟨b,o,hA,?_,?_⟩;·have:=(h4 0 (by rw[hz];simp)).2;simpa[hz]using this
   ·have:=(h4 0 (by rw[hz];simp)).1;simpa[blk,Ty.size,hz]using this
 subst hA;obtain⟨m,rfl⟩:∃m:Nat,n=(m:Int):=⟨Int.toNat n,(xho h9).symm⟩;rw[xam]at hn;have hg:(xs:List Int).length=1:=by rw[hz];rfl
 have hc:m<=1000:=by have:(m:Int)<=1000:=jh;omega
 have he:=repeat_ok b o cap m z S.w hc jb;rw[hg];refine Calls.mono he λe w' ⟨r,hr,ho,hb⟩=>?_;subst hr;obtain⟨ys,jc⟩:∃ys:List Int,ys=y:=⟨y,rfl⟩;subst jc;have hj:ys.length=m:=by rw[<-hn,xbq]
 have hk:∀u∈ys,u=z:=by rw[<-hn];exact λu=>xem
 have hu:∀(i:Nat) (hi:i<ys.length),ys[i]=z:=λi hi=>hk _ (xbf hi);obtain⟨ji,hs⟩:=ho;let S':St:={S with w:=w',own:=λb=>if r.ownBlock=some b then some (0,[0])else S.own b,hv:=λz=>if z=(0,[0])then r else S.hv z};have ht:S'.hv (0,[0])=r:=by show(if((0,[0]):Go.X.Place)=(0,[0])then r else S.hv (0,[0]))=r;simp
 have ha:∀b,r.ownBlock=some b->S.w.heap.size<=b/\b<w'.heap.size:=λb hbb=>by
  rcases hs with⟨h1,_⟩|⟨g,c,cur,h1,h2,h3,_⟩
  ·rw[h1]at hbb;cases hbb
  ·rw[h1]at hbb;cases hbb;exact⟨h2,(xbm.1 h3).1⟩
 have hf:∀b,b<S.w.heap.size->S'.own b=S.own b:=λb hlt=>if_neg λhh=>absurd (ha b hh).1 (by omega);have jd:Frm S S':=by
  refine⟨λ_ h=>h,rfl,λb hb'=>?_,λb hb'=>?_,λb p hb'=>?_,hb.os,hb.tape,hb.output,hb.size,λb hlt _=>hb.block b hlt⟩;·exact⟨(hf b (hS.shared b hb').2).trans (hS.shared b hb').1,xav (hS.shared b hb').2 hb.size,.inl hb'⟩
  ·exact(hf b (hS.borrowed b hb').2).trans (hS.borrowed b hb').1
  ·have hm:(if r.ownBlock=some b then some (0,[0])else S.own b)=some p:=hb';split at hm;·rename_i hh;exact⟨(ha b hh).2,.inl (ha b hh).1⟩
   ·exact⟨xav (hS.owned b p hm) hb.size,.inr (by rw[hm];simp)⟩
 refine⟨r,S',rfl,rfl,jd,⟨⟨?_,by simp[Ty.size],?_,?_⟩,λh=>by cases h⟩,λq e hq=>by cases hq⟩
 ·show ys.length<=_;rw[hj];have:1000<=zpf:=by unfold zpf;omega
  omega
 ·rw[ht];simp[zab,Ty.agg]
 ·rw[ht];rcases hs with⟨h1,h2⟩|⟨g,c,cur,h1,h2,h3,h4,h5,h6,h7⟩
  ·exact .inl ⟨h1,by have:=hj;rw[h2]at this;exact xef this⟩
  ·rw[<-hj]at h1 h4;refine .inr ⟨g,c,cur,h1,if_pos (by rw[h1];rfl),h3,h4,h5,by simpa[Ty.size]using h6,λi hi=>⟨?_,by show IntKind.i64.wrap (ys[i]'hi)=ys[i]'hi;rw[hu i hi];exact jg⟩⟩
   have hw:i<m:=by rw[<-hj];exact hi
   have:=xbr (λl=>l[i]?) h7;simp only[xea,xdv,hw,if_true,xhv,xbe]at this;have e0:i*Ty.size (.int .i64)+0=i:=by simp[Ty.size]
   show cur[i*Ty.size (.int .i64)+0]?=some (.int .i64 (ys[i]'hi));rw[e0,hu i hi];exact this
noncomputable def E88:FnE prog:=⟨88,sg88,d88,sim88⟩
end Go.Proofs.YtamgmpngdmnadaaGreat
open Go Go.Proofs Go.X
namespace Go.Proofs.YtamgmpngdmnadaaGreat
open Tryz
set_option maxRecDepth 100000
noncomputable section
abbrev uqs(p:Plan):Plan:=.seq (.reg [] []) p
def uqn{a b:Nat}(h:Nat.ble a b=true):a<=b:=Nat.le_of_ble_eq_true h
abbrev uqa:JE:=.v y2 .sh
abbrev uqb:JE:=.v y26 .bw
abbrev uqc:JE:=.v y4 .sh
abbrev uqd:JE:=.v y26 (.own 3 .sh)
abbrev uqe:JE:=.v y25 .bw
abbrev uqf:JE:=.v y26 .sh
abbrev uqr:Plan:=.reg [] []
def uqz{f:FuncId}{fn:Func}{code:Code}{sg:Sig}{den:Arr (zft sg.ps) (Option (Ret sg.res))}(hf:prog.funcs[f]?=some fn)(hb:fn.body=some code)(hc:zdn prog f)(hl:Nat.ble sg.ps.length fn.ntmps=true)(ho:zgn fn.ntmps (ioKs 0 sg.ps) code=true)(FT:List (TgE prog))(pl:Plan)(h:∀xs,evF tab FT sg fn.results.toList code pl xs=app _ den xs):Sim prog f sg den:=zeg zuo zic hf hb hc (uqn hl) ho pl den λxs y e=>(h xs).trans e
def uqy(f:FuncId)(sg:Sig)(den:Arr (zft sg.ps) (Option (Ret sg.res))){fn:Func}{code:Code}(hf:prog.funcs[f]?=some fn)(hc:zdn prog f)(FT:List (TgE prog))(pl:Plan)(hb:fn.body=some code:=by exact zca rfl)(hl:Nat.ble sg.ps.length fn.ntmps=true:=by kernel_rfl)(ho:zgn fn.ntmps (ioKs 0 sg.ps) code=true:=by kernel_rfl)(h:∀xs,evF tab FT sg fn.results.toList code pl xs=app _ den xs:=by intro xs;kernel_rfl):FnE prog:=⟨f,sg,den,uqz hf hb hc hl ho FT pl h⟩
def uqk(n:Nat)(l:List An):List An:=List.replicate (α:=An) n {}++l
def zfh:Plan:=(.cond .nil .nil)
def zds:Plan:=(uqs .nil)
def zut:Plan:=(.cond zds .nil)
def zkd:Md:=(.own 0 .sh)
def umak:Md:=(.own 169 .sh)
def zkl:Plan:=(uqs zut)
def zxi:Plan:=(.reg [] [{fl:=2}])
def zun:Md:=(.own 77 .sh)
def zfy:Plan:=(uqs zds)
def zmk:Md:=(.own 3 .sh)
def umae:Md:=(.own 0 (.pr .sh (.pr .sh (.pr .sh (.pr .sh (.pr .sh (.pr zmk (.pr .sh .sh))))))))
def uman:Md:=(.own 101 .sh)
def uxaa:List (XK×JS):=[(.brk 0,[]),(.ret,[(4,uqc)])]
def upaj:Plan:=(uqs (.seq zfh (.seq (.block (uqs zkl)) uqr)))
def umap:Md:=(.own 0 .bw)
def ujad:Nat×JE:=(5,.v (.ptr y101) zkd)
def upam:Plan:=(.seq zkl zds)
def upan:Plan:=(.reg [] [{},{},{fl:=12}])
def ujaf:Nat×JE:=(6,.v (.ptr y36) zkd)
def upao:Plan:=(.reg [] [{},{},{},{fl:=1}])
def zmz:Nat×JE:=(10,uqa)
def upap:Plan:=(.seq (.block uqr) uqr)
def ujaj:Nat×JE:=(6,.v y99 umak)
def zxh:Plan:=(uqs zfh)
def ujal:Nat×JE:=(1,.v y194 umae)
def ujam:Nat×JE:=(3,.v y97 uman)
def umaq:Md:=(.own 97 .sh)
def ujan:Nat×JE:=(1,.v y99 .bw)
def upar:Plan:=(.seq zxh (.seq (.block zkl) uqr))
def upas:Plan:=(.reg [] [{},{},{fl:=1}])
def ujap:Nat×JE:=(2,.v y64 .bw)
def ujaq:Nat×JE:=(10,.v (.ptr y36) (.own 0 (.pr .sh (.pr .sh (.pr .sh (.pr .sh (.pr (.own 103 .sh) .sh)))))))
def upat:Plan:=(uqs uqr)
def upad:Plan:=(uqs (.seq zfh (.seq (.block upat) uqr)))
def ujar:Nat×JE:=(13,uqa)
def ujas:Nat×JE:=(0,.v y99 .bw)
def ujat:Nat×JE:=(1,.v y64 .sh)
def ujau:Nat×JE:=(5,.v y99 umak)
def ujav:Nat×JE:=(0,.v y64 zun)
def upav:Plan:=(.seq (.reg [] (uqk 5 [{fl:=1}])) zds)
def ulae:JS:=[(3,.v (.ptr y49) umap),(4,uqd),(5,uqa),(20,.v y64 .bw),(21,uqa),(22,uqa)]
def ujaw:Nat×JE:=(5,.v (.ptr y23) umap)
def ujax:Nat×JE:=(1,.v (.ptr y36) zkd)
def upaw:Plan:=(.block (uqs (uqs (.cond upat .nil))))
def ujay:Nat×JE:=(11,uqa)
def ujaz:Nat×JE:=(12,uqa)
def umat:Md:=(.pr .sh (.pr .sh (.pr .sh (.pr .sh (.pr (.own 103 .sh) zmk)))))
def umaa:Md:=(.own 0 (.pr .sh (.pr .sh (.pr .sh (.pr .sh (.pr (.own 140 .sh) (.pr zmk (.pr uman (.pr .sh (.pr umaq umat))))))))))
def umac:Md:=(.own 0 (.pr .sh (.pr .sh (.pr .sh (.pr .sh (.pr zmk (.pr zmk (.pr .sh (.pr umaq (.pr .sh (.pr .sh umat)))))))))))
def ujac:Nat×JE:=(0,.v y134 umaa)
def ujae:Nat×JE:=(0,.v y130 umac)
def ujba:Nat×JE:=(10,.v y134 umaa)
def ulak:JS:=[(1,.v y97 .sh),(2,uqc),(7,uqd),(9,uqa),zmz,(11,uqb),ujaz,ujar]
def umau:Md:=(.pr .sh (.pr .sh (.pr .sh .sh)))
def umah:Md:=(.pr .sh (.pr .sh (.pr .sh umau)))
def ujah:Nat×JE:=(6,.v y194 (.own 0 (.pr .sh (.pr uman umau))))
def umar:Md:=(.own 0 umah)
def ulai:JS:=[(10,.v (.ptr y23) zkd),(11,.v (.ptr y23) (.own 0 (.pr .sh umah)))]
def upax:Plan:=(.reg [] [{fl:=50031110100101}])
def upay:Plan:=(uqs (.cond zds zkl))
def ujbd:Nat×JE:=(3,.v (.ptr y170) zkd)
def upaz:Plan:=(uqs upam)
def upba:Plan:=(uqs (.seq zfh upap))
def upbb:Plan:=(.reg [(2,[0,1,1,1,1,1,0])] [])
def ujbe:Nat×JE:=(0,.v y99 umak)
def upbc:Plan:=(.reg [] (uqk 15 [{fl:=1}]))
def ujbf:Nat×JE:=(8,.v (.ptr y26) umap)
def ulan:JS:=[ujac,ujal,(3,uqc),(9,uqd),(15,uqf),(16,uqa),(17,uqa)]
def ulao:JS:=[ujac,(1,uqa),ujad,ujaz,ujar]
def ujbg:Nat×JE:=(7,.v (.ptr y36) zkd)
def ulap:JS:=[(0,uqa),ujap,(3,uqb),ujaw,(9,uqa),(10,uqc),(40,uqc)]
def upbd:Plan:=(.reg [] (uqk 6 [{fl:=1}]))
def umav:Md:=(.own 4 .sh)
def umab:Md:=(.pr .sh (.pr .sh (.pr .sh (.pr umav (.pr umav (.pr .sh umaq))))))
def umag:Md:=(.own 0 (.pr umab (.pr .sh (.pr zmk (.pr .sh (.pr .sh .sh))))))
def umaj:Md:=(.own 0 (.pr .sh (.pr .sh (.pr .sh (.pr umav umaq)))))
def umao:Md:=(.own 0 (.pr umab .sh))
def ujab:Nat×JE:=(0,.v y178 umag)
def ujbc:Nat×JE:=(0,.v y175 umao)
def ulaq:JS:=[(0,.v y116 umaj),(1,uqf),(5,uqd),(9,uqd),zmz,ujay]
def ujbh:Nat×JE:=(10,.v y194 umae)
def ular:JS:=[(1,.v y97 .sh),(2,uqc),(7,uqd),(11,uqb),ujaz,ujar]
def ujbi:Nat×JE:=(1,.v y99 .sh)
def ujbj:Nat×JE:=(8,.v y12 .sh)
def ulah:JS:=[ujbe,ujbi,(5,uqa),ujaj,(7,uqa),ujbj]
def umaw:Md:=(.own 26 .sh)
def umad:Md:=(.own 0 (.pr umab (.pr .sh (.pr umav (.pr umav (.pr uman (.pr umaw uman)))))))
def ujak:Nat×JE:=(0,.v y181 umad)
def ulab:JS:=[ujak,(1,uqa),(3,.rbox 0 [0]),(5,.v (.ptr y101) umap),(12,.view 0 [0,1,1,1,1,1,0]),ujar,(14,uqa)]
def ujao:Nat×JE:=(7,.v y48 umaw)
def umas:Md:=(.pr umao (.pr umag (.pr umad .sh)))
def ujbk:Nat×JE:=(6,.v y194 zkd)
def ulaa:JS:=[ujax,ujbd,(4,uqd),ujbk,(15,.v y35 .sh),(16,uqa),(17,uqa),(30,.v y48 umaw),(31,uqa),(32,uqa)]
def ulas:JS:=[(0,uqd),(1,uqa),(2,uqa),(3,.v y29 .bw),(8,uqa)]
def ujbl:Nat×JE:=(7,.refi 0 [0,1,1,1,1,0] [])
def ujbm:Nat×JE:=(3,.v y194 umae)
def ulat:JS:=[ujav,(3,.v y64 zun),(9,.view 0 []),zmz,ujay]
def uxab:List (XK×JS):=[(.brk 0,[]),(.ret,[(4,uqa)])]
def ulau:JS:=[ujav,(1,uqa),(2,uqa),(3,.v y188 .bw),(8,uqa)]
def upbe:Plan:=(.cond uqr uqr)
def ujbn:Nat×JE:=(10,.v y12 .sh)
def ujbo:Nat×JE:=(0,.v y134 .bw)
def ulam:JS:=[ujbo,ujam,(24,.v y136 .bw),(25,uqa),(26,uqa)]
def ujbp:Nat×JE:=(7,.v y64 zun)
def ulal:JS:=[(0,.v y64 .sh),(1,uqf),(2,uqa),ujbp,(8,uqc),(9,uqa)]
def umax:Md:=(.pr .sh (.pr .sh (.pr .sh (.pr zmk .sh))))
def umaf:Md:=(.own 0 (.pr .sh (.pr .sh umax)))
def ujaa:Nat×JE:=(2,.v y194 (.own 0 (.pr uman (.pr uman umax))))
def ujag:Nat×JE:=(2,.v y194 umaf)
def ulad:JS:=[ujbc,ujaa,(4,uqd),(5,uqa),(6,uqa),(31,.v y64 zun),(32,uqa),(33,uqa)]
def ulag:JS:=[ujab,ujag,(3,uqc),(4,uqd),(9,uqa),zmz,(151,uqd),(152,uqa),(153,uqa)]
def ulaj:JS:=[ujab,ujag,(3,uqc),(4,uqd),(9,uqa),zmz,(82,uqd),(83,uqa),(84,uqa)]
def ujbb:Nat×JE:=(1,.v y194 umaf)
def ulaf:JS:=[ujab,ujbb,(2,uqb),(3,uqa),(8,uqa),(27,uqf),(28,uqa),(29,uqa)]
def ulav:JS:=[ujak,ujag,(3,uqc),(70,uqd),(71,uqa),(72,uqa)]
def ulaw:JS:=[(0,uqd),(1,.v y127 .bw),(5,uqa),(6,uqa)]
def ujbq:Nat×JE:=(7,.v y12 .sh)
def ulax:JS:=[ujae,(1,uqb),(2,uqa),(9,uqd),zmz,ujay]
def ulay:JS:=[(3,uqd),(6,.v y49 .bw),(7,uqa),(8,uqa)]
def ulaz:JS:=[(0,uqb),(1,.v y29 .bw),(5,uqa),(6,uqa)]
def ujbr:Nat×JE:=(10,.v y181 umad)
def upbf:Plan:=(uqs upat)
def upae:Plan:=(uqs (.seq zfh (.seq (.block (uqs upbf)) uqr)))
def upbg:Plan:=(.cond uqr .nil)
def zxj:Plan:=(uqs upbg)
def upal:Plan:=(uqs (.seq zxj (uqs (.seq (uqs (.block (.loop ulaz [(.brk 0,[(5,uqa)])] (.seq zxh (.join (.block zxj) ulaz uqr))))) zds))))
def upau:Plan:=(.block (uqs zxj))
def upak:Plan:=(uqs (.seq zxi (.seq (uqs (.block (.loop [(1,uqa),(5,uqd),(11,uqb),ujaz,ujar] [(.brk 0,[(5,uqd)])] (uqs (.seq zfh (.join upau [(1,uqa),(5,uqd),(11,uqb),ujaz,ujar] uqr)))))) zds)))
def ujbs:Nat×JE:=(4,.v (.ptr y101) zkd)
def ulac:JS:=[(0,.v y181 .bw),(1,uqa),ujbs,ujad,(24,.v y48 .bw),(25,uqa),(26,uqa)]
def ulba:JS:=[(57,.v y120 umaq),(58,uqa),(59,uqa)]
def upbh:Plan:=(.reg [(7,[])] [{},{},{},{},{fl:=1}])
abbrev ua0:=(Bool×(List Bool×List Bool))
abbrev ua1:=(Bool×(List Int×List Int))
abbrev ua2:=(List Bool)
abbrev ua3:=(List Int)
abbrev ua4:=ua2×ua2×ua2×Bool×Int
def d226(a:List Int):Option ua3:=(bif decide ((a.length:Int)<=LIM)then some ()else none).bind λu=>(d228 (List.take (zbe a) a)).bind λr=>some r
def E226:=uqy 226 ⟨[(y99,.bw)],[(y99,umak)]⟩ d226 func226 call226 [.pre zsn,.fn E228] zfy
def d166(n:Int):Option ua3:=(d226 [(wu32 n),(wu32 (wu64 (Int.fdiv n (2^(min (Int.toNat 32) 64)))))]).bind λr=>some r
def E166:=uqy 166 ⟨[(y12,.sh)],[(y99,umak)]⟩ d166 func166 call166 [.fn E226] zfy
def d165(n:Int):Option ua3:=bif (decide (n<0))then (d166 (wu64 (0-(wu64 n)))).bind λr=>some r else (d166 (wu64 n)).bind λa=>some a
def E165:=uqy 165 ⟨[(y2,.sh)],[(y99,umak)]⟩ d165 func165 call165 [.fn E166] upaz
def d222(a:List Int):Option Int:=(bif decide ((a.length:Int)<=LIM)then some ()else none).bind λu=>bif (decide (((List.take (zbe a) a).length:Int)=0))then some 0 else bif (decide (0<=(w (((List.take (zbe a) a).length:Int)-1)))&&decide ((w (((List.take (zbe a) a).length:Int)-1))<((List.take (zbe a) a).length:Int)))then (d245 (List.getD (List.take (zbe a) a) (Int.toNat (w (((List.take (zbe a) a).length:Int)-1))) 0)).bind λr=>some (w ((w (32*(w (((List.take (zbe a) a).length:Int)-1))))+r))else none
def E222:=uqy 222 ⟨[(y99,.bw)],[(y2,.sh)]⟩ d222 func222 call222 [.pre zsn,.fn E245] (uqs upaz)
def d223:Option ua1:=(d166 1).bind λr=>some (false,[],r)
def sg223:Sig:=⟨[],[(y101,.sh)]⟩
def plan223:Plan:=(uqs (.seq (.reg [] [{},{frz:=[(1,[])]}]) .nil))
def ev223 (xs:zek (zft sg223.ps)):evF (P:=prog) tab [.fn E166] sg223 Tryz.f223.results.toList (code Tryz.f223) plan223 xs=d223  := by kernel_rfl
def sim223:Sim prog 223 sg223 d223:=zeg zuo zic func223 (zca rfl) call223 (uqn (by kernel_rfl)) (by kernel_rfl) plan223 _ λxs y h=>(ev223 xs).trans h
def E223:FnE prog:=⟨223,sg223,d223,sim223⟩
def d265(a:List Int)(b:List Int):Option Int:=(bif decide ((a.length:Int)<=LIM)then some ()else none).bind λu=>(bif decide ((b.length:Int)<=LIM)then some ()else none).bind λg=>bif !(decide (((List.take (zbe a) a).length:Int)=((List.take (zbe b) b).length:Int)))then bif (decide (((List.take (zbe a) a).length:Int)<((List.take (zbe b) b).length:Int)))then some (-1)else some 1 else (zac (β:=Unit⊕Int) (λ((c,e,i):ua3×ua3×Int)=>bif (decide (0<=i))then bif (decide (0<=i)&&decide (i<(c.length:Int)))then bif (decide (0<=i)&&decide (i<(e.length:Int)))then bif (decide ((c.getD i.toNat 0)<(e.getD i.toNat 0)))then some (Sum.inr (Sum.inr (-1)))else bif (decide (0<=i)&&decide (i<(c.length:Int)))then bif (decide (0<=i)&&decide (i<(e.length:Int)))then bif (decide ((e.getD i.toNat 0)<(c.getD i.toNat 0)))then some (Sum.inr (Sum.inr 1))else some (Sum.inl (c,e,(w (i-1))))else none else none else none else none else some (Sum.inr (Sum.inl ()))) ((List.take (zbe a) a),(List.take (zbe b) b),(w (((List.take (zbe a) a).length:Int)-1)))).bind λ
  |Sum.inl _=>some 0
  |Sum.inr f=>some f
def E265:=uqy 265 ⟨[(y99,.bw),(y99,.bw)],[(y2,.sh)]⟩ d265 func265 call265 [.pre zsn] (uqs (uqs (.seq (uqs (.cond upam .nil)) (.seq (uqs (.block (.loop [ujas,ujan,(5,uqa)] uxab (.seq zxh (.seq (.block (.block upay)) uqr))))) zds))))
def d266(a:List Int)(d:Int):Option (ua3×Int):=bif (decide ((a.length:Int)=(a.length:Int))&&(decide (0<=(a.length:Int))&&decide ((a.length:Int)<=LIM)))then (zac (β:=(ua3×Int)) (λ((c,b,q,rest,i):ua3×Int×ua3×Int×Int)=>bif (decide (0<=i))then bif (decide (0<=i)&&decide (i<(c.length:Int)))then bif (!decide (b=0))then bif (decide (0<=i)&&decide (i<(q.length:Int)))then bif (!decide (b=0))then some (Sum.inl (c,b,(List.set q i.toNat (wu32 (wu64 (Int.tdiv (wu64 ((BitVec.ofInt 64 (wu64 (rest*2^(min (Int.toNat 32) 64)))|||BitVec.ofInt 64 (wu64 (c.getD i.toNat 0))).toNat:Int)) b)))),(wu64 (Int.tmod (wu64 ((BitVec.ofInt 64 (wu64 (rest*2^(min (Int.toNat 32) 64)))|||BitVec.ofInt 64 (wu64 (c.getD i.toNat 0))).toNat:Int)) b)),(w (i-1))))else none else none else none else none else some (Sum.inr (q,rest))) (a,d,(List.replicate (Int.toNat (a.length:Int)) 0),0,(w ((a.length:Int)-1)))).bind λ((e,f):ua3×Int)=>some (e,f)else none
def E266:=uqy 266 ⟨[(y99,.bw),(y12,.sh)],[(y99,umak),(y12,.sh)]⟩ d266 func266 call266 [] (uqs (uqs (uqs (.seq (uqs (.block (.loop [ujas,(1,.v y12 .sh),ujaj,ujbq,(8,uqa)] [(.brk 0,[ujaj,ujbq])] (.seq zxh (.seq (.block upbf) uqr))))) zds))))
def d267(x:Int):Option Int:=(d245 x).bind λr=>some (w (32-r))
def E267:=uqy 267 ⟨[(y169,.sh)],[(y2,.sh)]⟩ d267 func267 call267 [.fn E245] zfy
def d268(a:List Int)(n:Int):Option ua3:=bif (decide ((w ((a.length:Int)+1))=(w ((a.length:Int)+1)))&&(decide (0<=(w ((a.length:Int)+1)))&&decide ((w ((a.length:Int)+1))<=LIM)))then (zac (β:=ua3) (λ((c,out,e,f,b):Int×ua3×ua3×Int×Int)=>bif (decide (b<f))then bif (decide (0<=b)&&decide (b<(e.length:Int)))then bif (decide (0<=c))then bif (decide (0<=b)&&decide (b<(out.length:Int)))then bif (decide (0<=b)&&decide (b<(out.length:Int)))then bif (decide (0<=(w (b+1)))&&decide ((w (b+1))<((List.set out b.toNat (wu32 ((BitVec.ofInt 32 (out.getD b.toNat 0)|||BitVec.ofInt 32 (wu32 (wu64 ((wu64 (e.getD b.toNat 0))*2^(min c.toNat 64))))).toNat:Int))).length:Int)))then some (Sum.inl (c,(List.set (List.set out b.toNat (wu32 ((BitVec.ofInt 32 (out.getD b.toNat 0)|||BitVec.ofInt 32 (wu32 (wu64 ((wu64 (e.getD b.toNat 0))*2^(min c.toNat 64))))).toNat:Int))) (Int.toNat (w (b+1))) (wu32 (wu64 (Int.fdiv (wu64 ((wu64 (e.getD b.toNat 0))*2^(min c.toNat 64))) (2^(min (Int.toNat 32) 64)))))),e,f,(w (b+1))))else none else none else none else none else none else some (Sum.inr out)) (n,(List.replicate (Int.toNat (w ((a.length:Int)+1))) 0),a,(a.length:Int),0)).bind λ(g:List Int)=>some g else none
def E268:=uqy 268 ⟨[(y99,.bw),(y2,.sh)],[(y99,umak)]⟩ d268 func268 call268 [] (uqs (uqs (.seq (uqs (.block (.loop [(1,uqa),ujau,(13,.v y99 .bw),(14,uqa),(15,uqa)] [(.brk 0,[ujau])] upae))) zds)))
def d296(p0:List Int)(p1:List Int)(p2:Int):Option Int:=bif (decide (0<=(w (p2+(p1.length:Int))))&&decide ((w (p2+(p1.length:Int)))<(p0.length:Int)))then bif (decide (0<=(w ((w (p2+(p1.length:Int)))-1)))&&decide ((w ((w (p2+(p1.length:Int)))-1))<(p0.length:Int)))then bif (decide (0<=(w ((p1.length:Int)-1)))&&decide ((w ((p1.length:Int)-1))<(p1.length:Int)))then bif (!decide ((wu64 (p1.getD (Int.toNat (w ((p1.length:Int)-1))) 0))=0))then bif (!decide ((wu64 (p1.getD (Int.toNat (w ((p1.length:Int)-1))) 0))=0))then (zac (β:=Int) (λ((c,e,b,a,j,f,g):ua3×ua3×Int×Int×Int×Int×Int)=>zbl (λ((m,n,o,p,h,i,k,q):ua3×ua3×Int×Int×Int×Int×Int×Bool)=>bif q then bif (decide (4294967296<=(wu64 (k+h))))then some (Sum.inr (wu64 (i-1)))else some (Sum.inl (m,n,o,p,h,(wu64 (i-1)),(wu64 (k+h))))else some (Sum.inr i)) λl=>bif !(decide (4294967296<=f))then bif (decide (0<=(w (a-2)))&&decide ((w (a-2))<(e.length:Int)))then bif (decide (0<=(w ((w (b+a))-2)))&&decide ((w ((w (b+a))-2))<(c.length:Int)))then l (c,e,b,a,j,f,g,(decide ((wu64 ((BitVec.ofInt 64 (wu64 (g*2^(min (Int.toNat 32) 64)))|||BitVec.ofInt 64 (wu64 (c.getD (Int.toNat (w ((w (b+a))-2))) 0))).toNat:Int))<(wu64 (f*(wu64 (e.getD (Int.toNat (w (a-2))) 0)))))))else none else none else l (c,e,b,a,j,f,g,true)) (p0,p1,p2,(p1.length:Int),(wu64 (p1.getD (Int.toNat (w ((p1.length:Int)-1))) 0)),(wu64 (Int.tdiv (wu64 ((BitVec.ofInt 64 (wu64 ((wu64 (p0.getD (Int.toNat (w (p2+(p1.length:Int)))) 0))*2^(min (Int.toNat 32) 64)))|||BitVec.ofInt 64 (wu64 (p0.getD (Int.toNat (w ((w (p2+(p1.length:Int)))-1))) 0))).toNat:Int)) (wu64 (p1.getD (Int.toNat (w ((p1.length:Int)-1))) 0)))),(wu64 (Int.tmod (wu64 ((BitVec.ofInt 64 (wu64 ((wu64 (p0.getD (Int.toNat (w (p2+(p1.length:Int)))) 0))*2^(min (Int.toNat 32) 64)))|||BitVec.ofInt 64 (wu64 (p0.getD (Int.toNat (w ((w (p2+(p1.length:Int)))-1))) 0))).toNat:Int)) (wu64 (p1.getD (Int.toNat (w ((p1.length:Int)-1))) 0)))))).bind λ(r:Int)=>some r else none else none else none else none else none
def E296:=uqy 296 ⟨[(y99,.bw),(y99,.bw),(y2,.sh)],[(y12,.sh)]⟩ d296 func296 call296 [] (uqs (uqs (uqs (uqs (uqs (.seq (.block (.loop [ujas,ujan,(2,uqa),(7,uqa),(9,.v y12 .sh),ujbn,(11,.v y12 .sh)] [(.brk 0,[ujbn])] (.seq (.join uqr [ujas,ujan,(2,uqa),(7,uqa),(9,.v y12 .sh),ujbn,(11,.v y12 .sh),(66,uqc)] zfh) (.block (uqs (uqs zxh)))))) zds))))))
def d297(a:List Int)(i:Int):Option Int:=bif (decide (i<(a.length:Int)))then bif (decide (0<=i)&&decide (i<(a.length:Int)))then some (wu64 (a.getD i.toNat 0))else none else some 0
def E297:=uqy 297 ⟨[(y99,.bw),(y2,.sh)],[(y12,.sh)]⟩ d297 func297 call297 [] upaz
def d269(p0:List Int)(p1:List Int):Option (ua3×ua3):=bif (decide ((w ((p0.length:Int)-(p1.length:Int)))=(w ((p0.length:Int)-(p1.length:Int))))&&(decide (0<=(w ((p0.length:Int)-(p1.length:Int))))&&decide ((w ((p0.length:Int)-(p1.length:Int)))<=LIM)))then (zac (β:=(ua3×ua3)) (λ((j,s,t,u,k):ua3×ua3×Int×ua3×Int)=>bif (decide (0<=k))then (d296 j s k).bind λr=>(zac (β:=(ua3×ua3×Int×ua3×Int×Int×Int)) (λ((f,l,v,x,c,h,m,n,y,a):ua3×ua3×Int×ua3×Int×Int×Int×Int×Int×Int)=>bif (decide (a<y))then (d297 l a).bind λo=>bif (decide (0<=(w (a+c)))&&decide ((w (a+c))<(f.length:Int)))then bif (decide (0<=(w (a+c)))&&decide ((w (a+c))<(f.length:Int)))then some (Sum.inl ((List.set f (Int.toNat (w (a+c))) (wu32 (wu64 ((wu64 ((wu64 (4294967296+(wu64 (f.getD (Int.toNat (w (a+c))) 0))))-(wu64 ((BitVec.ofInt 64 (wu64 ((wu64 (h*o))+n))&&&BitVec.ofInt 64 4294967295).toNat:Int))))-m)))),l,v,x,c,h,(wu64 (1-(wu64 (Int.fdiv (wu64 ((wu64 ((wu64 (4294967296+(wu64 (f.getD (Int.toNat (w (a+c))) 0))))-(wu64 ((BitVec.ofInt 64 (wu64 ((wu64 (h*o))+n))&&&BitVec.ofInt 64 4294967295).toNat:Int))))-m)) (2^(min (Int.toNat 32) 64)))))),(wu64 (Int.fdiv (wu64 ((wu64 (h*o))+n)) (2^(min (Int.toNat 32) 64)))),y,(w (a+1))))else none else none else some (Sum.inr (f,l,v,x,c,h,m))) (j,s,t,u,k,r,0,0,(w (t+1)),0)).bind λ((z,aa,p,ab,ac,ae,an):ua3×ua3×Int×ua3×Int×Int×Int)=>zbl (λ((ao,ap,aq,af,i,ar):ua3×ua3×Int×ua3×Int×Int)=>bif (decide (0<=i)&&decide (i<(af.length:Int)))then some (Sum.inl (ao,ap,aq,(List.set af i.toNat (wu32 ar)),(w (i-1))))else none) λag=>bif (decide (0<an))then (zac (β:=(ua3×ua3×Int×ua3×Int×Int)) (λ((g,q,ah,ai,e,aj,ak,al,b):ua3×ua3×Int×ua3×Int×Int×Int×Int×Int)=>bif (decide (b<al))then bif (decide (0<=(w (b+e)))&&decide ((w (b+e))<(g.length:Int)))then (d297 q b).bind λam=>bif (decide (0<=(w (b+e)))&&decide ((w (b+e))<(g.length:Int)))then some (Sum.inl ((List.set g (Int.toNat (w (b+e))) (wu32 (wu64 ((wu64 ((wu64 (g.getD (Int.toNat (w (b+e))) 0))+am))+ak)))),q,ah,ai,e,aj,(wu64 (Int.fdiv (wu64 ((wu64 ((wu64 (g.getD (Int.toNat (w (b+e))) 0))+am))+ak)) (2^(min (Int.toNat 32) 64)))),al,(w (b+1))))else none else none else some (Sum.inr (g,q,ah,ai,e,aj))) (z,aa,p,ab,ac,(wu64 (ae-1)),0,(w (p+1)),0)).bind λ((au,av,ax,ay,az,ba):ua3×ua3×Int×ua3×Int×Int)=>ag (au,av,ax,ay,az,ba)else ag (z,aa,p,ab,ac,ae)else some (Sum.inr (j,u))) (p0,p1,(p1.length:Int),(List.replicate (Int.toNat (w ((p0.length:Int)-(p1.length:Int)))) 0),(w ((w ((p0.length:Int)-(p1.length:Int)))-1)))).bind λ((bb,bc):ua3×ua3)=>some (bc,bb)else none
def E269:=uqy 269 ⟨[(y99,(.io umak)),(y99,.sh)],[(y99,umak)]⟩ d269 func269 call269 [.fn E296,.fn E297] (uqs (uqs (uqs (.seq (uqs (.block (.loop [ujbe,ujbi,(5,uqa),ujaj,(7,uqa)] [(.brk 0,[ujbe,ujaj])] (.seq zxh (.seq (.block (uqs (uqs (.seq (uqs (.block (.loop [ujbe,ujbi,(5,uqa),ujaj,(7,uqa),ujbj,(9,.v y12 .sh),ujbn,(37,uqa),(38,uqa)] [(.brk 2,[ujbe,ujbi,(5,uqa),ujaj,(7,uqa),ujbj,(9,.v y12 .sh)])] (uqs (.seq zfh (.seq (.block (uqs (uqs (uqs upbf)))) uqr)))))) (.join (uqs (.cond (uqs (uqs (uqs (.block (.loop [ujbe,ujbi,(5,uqa),ujaj,(7,uqa),ujbj,ujbn,(79,uqa),(80,uqa)] [(.brk 4,ulah)] upae))))) .nil)) ulah uqr))))) uqr))))) zds))))
def d270(a:List Int)(n:Int):Option ua3:=bif (decide ((a.length:Int)=(a.length:Int))&&(decide (0<=(a.length:Int))&&decide ((a.length:Int)<=LIM)))then (zac (β:=ua3) (λ((c,e,out,f,b):ua3×Int×ua3×Int×Int)=>bif (decide (b<f))then (d297 c b).bind λr=>(d297 c (w (b+1))).bind λg=>bif (decide (0<=e))then bif (decide (0<=b)&&decide (b<(out.length:Int)))then some (Sum.inl (c,e,(List.set out b.toNat (wu32 (wu64 (Int.fdiv (wu64 ((BitVec.ofInt 64 r|||BitVec.ofInt 64 (wu64 (g*2^(min (Int.toNat 32) 64)))).toNat:Int)) (2^(min e.toNat 64)))))),f,(w (b+1))))else none else none else some (Sum.inr out)) (a,n,(List.replicate (Int.toNat (a.length:Int)) 0),(a.length:Int),0)).bind λ(h:List Int)=>some h else none
def E270:=uqy 270 ⟨[(y99,.bw),(y2,.sh)],[(y99,umak)]⟩ d270 func270 call270 [.fn E297] (uqs (uqs (.seq (uqs (.block (.loop [ujas,(1,uqa),ujau,ujay,ujaz] [(.brk 0,[ujau])] upad))) zds)))
def d225(p0:List Int)(p1:List Int):Option (ua3×ua3×Bool):=(bif decide ((p0.length:Int)<=LIM)then some ()else none).bind λu=>(bif decide ((p1.length:Int)<=LIM)then some ()else none).bind λm=>bif (decide (((List.take (zbe p1) p1).length:Int)=0))then some ([],[],false)else (d265 (List.take (zbe p0) p0) (List.take (zbe p1) p1)).bind λr=>bif (decide (r<0))then (d228 (List.take (zbe p0) p0)).bind λf=>some ([],f,true)else bif (decide (((List.take (zbe p1) p1).length:Int)=1))then bif (decide (0<=0)&&decide (0<((List.take (zbe p1) p1).length:Int)))then (d266 (List.take (zbe p0) p0) (wu64 (List.getD (List.take (zbe p1) p1) 0 0))).bind λc=>(d226 c.1).bind λg=>(d166 c.2).bind λh=>some (g,h,true)else none else bif (decide (0<=(w (((List.take (zbe p1) p1).length:Int)-1)))&&decide ((w (((List.take (zbe p1) p1).length:Int)-1))<((List.take (zbe p1) p1).length:Int)))then (d267 (List.getD (List.take (zbe p1) p1) (Int.toNat (w (((List.take (zbe p1) p1).length:Int)-1))) 0)).bind λa=>(d268 (List.take (zbe p0) p0) a).bind λi=>(d268 (List.take (zbe p1) p1) a).bind λb=>(bif decide ((b.length:Int)<=LIM)then some ()else none).bind λn=>(d269 i (List.take (zbe b) b)).bind λe=>(d226 e.1).bind λj=>(d270 e.2 a).bind λk=>(d226 k).bind λl=>some (j,l,true)else none
def E225:=uqy 225 ⟨[(y99,.bw),(y99,.bw)],[(y99,.sh),(y99,.sh),(y4,.sh)]⟩ d225 func225 call225 [.pre zsn,.fn E265,.fn E228,.fn E266,.fn E226,.fn E166,.fn E267,.fn E268,.fn E269,.fn E270] (.post (uqs (uqs (.seq (.block (uqs (.cond zds (uqs (.cond zds (uqs (.cond (.seq upbd zds) .nil))))))) (uqs (.seq (.reg [] (uqk 6 [{frz:=[(56,[])]}])) zfy))))) [(5,[]),(4,[])])
def d224(a:List Int)(b:List Int):Option ua3:=(d226 a).bind λr=>(d226 b).bind λf=>(zac (β:=ua3) (λ((e,c):ua3×ua3)=>bif (decide (0<(c.length:Int)))then (d225 e c).bind λg=>some (Sum.inl (c,g.2.1))else some (Sum.inr e)) (r,f)).bind λ(h:List Int)=>some h
def E224:=uqy 224 ⟨[(y99,.bw),(y99,.bw)],[(y99,.sh)]⟩ d224 func224 call224 [.fn E226,.fn E225] (uqs (uqs (.seq (.block (.frz [(1,[]),(0,[])] (.loop [(0,.v y99 .sh),ujbi] [(.brk 0,[(0,.v y99 .sh)])] (.seq zxh (.block (.seq upao uqr)))))) zds)))
def d164(neg:Bool)(num:List Int)(den:List Int):Option ua1:=zbl (λ((f,a,b,l,g):Bool×ua3×ua3×ua1×Bool)=>bif g then (d223).bind λh=>some h else (d224 a b).bind λc=>(d225 a c).bind λi=>(d225 b c).bind λj=>some (f,i.1,j.1)) λe=>(d222 num).bind λr=>bif !(decide (r=0))then (d222 den).bind λk=>e (neg,num,den,(false,[],[]),(decide (k=0)))else e (neg,num,den,(false,[],[]),true)
def E164:=uqy 164 ⟨[(y4,.sh),(y99,.bw),(y99,.bw)],[(y101,.sh)]⟩ d164 func164 call164 [.fn E222,.fn E223,.fn E224,.fn E225] (uqs (.seq (.join uqr [(0,uqc),ujan,(2,.v y99 .bw),(6,.v (.ptr y101) zkd),(21,uqc)] zut) (uqs (.seq upao (.seq upao zds)))))
def d93(n:Int):Option ua1:=(d165 n).bind λr=>(d166 1).bind λa=>(d164 (decide (n<0)) r a).bind λb=>some b
def E93:=uqy 93 ⟨[(y2,.sh)],[(y101,.sh)]⟩ d93 func93 call93 [.fn E165,.fn E166,.fn E164] zfy
def d188(a:List Bool)(n:Int):Option ua2:=bif (decide (n=n)&&(decide (0<=n)&&decide (n<=LIM)))then bif (decide (((List.replicate n.toNat false).length:Int)+(a.length:Int)<=LIM))then some ((List.replicate n.toNat false)++a)else none else none
def d192(b:List Bool)(i:Int):Option Bool:=bif (decide (0<=i))then bif (decide (i<(b.length:Int)))then bif (decide (0<=i)&&decide (i<(b.length:Int)))then some (b.getD i.toNat false)else none else some false else some false
def d189(b:List Bool):Option ua2:=(zac (β:=(ua2×Int)) (λ((a,n):ua2×Int)=>zbl (λ((f,g,i):ua2×Int×Bool)=>bif i then some (Sum.inl (f,(w (g-1))))else some (Sum.inr (f,g))) λh=>bif (decide (0<n))then bif (decide (0<=(w (n-1)))&&decide ((w (n-1))<(a.length:Int)))then h (a,n,!(a.getD (Int.toNat (w (n-1))) false))else none else h (a,n,false)) (b,(b.length:Int))).bind λ((c,e):ua2×Int)=>bif (zcr 0 e c.length)then bif (decide ((([]:List Bool).length:Int)+((List.drop 0 (List.take e.toNat c)).length:Int)<=LIM))then some (List.drop 0 (List.take e.toNat c))else none else none
def d120(a:List Bool)(b:List Bool):Option ua2:=(zac (β:=ua2) (λ((e,f,out,carry,i):ua4)=>bif (decide (i<=(bif (decide ((e.length:Int)<(f.length:Int)))then(f.length:Int)else(e.length:Int))))then zbl (λ((h,j,k,l,m):ua4)=>some (Sum.inl (h,j,k,l,(w (m+1))))) λg=>(d192 e i).bind λr=>(d192 f i).bind λc=>bif (decide ((out.length:Int)+(([!((!(r == c)) == carry)]:List Bool).length:Int)<=LIM))then bif r then bif !c then bif r then bif !carry then bif c then g (e,f,(out++[!((!(r == c)) == carry)]),carry,i)else g (e,f,(out++[!((!(r == c)) == carry)]),false,i)else g (e,f,(out++[!((!(r == c)) == carry)]),true,i)else bif c then g (e,f,(out++[!((!(r == c)) == carry)]),carry,i)else g (e,f,(out++[!((!(r == c)) == carry)]),false,i)else g (e,f,(out++[!((!(r == c)) == carry)]),true,i)else bif r then bif !carry then bif c then g (e,f,(out++[!((!(r == c)) == carry)]),carry,i)else g (e,f,(out++[!((!(r == c)) == carry)]),false,i)else g (e,f,(out++[!((!(r == c)) == carry)]),true,i)else bif c then g (e,f,(out++[!((!(r == c)) == carry)]),carry,i)else g (e,f,(out++[!((!(r == c)) == carry)]),false,i)else none else some (Sum.inr out)) (a,b,[],false,0)).bind λ(n:List Bool)=>(d189 n).bind λo=>some o
def d118(a:List Bool)(b:List Bool):Option ua2:=(zac (β:=ua2) (λ((e,c,sum,i):ua2×ua2×ua2×Int)=>bif (decide (i<(c.length:Int)))then zbl (λ((g,h,j,k):ua2×ua2×ua2×Int)=>some (Sum.inl (g,h,j,(w (k+1))))) λf=>bif (decide (0<=i)&&decide (i<(c.length:Int)))then bif (c.getD i.toNat false)then (d188 e i).bind λr=>(d120 sum r).bind λl=>f (e,c,l,i)else f (e,c,sum,i)else none else some (Sum.inr sum)) (a,b,[],0)).bind λ(m:List Bool)=>(d189 m).bind λn=>some n
def d121(a:List Bool)(b:List Bool):Option Int:=(zac (β:=Unit⊕Int) (λ((c,e,i):ua2×ua2×Int)=>bif (decide (0<=i))then (d192 c i).bind λr=>(d192 e i).bind λf=>bif !(r == f)then (d192 c i).bind λg=>bif g then some (Sum.inr (Sum.inr 1))else some (Sum.inr (Sum.inr (-1)))else some (Sum.inl (c,e,(w (i-1))))else some (Sum.inr (Sum.inl ()))) (a,b,(w ((bif (decide ((a.length:Int)<(b.length:Int)))then(b.length:Int)else(a.length:Int))-1)))).bind λ
 |Sum.inl _=>some 0
 |Sum.inr h=>some h
def d122(a:List Bool)(b:List Bool):Option ua2:=(zac (β:=ua2) (λ((e,f,out,borrow,i):ua4)=>bif (decide (i<(e.length:Int)))then zbl (λ((h,j,k,l,m):ua4)=>some (Sum.inl (h,j,k,l,(w (m+1))))) λg=>(d192 e i).bind λr=>(d192 f i).bind λc=>bif (decide ((out.length:Int)+(([!((!(r == c)) == borrow)]:List Bool).length:Int)<=LIM))then bif !r then bif !c then bif !r then bif !borrow then bif c then g (e,f,(out++[!((!(r == c)) == borrow)]),borrow,i)else g (e,f,(out++[!((!(r == c)) == borrow)]),false,i)else g (e,f,(out++[!((!(r == c)) == borrow)]),true,i)else bif c then g (e,f,(out++[!((!(r == c)) == borrow)]),borrow,i)else g (e,f,(out++[!((!(r == c)) == borrow)]),false,i)else g (e,f,(out++[!((!(r == c)) == borrow)]),true,i)else bif !r then bif !borrow then bif c then g (e,f,(out++[!((!(r == c)) == borrow)]),borrow,i)else g (e,f,(out++[!((!(r == c)) == borrow)]),false,i)else g (e,f,(out++[!((!(r == c)) == borrow)]),true,i)else bif c then g (e,f,(out++[!((!(r == c)) == borrow)]),borrow,i)else g (e,f,(out++[!((!(r == c)) == borrow)]),false,i)else none else some (Sum.inr out)) (a,b,[],false,0)).bind λ(n:List Bool)=>(d189 n).bind λo=>some o
def d154(a:Int)(b:Int):Option ua1:=(d165 a).bind λr=>(d165 b).bind λc=>(d164 (!((decide (a<0)) == (decide (b<0)))) r c).bind λe=>some e
def E154:=uqy 154 ⟨[(y2,.sh),(y2,.sh)],[(y101,.sh)]⟩ d154 func154 call154 [.fn E165,.fn E164] zfy
def d229(r:ua1):Option ua1:=(d164 r.1 r.2.1 r.2.2).bind λa=>some a
def E229:=uqy 229 ⟨[(y101,.bw)],[(y101,.sh)]⟩ d229 func229 call229 [.fn E164] zfy
def d231(p0:List Int)(p1:List Int):Option ua3:=(bif decide ((p0.length:Int)<=LIM)then some ()else none).bind λu=>(bif decide ((p1.length:Int)<=LIM)then some ()else none).bind λac=>bif (decide ((w (((List.take (zbe p0) p0).length:Int)+((List.take (zbe p1) p1).length:Int)))=(w (((List.take (zbe p0) p0).length:Int)+((List.take (zbe p1) p1).length:Int))))&&(decide (0<=(w (((List.take (zbe p0) p0).length:Int)+((List.take (zbe p1) p1).length:Int))))&&decide ((w (((List.take (zbe p0) p0).length:Int)+((List.take (zbe p1) p1).length:Int)))<=LIM)))then (zac (β:=ua3) (λ((h,m,i,n,c):ua3×ua3×ua3×Int×Int)=>bif (decide (c<n))then bif (decide (0<=c)&&decide (c<(i.length:Int)))then (zac (β:=(ua3×ua3×Int×Int×ua3×Int×Int)) (λ((o,e,b,j,k,p,q,s,f,t,a):ua3×ua3×Int×Int×Int×ua3×Int×Int×ua3×Int×Int)=>bif (decide (a<t))then bif (decide (0<=a)&&decide (a<(f.length:Int)))then bif (decide (0<=(w (b+a)))&&decide ((w (b+a))<(e.length:Int)))then bif (decide (0<=(w (b+a)))&&decide ((w (b+a))<(e.length:Int)))then some (Sum.inl (o,(List.set e (Int.toNat (w (b+a))) (wu32 (wu64 ((wu64 ((wu64 ((wu64 j)*(wu64 (f.getD a.toNat 0))))+(wu64 (e.getD (Int.toNat (w (b+a))) 0))))+k)))),b,j,(wu64 (Int.fdiv (wu64 ((wu64 ((wu64 ((wu64 j)*(wu64 (f.getD a.toNat 0))))+(wu64 (e.getD (Int.toNat (w (b+a))) 0))))+k)) (2^(min (Int.toNat 32) 64)))),p,q,s,f,t,(w (a+1))))else none else none else none else some (Sum.inr (o,e,b,k,p,q,s))) (h,m,c,(i.getD c.toNat 0),0,i,n,c,h,(h.length:Int),0)).bind λ((g,v,l,x,y,z,aa):ua3×ua3×Int×Int×ua3×Int×Int)=>bif (decide (0<=(w (l+(g.length:Int))))&&decide ((w (l+(g.length:Int)))<(v.length:Int)))then some (Sum.inl (g,(List.set v (Int.toNat (w (l+(g.length:Int)))) (wu32 x)),y,z,(w (aa+1))))else none else none else some (Sum.inr m)) ((List.take (zbe p1) p1),(List.replicate (Int.toNat (w (((List.take (zbe p0) p0).length:Int)+((List.take (zbe p1) p1).length:Int)))) 0),(List.take (zbe p0) p0),((List.take (zbe p0) p0).length:Int),0)).bind λ(ab:List Int)=>(d226 ab).bind λr=>some r else none
def E231:=uqy 231 ⟨[(y99,.bw),(y99,.bw)],[(y99,umak)]⟩ d231 func231 call231 [.pre zsn,.fn E226] (uqs (uqs (uqs (.seq (uqs (.block (.loop [ujan,ujau,(22,.v y99 .bw),(23,uqa),(24,uqa)] [(.brk 0,[ujau])] (uqs (.seq zfh (.seq (.block (uqs (uqs (.seq (uqs (.block (.loop [ujan,ujau,(6,uqa),(7,.v y169 .sh),ujbj,(22,.v y99 .bw),(23,uqa),(24,uqa),(29,.v y99 .bw),(30,uqa),(31,uqa)] [(.brk 2,[ujan,ujau,(6,uqa),ujbj,(22,.v y99 .bw),(23,uqa),(24,uqa)])] upae))) uqr)))) uqr)))))) zds))))
def d271(a:List Int)(b:List Int):Option ua3:=(bif decide ((a.length:Int)<=LIM)then some ()else none).bind λu=>(bif decide ((b.length:Int)<=LIM)then some ()else none).bind λm=>bif (decide ((w ((bif (decide (((List.take (zbe a) a).length:Int)<((List.take (zbe b) b).length:Int)))then((List.take (zbe b) b).length:Int)else((List.take (zbe a) a).length:Int))+1))=(w ((bif (decide (((List.take (zbe a) a).length:Int)<((List.take (zbe b) b).length:Int)))then((List.take (zbe b) b).length:Int)else((List.take (zbe a) a).length:Int))+1)))&&(decide (0<=(w ((bif (decide (((List.take (zbe a) a).length:Int)<((List.take (zbe b) b).length:Int)))then((List.take (zbe b) b).length:Int)else((List.take (zbe a) a).length:Int))+1)))&&decide ((w ((bif (decide (((List.take (zbe a) a).length:Int)<((List.take (zbe b) b).length:Int)))then((List.take (zbe b) b).length:Int)else((List.take (zbe a) a).length:Int))+1))<=LIM)))then (zac (β:=(Int×ua3×Int)) (λ((f,g,n,out,carry,h,c):ua3×ua3×Int×ua3×Int×Int×Int)=>bif (decide (c<h))then (d297 f c).bind λr=>(d297 g c).bind λi=>bif (decide (0<=c)&&decide (c<(out.length:Int)))then some (Sum.inl (f,g,n,(List.set out c.toNat (wu32 (wu64 ((wu64 (r+i))+carry)))),(wu64 (Int.fdiv (wu64 ((wu64 (r+i))+carry)) (2^(min (Int.toNat 32) 64)))),h,(w (c+1))))else none else some (Sum.inr (n,out,carry))) ((List.take (zbe a) a),(List.take (zbe b) b),(bif (decide (((List.take (zbe a) a).length:Int)<((List.take (zbe b) b).length:Int)))then((List.take (zbe b) b).length:Int)else((List.take (zbe a) a).length:Int)),(List.replicate (Int.toNat (w ((bif (decide (((List.take (zbe a) a).length:Int)<((List.take (zbe b) b).length:Int)))then((List.take (zbe b) b).length:Int)else((List.take (zbe a) a).length:Int))+1))) 0),0,(bif (decide (((List.take (zbe a) a).length:Int)<((List.take (zbe b) b).length:Int)))then((List.take (zbe b) b).length:Int)else((List.take (zbe a) a).length:Int)),0)).bind λ((e,j,k):Int×ua3×Int)=>bif (decide (0<=e)&&decide (e<(j.length:Int)))then (d226 (List.set j e.toNat (wu32 k))).bind λl=>some l else none else none
def E271:=uqy 271 ⟨[(y99,.bw),(y99,.bw)],[(y99,umak)]⟩ d271 func271 call271 [.pre zsn,.fn E297,.fn E226] (uqs (uqs (uqs (uqs (uqs (.seq (uqs (.block (.loop [ujas,ujan,(5,uqa),ujaj,ujbq,(22,uqa),(23,uqa)] [(.brk 0,[(5,uqa),ujaj,ujbq])] upae))) zfy))))))
def d272(a:List Int)(b:List Int):Option (ua3×Bool):=(bif decide ((a.length:Int)<=LIM)then some ()else none).bind λu=>(bif decide ((b.length:Int)<=LIM)then some ()else none).bind λl=>(d265 (List.take (zbe a) a) (List.take (zbe b) b)).bind λr=>bif (decide (r<0))then some ([],false)else bif (decide (((List.take (zbe a) a).length:Int)=((List.take (zbe a) a).length:Int))&&(decide (0<=((List.take (zbe a) a).length:Int))&&decide (((List.take (zbe a) a).length:Int)<=LIM)))then (zac (β:=ua3) (λ((e,f,out,borrow,g,c):ua3×ua3×ua3×Int×Int×Int)=>bif (decide (c<g))then (d297 e c).bind λh=>(d297 f c).bind λi=>bif (decide (0<=c)&&decide (c<(out.length:Int)))then some (Sum.inl (e,f,(List.set out c.toNat (wu32 (wu64 ((wu64 ((wu64 (4294967296+h))-i))-borrow)))),(wu64 (1-(wu64 (Int.fdiv (wu64 ((wu64 ((wu64 (4294967296+h))-i))-borrow)) (2^(min (Int.toNat 32) 64)))))),g,(w (c+1))))else none else some (Sum.inr out)) ((List.take (zbe a) a),(List.take (zbe b) b),(List.replicate (Int.toNat ((List.take (zbe a) a).length:Int)) 0),0,((List.take (zbe a) a).length:Int),0)).bind λ(j:List Int)=>(d226 j).bind λk=>some (k,true)else none
def E272:=uqy 272 ⟨[(y99,.bw),(y99,.bw)],[(y99,.sh),(y4,.sh)]⟩ d272 func272 call272 [.pre zsn,.fn E265,.fn E297,.fn E226] (.post (uqs (uqs (.seq zkl (uqs (uqs (.seq (uqs (.block (.loop [ujas,ujan,ujaj,ujbq,(22,uqa),(23,uqa)] [(.brk 0,[ujaj])] upae))) zds)))))) [(4,[])])
def d230(aNeg:Bool)(a:List Int)(bNeg:Bool)(b:List Int):Option (Bool×ua3):=bif (aNeg == bNeg)then (d271 a b).bind λr=>some (aNeg,r)else (d272 a b).bind λc=>bif c.2 then some (aNeg,c.1)else (d272 b a).bind λe=>some (bNeg,e.1)
def E230:=uqy 230 ⟨[(y4,.sh),(y99,.bw),(y4,.sh),(y99,.bw)],[(y4,.sh),(y99,.sh)]⟩ d230 func230 call230 [.fn E271,.fn E272] (.post (uqs (.seq zkl (.seq (.seq upao zkl) (.seq upao zds)))) [(9,[])])
def d175(a:ua1)(b:ua1):Option ua1:=(d229 a).bind λr=>(d229 b).bind λc=>(d231 r.2.1 c.2.2).bind λf=>(d231 c.2.1 r.2.2).bind λg=>(d230 r.1 f c.1 g).bind λe=>(d231 r.2.2 c.2.2).bind λh=>(d164 e.1 e.2 h).bind λi=>some i
def E175:=uqy 175 ⟨[(y101,.bw),(y101,.bw)],[(y101,.sh)]⟩ d175 func175 call175 [.fn E229,.fn E231,.fn E230,.fn E164] (uqs (uqs (.seq upbc zds)))
def d169(a:ua1)(b:ua1):Option ua1:=(d175 a (!b.1,b.2)).bind λr=>some r
def E169:=uqy 169 ⟨[(y101,.bw),(y101,.bw)],[(y101,.sh)]⟩ d169 func169 call169 [.fn E175] (uqs zfy)
def d174(a:ua1)(b:ua1):Option Int:=(d169 a b).bind λr=>bif r.1 then some (-1)else bif (decide ((r.2.1.length:Int)=0))then some 0 else some 1
def E174:=uqy 174 ⟨[(y101,.bw),(y101,.bw)],[(y2,.sh)]⟩ d174 func174 call174 [.fn E169] (uqs (uqs (.seq (.block upay) zds)))
def d235(a:List Int)(b:List Int):Option Bool:=bif !(decide ((a.length:Int)=(b.length:Int)))then some false else (zac (β:=Unit⊕Bool) (λ((c,e,i):ua3×ua3×Int)=>bif (decide (i<(c.length:Int)))then bif (decide (0<=i)&&decide (i<(c.length:Int)))then bif (decide (0<=i)&&decide (i<(e.length:Int)))then bif !(decide ((c.getD i.toNat 0)=(e.getD i.toNat 0)))then some (Sum.inr (Sum.inr false))else some (Sum.inl (c,e,(w (i+1))))else none else none else some (Sum.inr (Sum.inl ()))) (a,b,0)).bind λ
  |Sum.inl _=>some true
  |Sum.inr f=>some f
def E235:=uqy 235 ⟨[(y99,.bw),(y99,.bw)],[(y4,.sh)]⟩ d235 func235 call235 [] (uqs (.seq zkl (.seq (uqs (.block (.loop [ujas,ujan,(5,uqa)] uxaa upar))) zds)))
def d179(a:ua1)(b:ua1):Option Bool:=bif (a.1 == b.1)then (d235 a.2.1 b.2.1).bind λr=>bif r then (d235 a.2.2 b.2.2).bind λc=>some c else some false else some false
def E179:=uqy 179 ⟨[(y101,.bw),(y101,.bw)],[(y4,.sh)]⟩ d179 func179 call179 [.fn E235] zfy
def d249(a:List Int):Option ua2:=(zac (β:=ua2) (λ((g,b,i):ua3×ua2×Int)=>bif (decide (i<(g.length:Int)))then (zac (β:=(ua3×ua2×Int)) (λ((e,f,c,k):ua3×ua2×Int×Int)=>bif (decide (k<32))then bif (decide (0<=c)&&decide (c<(e.length:Int)))then bif (decide (0<=k))then bif (decide ((f.length:Int)+(([(decide ((wu32 ((BitVec.ofInt 32 (wu32 (Int.fdiv (e.getD c.toNat 0) (2^(min k.toNat 32))))&&&BitVec.ofInt 32 1).toNat:Int))=1))]:List Bool).length:Int)<=LIM))then some (Sum.inl (e,(f++[(decide ((wu32 ((BitVec.ofInt 32 (wu32 (Int.fdiv (e.getD c.toNat 0) (2^(min k.toNat 32))))&&&BitVec.ofInt 32 1).toNat:Int))=1))]),c,(wu64 (k+1))))else none else none else none else some (Sum.inr (e,f,c))) (g,b,i,0)).bind λ((h,j,l):ua3×ua2×Int)=>some (Sum.inl (h,j,(w (l+1))))else some (Sum.inr b)) (a,[],0)).bind λ(m:List Bool)=>(d189 m).bind λr=>some r
def d187(n:Int):Option ua2:=(d249 [(wu32 n),(wu32 (wu64 (Int.fdiv n (2^(min (Int.toNat 32) 64)))))]).bind λr=>some r
def d250(b:List Bool):Option ua3:=(d189 b).bind λr=>bif (decide ((w (Int.tdiv (w ((r.length:Int)+31)) 32))=(w (Int.tdiv (w ((r.length:Int)+31)) 32)))&&(decide (0<=(w (Int.tdiv (w ((r.length:Int)+31)) 32)))&&decide ((w (Int.tdiv (w ((r.length:Int)+31)) 32))<=LIM)))then (zac (β:=ua3) (λ((c,a,i):ua2×ua3×Int)=>bif (decide (i<(c.length:Int)))then zbl (λ((f,g,h):ua2×ua3×Int)=>some (Sum.inl (f,g,(w (h+1))))) λe=>bif (decide (0<=i)&&decide (i<(c.length:Int)))then bif (c.getD i.toNat false)then bif (decide (0<=(w (Int.tdiv i 32)))&&decide ((w (Int.tdiv i 32))<(a.length:Int)))then bif (decide (0<=(wu64 (w (Int.tmod i 32)))))then bif (decide (0<=(w (Int.tdiv i 32)))&&decide ((w (Int.tdiv i 32))<(a.length:Int)))then e (c,(List.set a (Int.toNat (w (Int.tdiv i 32))) (wu32 ((BitVec.ofInt 32 (a.getD (Int.toNat (w (Int.tdiv i 32))) 0)|||BitVec.ofInt 32 (wu32 (1*2^(min (Int.toNat (wu64 (w (Int.tmod i 32)))) 32)))).toNat:Int))),i)else none else none else none else e (c,a,i)else none else some (Sum.inr a)) (r,(List.replicate (Int.toNat (w (Int.tdiv (w ((r.length:Int)+31)) 32))) 0),0)).bind λ(j:List Int)=>some j else none
def d190(r:ua0):Option ua1:=(d250 r.2.1).bind λa=>(d250 r.2.2).bind λb=>some (r.1,a,b)
def d281(n:Int):Option ua2:=(zac (β:=ua2) (λ((a,b):Int×ua2)=>bif (decide (0<a))then bif (decide ((b.length:Int)+(([(decide ((w (Int.tmod a 2))=1))]:List Bool).length:Int)<=LIM))then some (Sum.inl ((w (Int.tdiv a 2)),(b++[(decide ((w (Int.tmod a 2))=1))])))else none else some (Sum.inr b)) (n,[])).bind λ(c:List Bool)=>some c
def d283(a:List Bool)(b:List Bool):Option (ua2×ua2):=bif (decide ((a.length:Int)=(a.length:Int))&&(decide (0<=(a.length:Int))&&decide ((a.length:Int)<=LIM)))then (zac (β:=(ua2×ua2)) (λ((c,e,q,r,i):ua2×ua2×ua2×ua2×Int)=>bif (decide (0<=i))then zbl (λ((h,j,k,l,m):ua2×ua2×ua2×ua2×Int)=>some (Sum.inl (h,j,k,l,(w (m-1))))) λg=>bif (decide (0<=i)&&decide (i<(c.length:Int)))then bif (decide ((([(c.getD i.toNat false)]:List Bool).length:Int)+(r.length:Int)<=LIM))then (d189 ([(c.getD i.toNat false)]++r)).bind λf=>(d121 f e).bind λn=>bif (decide (0<=n))then (d122 f e).bind λo=>bif (decide (0<=i)&&decide (i<(q.length:Int)))then g (c,e,(List.set q i.toNat true),o,i)else none else g (c,e,q,f,i)else none else none else some (Sum.inr (q,r))) (a,b,(List.replicate (Int.toNat (a.length:Int)) false),[],(w ((a.length:Int)-1)))).bind λ((p,s):ua2×ua2)=>(d189 p).bind λt=>some (t,s)else none
def d282(a:List Bool)(b:List Bool):Option ua2:=(zac (β:=ua2) (λ((e,c):ua2×ua2)=>bif (decide (0<(c.length:Int)))then (d283 e c).bind λr=>some (Sum.inl (c,r.2))else some (Sum.inr e)) (a,b)).bind λ(f:List Bool)=>(d189 f).bind λg=>some g
def d251(neg:Bool)(n:List Bool)(d:List Bool):Option ua0:=zbl (λ((f,a,b,j,g):Bool×ua2×ua2×ua0×Bool)=>bif g then (d281 1).bind λr=>some (false,[],r)else (d282 a b).bind λc=>(d283 a c).bind λh=>(d283 b c).bind λi=>some (f,h.1,i.1)) λe=>bif !(decide ((n.length:Int)=0))then e (neg,n,d,(false,[],[]),(decide ((d.length:Int)=0)))else e (neg,n,d,(false,[],[]),true)
def d191(a:ua0)(b:ua0):Option ua0:=(d118 a.2.1 b.2.2).bind λr=>(d118 a.2.2 b.2.1).bind λc=>(d251 (!(a.1 == b.1)) r c).bind λe=>some e
def d205(r:ua1):Option ua0:=(d249 r.2.1).bind λa=>(d249 r.2.2).bind λb=>(d251 r.1 a b).bind λc=>some c
def d227(a:ua1)(b:ua1):Option ua1:=(d231 a.2.1 b.2.1).bind λr=>(d231 a.2.2 b.2.2).bind λc=>(d164 (!(a.1 == b.1)) r c).bind λe=>some e
def E227:=uqy 227 ⟨[(y101,.bw),(y101,.bw)],[(y101,.sh)]⟩ d227 func227 call227 [.fn E231,.fn E164] zfy
def d233(a:ua1)(b:ua1):Option (ua1×Bool):=(d229 a).bind λr=>(d229 b).bind λc=>bif (decide ((c.2.1.length:Int)=0))then some ((false,[],[]),false)else (d231 r.2.1 c.2.2).bind λe=>(d231 r.2.2 c.2.1).bind λf=>(d164 (!(r.1 == c.1)) e f).bind λg=>some (g,true)
def E233:=uqy 233 ⟨[(y101,.bw),(y101,.bw)],[(y101,.sh),(y4,.sh)]⟩ d233 func233 call233 [.fn E229,.fn E231,.fn E164] (uqs upaz)
def d284(s1:List Int)(s2:List Int):Option Bool:=bif !(decide ((s1.length:Int)=(s2.length:Int)))then some false else (zac (β:=Unit⊕Bool) (λ((b,c,e,a):ua3×ua3×Int×Int)=>bif (decide (a<e))then bif (decide (0<=a)&&decide (a<(b.length:Int)))then bif (decide (0<=a)&&decide (a<(c.length:Int)))then bif !(decide ((b.getD a.toNat 0)=(c.getD a.toNat 0)))then some (Sum.inr (Sum.inr false))else some (Sum.inl (b,c,e,(w (a+1))))else none else none else some (Sum.inr (Sum.inl ()))) (s1,s2,(s1.length:Int),0)).bind λ
  |Sum.inl _=>some true
  |Sum.inr f=>some f
def E284:=uqy 284 ⟨[(y99,.bw),(y99,.bw)],[(y4,.sh)]⟩ d284 func284 call284 [] (uqs (.seq zkl (.seq (uqs (.block (.loop [ujas,ujan,ujaz,ujar] uxaa upaj))) zds)))
def d252(r:ua1):Option Bool:=(d229 r).bind λa=>bif (r.1 == a.1)then (d284 r.2.1 a.2.1).bind λb=>bif b then (d284 r.2.2 a.2.2).bind λc=>some c else some false else some false
def E252:=uqy 252 ⟨[(y101,.bw)],[(y4,.sh)]⟩ d252 func252 call252 [.fn E229,.fn E284] (uqs zfy)
def d300(a:ua0):Option ua0:=(d251 (!a.1) a.2.1 a.2.2).bind λr=>some r
def d299(a:ua0)(b:ua0):Option ua0:=(d118 a.2.1 b.2.2).bind λr=>(d118 b.2.1 a.2.2).bind λc=>(d118 a.2.2 b.2.2).bind λe=>bif (a.1 == b.1)then (d120 r c).bind λf=>(d251 a.1 f e).bind λg=>some g else (d121 r c).bind λh=>bif (decide (0<=h))then (d122 r c).bind λi=>(d251 a.1 i e).bind λj=>some j else (d122 c r).bind λk=>(d251 b.1 k e).bind λl=>some l
def d279(a:ua0)(b:ua0):Option Int:=(d300 b).bind λr=>(d299 a r).bind λc=>bif (decide ((c.2.1.length:Int)=0))then some 0 else bif c.1 then some (-1)else some 1
end
end Go.Proofs.YtamgmpngdmnadaaGreat
