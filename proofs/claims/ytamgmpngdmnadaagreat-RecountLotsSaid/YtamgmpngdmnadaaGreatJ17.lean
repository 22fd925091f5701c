/- A part of the proof. -/
import Derived.Test.YtamgmpngdmnadaaGreatJ16
set_option linter.defProp false
set_option linter.unusedSimpArgs false
set_option linter.unusedVariables false
namespace Go.Proofs.YtamgmpngdmnadaaGreat
open Go Go.X
def zkw{α:Type}{l:Nat}{d:α}(h:l+1<=4294967296):decide ((l:Int)+(([d]:List α).length:Int)<=LIM)=true:=by have e:=zch (l:=List.replicate l d) (d:=d) (by rw[xbq];exact h);rw[xbq]at e;exact e
def zij{p:Nat->Bool}{n:Nat}(hn:n<=1000):d324 (lst p n)=some (zaq p n):=by
 unfold d324;rw[zad];refine zaa (λi=>(zaq p i,lst p n,(n:Int),(i:Int))) n rfl (λi hi=>?_) (b:=zaq p n) ?_ rfl
 ·have hl:(zaq p i).length+1<=4294967296:=by rw[zav];have:=zax p i;omega
  rw[zeu];simp only[dlt hi,zbp,zad,xai,xab,tn,zaf _ hi,zal,wsx i];cases h:p i;·simp
  ·rw[xab,zch hl,xab];rfl
 ·simp only[nlt (xag n),xaf]
def soonR_at{lots:List Int}{least:Bool}{a b:Int}:∀{R:List (List Rat)} {i:Nat},i<R.length->(∀j,j<i->zam (R.getD j []) a=zam (R.getD j []) b)->zam (R.getD i []) a≠zam (R.getD i []) b ->
  zga lots least R a b=if least then decide (zam (R.getD i []) a<zam (R.getD i []) b)else decide (zam (R.getD i []) b<zam (R.getD i []) a)
 | [],i,h,_,_=>by simp at h
 |r::R,0,_,_,h2=>by unfold zga;have h2':zam r a≠zam r b:=h2;rw[if_neg h2'];rfl
 |r::R,i+1,h,h1,h2=>by unfold zga;have h0:zam r a=zam r b:=h1 0 (by omega);rw[if_pos h0];exact soonR_at (R:=R) (i:=i) (by simpa using h) (λj hj=>h1 (j+1) (by omega)) h2
def zvf{lots:List Int}{least:Bool}{a b:Int}:∀{R:List (List Rat)},(∀j,j<R.length->zam (R.getD j []) a=zam (R.getD j []) b)->zga lots least R a b=zga lots least [] a b
 | [],_=>rfl
 |r::R,h=>by have h0:zam r a=zam r b:=h 0 (by simp);rw[show zga lots least (r::R) a b=zga lots least R a b by rw[zga,if_pos h0]];exact zvf λj hj=>h (j+1) (by simpa using hj)
def zwu{lots:List Int}(hl:lots.length<=1000){a:Int}(ha:a∈lots):d180 lots a=some (zan lots a:Int):=by have h1:=xjf.2 ha;rw[zty a (by omega),zho,if_pos h1];rfl
def zvb(ties:Int)(E:List (List Rat)):List (List Rat):=if ties=1 then E.reverse else E
def zxn(ties:Int)(E:List (List Rat)):(zvb ties E).length=E.length:=by unfold zvb;split<;>simp
def tieE_mem{ties:Int}{E:List (List Rat)}{r:List Rat}(h:r∈zvb ties E):r∈E:=by
 unfold zvb at h;split at h;·exact List.mem_reverse.1 h
 ·exact h
def cmp_least{least:Bool}{x y:Rat}(h:x≠y):(decide (zrm x y<0) == least)=if least then decide (x<y)else decide (y<x):=by
 have e:decide (zrm x y<0)=decide (x<y):=by
  unfold zrm;by_cases h1:x<y;·rw[if_pos h1,xae h1];rfl
  ·rw[if_neg h1,xah h1,if_neg h];rfl
 rw[e];cases least
 ·by_cases h1:x<y;·have h2:¬y<x:=xhp.2 (xhz h1);simp[h1,h2]
  ·have h2:y<x:=by
    rcases Rat.le_iff_lt_or_eq.1 (xhp.1 h1)with q|q
    ·exact q
    ·exact absurd q.symm h
   simp[h1,h2]
 ·simp
def place_least{lots:List Int}{least:Bool}{a b:Int}(ha:a∈lots)(h:a≠b):(decide ((zan lots b:Int)<(zan lots a:Int)) == least)=zga lots least [] a b:=by
 have hb:zan lots a≠zan lots b:=λe=>h (place_inj ha e);unfold zga;cases least
 ·by_cases h1:zan lots b<zan lots a;·rw[zdt ((zan lots b:Int)<(zan lots a:Int))];simp only[xbb,xcg];rw[zdf (zan lots a<zan lots b)];rfl
  ·rw[zdf ((zan lots b:Int)<(zan lots a:Int))];simp only[xbb,xcg];rw[zdt (zan lots a<zan lots b)];rfl
 ·by_cases h1:zan lots b<zan lots a;·rw[zdt ((zan lots b:Int)<(zan lots a:Int))];simp[h1]
  ·rw[zdf ((zan lots b:Int)<(zan lots a:Int))];simp[h1]
def d84_mem{s:List Int}{f:Int->Option Bool}{g:Int->Bool}(hf:∀c∈s,f c=some (g c))(hs:s.length<=1000000):d84 s f=some (if zag g s<s.length then(zag g s:Int)else -1):=by
 unfold d84;by_cases hlt:zag g s<s.length
 ·rw[if_pos hlt];refine zaa (b:=.inr (zag g s:Int)) (λi=>(s,f,(s.length:Int),(i:Int))) (zag g s) rfl (λi hi=>?_) ?_ rfl
  ·have ha:i<s.length:=by omega
   simp only[dlt ha,zbp,xai,xab,tn,hf _ (zbx ha),xaa,zee g s i hi,xaf,wsx i]
  ·simp only[dlt hlt,zbp,xai,xab,tn,hf _ (zbx hlt),xaa,zfq g s hlt]
 ·rw[if_neg hlt];refine zaa (b:=.inl ()) (λi=>(s,f,(s.length:Int),(i:Int))) s.length rfl (λi hi=>?_) ?_ rfl
  ·have hg:g (s.getD i 0)=false:=by
    cases hh:g (s.getD i 0);·rfl
    ·exact absurd ((zfp g s).2 ⟨_,zbx hi,hh⟩) hlt
   simp only[dlt hi,zbp,xai,xab,tn,hf _ (zbx hi),xaa,hg,xaf,wsx i]
  ·simp only[nlt (xag s.length),xaf]
def d333_eq{s:List Int}{f:Int->Option Bool}{g:Int->Bool}(hf:∀c∈s,f c=some (g c))(hs:s.length<=1000000):d333 s f=some (s.any g):=by
 unfold d333;rw[d84_mem hf hs,xaa];by_cases hlt:zag g s<s.length;·obtain⟨x,hx,ha⟩:=(zfp g s).1 hlt;rw[if_pos hlt,zdt ((0:Int)<=(zag g s:Int)),xjl.2 ⟨x,hx,ha⟩]
 ·rw[if_neg hlt];have:s.any g=false:=by rw[List.any_eq_false];exact λx hx ha=>hlt ((zfp g s).2 ⟨x,hx,ha⟩)
  rw[this];rfl
def extr_votes{least:Bool}{f:Nat->Rat}{n:Nat}{L:List Int}(hL:∀x∈L,∃i:Nat,x=(i:Int)/\i<n):zjq least (zam (lst f n)) L=zjq least (λx=>f x.toNat) L:=by
 unfold zjq;have hv:∀x∈L,zam (lst f n) x=f x.toNat:=λx hx=>by obtain⟨i,rfl,hi⟩:=hL x hx;exact zaf _ hi 0
 refine xek λx hx=>?_;rw[xeb,xbl,xbl];constructor;·intro h k hk;have:=h k hk;rw[hv x hx,hv k hk]at this;exact this
 ·intro h k hk;have:=h k hk;rw[hv x hx,hv k hk];exact this
def cmp_neg{x y:Rat}:decide (zrm x y<0)=decide (x<y):=by
 unfold zrm;by_cases h1:x<y;·rw[if_pos h1,xae h1];rfl
 ·rw[if_neg h1,xah h1];split<;>rfl
def cmp_pos{x y:Rat}:decide (0<zrm x y)=decide (y<x):=by
 unfold zrm;by_cases h1:x<y;·rw[if_pos h1,xah (xhp.2 (xhz h1))];rfl
 ·rw[if_neg h1];by_cases h2:x=y
  ·have hn:¬y<x:=λh=>by rw[h2]at h;exact xkf h
   rw[if_pos h2,xah hn];rfl
  ·rw[if_neg h2];rcases Rat.le_iff_lt_or_eq.1 (xhp.1 h1)with q|q
   ·rw[xae q];rfl
   ·exact absurd q.symm h2
def d328_eq{n:Nat}{v:List Rat}(hv:RndOK n v){r:RD}(hr:r.1=v.map rr){cands:List Int}(hc:∀x∈cands,∃i:Nat,x=(i:Int)/\i<n)(hl:cands.length<=1000)(least:Bool) :
  d328 r cands least=some (zjq least (zam v) cands):=by
 have hf:d78 cands=some cands:=by show(bif decide ((cands.length:Int)<=LIM)then some cands else none)=_;rw[zcg (by omega)];rfl
 have hb:∀x∈cands,∀y∈cands,d334 x r y least=some (if least then decide (zam v x<zam v y)else decide (zam v y<zam v x)):=λx hx y hy=>by
  obtain⟨i,rfl,hi⟩:=hc x hx;obtain⟨j,rfl,hj⟩:=hc y hy;have ha:i<v.length:=by rw[hv.1];exact hi
  have he:j<v.length:=by rw[hv.1];exact hj
  unfold d334;rw[hr];simp only[xao,dlt ha,dlt he,zbp,xai,xab,tn,zck ha,zck he,zmu (hv.2 _ (zba ha)).sz2 (hv.2 _ (zba he)).sz2,xaa,cmp_neg,cmp_pos];show _=some (if least then decide (v.getD i 0<v.getD j 0)else decide (v.getD j 0<v.getD i 0));cases least;·simp
  ·cases decide (v.getD i 0<v.getD j 0)<;>simp
 unfold d328;rw[hf,xaa,zpr (g:=λc=>cands.any λd=>if least then decide (zam v d<zam v c)else decide (zam v c<zam v d)) (λc hcm=>by unfold d332;rw[d333_eq (g:=λd=>if least then decide (zam v d<zam v c)else decide (zam v c<zam v d)) (λd hd=>hb d hd c hcm) (by omega)];rfl) (by omega)]
 simp only[xaa];unfold zjq;congr 1;refine xek λc hcm=>?_;rw[List.not_any_eq_all_not];congr 1;funext d;cases least
 ·simp only[xbb,xcg];by_cases h:zam v c<zam v d;·rw[xae h,xah (xii.2 h)];rfl
  ·rw[xah h,xae (xhp.1 h)];rfl
 ·simp only[if_true];by_cases h:zam v d<zam v c;·rw[xae h,xah (xii.2 h)];rfl
  ·rw[xah h,xae (xhp.1 h)];rfl
def zoy(l:List Int):(zcf l).Perm l:=List.mergeSort_perm l _
def sortI_sorted(l:List Int):(zcf l).Pairwise (·<=·):=by unfold zcf;have:=List.pairwise_mergeSort (le:=λx y:Int=>decide (x<=y)) (λa b c h1 h2=>xae (Int.le_trans (xbc h1) (xbc h2))) (λa b=>by simp only[xeg,xak];omega) l;exact this.imp λh=>xbc h
def sortI_app(a b:List Int):zcf (zcf a++b)=zcf (a++b):=zhs (((zoy a).append_right b).trans (zoy (a++b)).symm) (sortI_sorted _)
def sortI_len(a:List Int):(zcf a).length=a.length:=(zoy a).length_eq
def d98_eqR{l:List Int}(h:l.length<=4294967296):d98 l=some (zcf l):=by show(bif decide ((l.length:Int)<=LIM)then some (zcf l)else none)=_;rw[zcg (by omega)];rfl
def sooG_eq{Z:Type}{s:ST×Z}{n:Nat}{E:List (List Rat)}{lots:List Int}{ties:Int}(hE:s.1.2.2.2.2.2.2=E.map (List.map rr))(hlots:s.1.2.2.1=lots)(hties:s.1.1.2.2.2.2.2.2.1=ties)(hl:LotsOK n lots)(hR:∀r∈E,RndOK n r)(hEl:E.length<=1000000)(least:Bool){a b:Nat}(ha:a<n)(hb:b<n)(hab:a≠b) :
  sooG s (a:Int) (b:Int) least=some (zga lots least (zau ties E) (a:Int) (b:Int)):=by
 have hn:=hl.mem ha;have hv:=hl.mem hb;have hr:lots.length<=1000:=by have:=hl.len;have:=hl.n7;omega
 have hm:(a:Int)≠(b:Int):=by omega
 unfold sooG;refine zeo (λi=>(s,(a:Int),(b:Int),least,(E.length:Int),(i:Int))) (λi=>!decide (ties=3)&& !decide (zam ((zvb ties E).getD i []) (a:Int)=zam ((zvb ties E).getD i []) (b:Int))) E.length
  (λi=>Sum.inr (decide (zrm (zam ((zvb ties E).getD i []) (a:Int)) (zam ((zvb ties E).getD i []) (b:Int))<0) == least)) (Sum.inl (s,(a:Int),(b:Int),least)) (by rw[hE,xao];rfl) (λi hi _=>?_) (λ_=>?_) (λi hi hp hq=>?_) (λhq=>?_)
 ·have hs:i<(zvb ties E).length:=by rw[zxn];exact hi
  have hh:=hR _ (tieE_mem (zba (d:=([]:List Rat)) hs));have hd:a<((zvb ties E).getD i []).length:=by rw[hh.1];exact ha
  have he:b<((zvb ties E).getD i []).length:=by rw[hh.1];exact hb
  have hg:∀k,k<E.length->∀d,(E.map (List.map rr)).getD k d=(E.getD k []).map rr:=λk hk d=>by rw[xad,xci,xaj hk,xad,xaj hk];rfl
  have hf:=zmu (hh.2 _ (zba (d:=(0:Rat)) hd)).sz2 (hh.2 _ (zba (d:=(0:Rat)) he)).sz2;have ew:w ((i:Int)+1)=((i+1:Nat):Int):=zmh (by omega);have ew1:w (w ((E.length:Int)-1)-(i:Int))=((E.length-1-i:Nat):Int):=by rw[show w ((E.length:Int)-1)=((E.length-1:Nat):Int) by rw[zbq (by omega) (by omega)];omega,zbq (by omega) (by omega)];omega
  simp only[dlt hi,hE,xao,zbp,xai,xab,zal,hties,ew1,dlt (show E.length-1-i<E.length by omega),tn,hg i hi,hg (E.length-1-i) (by omega)];have hc:(bif decide (ties=1)then E.getD (E.length-1-i) []else E.getD i [])=(zvb ties E).getD i []:=by
   unfold zvb;by_cases h1:ties=1;·rw[xae h1,xab,if_pos h1,xad,xad,List.getElem?_reverse hi]
   ·rw[xah h1,xaf,if_neg h1]
  generalize(zvb ties E).getD i []=R at *;have hu:zam R (a:Int)=R.getD a 0:=rfl;have ht:zam R (b:Int)=R.getD b 0:=rfl;rw[hu,ht];by_cases h1:ties=1;·rw[xae h1,xab]at hc;rw[xae h1,xab,hc];simp only[xao,dlt hd,dlt he,zbp,xai,xab,tn,zck hd,zck he,hf,xaa,zud,ew];cases decide (R.getD a 0=R.getD b 0)<;>cases decide (ties=3)<;>rfl
  ·rw[xah h1,xaf]at hc;rw[xah h1,xaf,hc];simp only[xao,dlt hd,dlt he,zbp,xai,xab,tn,zck hd,zck he,hf,xaa,zud,ew];cases decide (R.getD a 0=R.getD b 0)<;>cases decide (ties=3)<;>rfl
 ·simp only[nlt (xag E.length),xaf]
 ·have h3:ties≠3:=λh=>by simp[h]at hp
  have ho:zam ((zvb ties E).getD i []) (a:Int)≠zam ((zvb ties E).getD i []) (b:Int):=λh=>by rw[h]at hp;simp at hp
  have e:zau ties E=zvb ties E:=by unfold zau zvb;rw[if_neg h3]
  rw[e,soonR_at (i:=i) (by rw[zxn];exact hi) (λj hj=>by have:=hq j hj;rw[xah h3]at this;simpa using this) ho]
  show some _=some _;rw[cmp_least ho]
 ·have e:zga lots least (zau ties E) (a:Int) (b:Int)=zga lots least [] (a:Int) (b:Int):=by
   by_cases h3:ties=3;·unfold zau;rw[if_pos h3]
   ·have e:zau ties E=zvb ties E:=by unfold zau zvb;rw[if_neg h3]
    rw[e];exact zvf λj hj=>by have:=hq j (by rw[zxn]at hj;exact hj);rw[xah h3]at this;simpa using this
  rw[e];show(d180 s.1.2.2.1 (a:Int)).bind _=_;rw[hlots,zwu hr hn,xaa];rw[zwu hr hv,xaa,place_least hn hm]
def zrn{Z:Type}{s:ST×Z}{n:Nat}{E:List (List Rat)}{lots:List Int}{ties:Int}(hE:s.1.2.2.2.2.2.2=E.map (List.map rr))(hlots:s.1.2.2.1=lots)(hties:s.1.1.2.2.2.2.2.2.1=ties)(hl:LotsOK n lots)(hR:∀r∈E,RndOK n r)(hEl:E.length<=1000000)(least:Bool)
  {tied:List Int} (hne:tied≠ []) (hts:tied.Pairwise (·< ·)) (htb:∀c∈tied,∃i:Nat,c=(i:Int)/\i<n) (htl:tied.length<=1000) (r:RD) :
  chooG s r tied least=some (zvc ties E tied lots least,r.1,r.2.1,r.2.2.1,r.2.2.2.1,r.2.2.2.2.1,r.2.2.2.2.2.1,r.2.2.2.2.2.2.1,if 1<tied.length then tied else r.2.2.2.2.2.2.2):=by
 have hp:=xcr.2 hne;have hn:=zuf (ties:=ties) (E:=E) (lots:=lots) (least:=least) hne (λc hc=>by obtain⟨i,rfl,hi⟩:=htb c hc;exact hl.mem hi);unfold chooG;rw[show(decide (0<=0)&&decide ((0:Int)<(tied.length:Int)))=true by rw[zdt ((0:Int)<(tied.length:Int))];rfl,xab];rw[show zcr 1 (tied.length:Int) tied.length=true by unfold zcr;simp;omega,xab];have hj:List.drop 1 (List.take (Int.toNat (tied.length:Int)) tied)=tied.tail:=by rw[xam,xaz];simp
 have hh:tied.getD 0 0=tied.headD 0:=zis tied;rw[hj,hh];have hb:∀i,(tied.tail.take i).foldl (λb c=>if zga lots least (zau ties E) c b then c else b) (tied.headD 0)=tied.headD 0\/(tied.tail.take i).foldl (λb c=>if zga lots least (zau ties E) c b then c else b) (tied.headD 0)∈tied.tail.take i:=λi=>zla (λb c=>if zga lots least (zau ties E) c b then c else b) (λa b=>by split<;>simp) _ _;have hr:tied.tail.length=tied.length-1:=xif;refine zaa (λi=>(s,r,tied,least,(tied.tail.take i).foldl (λb c=>if zga lots least (zau ties E) c b then c else b) (tied.headD 0),tied.tail,(tied.tail.length:Int),(i:Int))) tied.tail.length ?_ (λi hi=>?_) (b:=(r,tied,zvc ties E tied lots least)) ?_ ?_;·rw[xcq,xgr];rfl
 ·have hs:tied.tail.take (i+1)=tied.tail.take i++[tied.tail.getD i 0]:=zaw tied.tail 0 hi;have hf:tied.tail.getD i 0∈tied.tail:=zbx hi;obtain⟨x,ex,hx⟩:=htb _ (List.mem_of_mem_tail hf);have hk:tied.Nodup:=hts.imp λ{a b} h=>by omega
  have ha:tied.tail.getD i 0≠tied.headD 0/\tied.tail.getD i 0∉tied.tail.take i:=by
   cases tied with
   |nil=>exact absurd rfl hne
   |cons y t=>simp only[xjb,xgi]at *;have he:=xfb.1 hk;refine⟨λe=>he.1 (by rw[<-e];exact hf),λhm=>?_⟩;have e:t=t.take (i+1)++t.drop (i+1):=(xcp _ _).symm;have hg:=he.2;rw[e,hs]at hg;exact(xdh.1 (xdh.1 hg).1).2.2 _ hm _ (by simp) rfl
  have hd:=hb i;simp only[dlt hi,zbp,xai,xab,tn,zal,hs,xej,xfd,xgr,wsx i];generalize(tied.tail.take i).foldl (λb c=>if zga lots least (zau ties E) c b then c else b) (tied.headD 0)=m at hd;have ho:m∈tied:=by
   rcases hd with h|h
   ·rw[h];exact zgi hne
   ·exact List.mem_of_mem_tail (xca h)
  obtain⟨y,rfl,hy⟩:=htb m ho;have hq:x≠y:=by
   intro e;subst e;rw[ex]at ha;rcases hd with h|h
   ·exact ha.1 h
   ·exact ha.2 h
  rw[ex,sooG_eq hE hlots hties hl hR hEl least hx hy hq,xaa];cases zga lots least (zau ties E) (x:Int) (y:Int)<;>rfl
 ·simp only[nlt (xag tied.tail.length),xaf,xaz,hn]
 ·simp only[zal];by_cases h1:1<tied.length;·rw[zdt ((1:Int)<(tied.length:Int)),xab,if_pos h1]
  ·rw[zdf ((1:Int)<(tied.length:Int)),xaf,if_neg h1]
def elG_eq{c:CT}{gs:List Grp}{lots:List Int}{hop ele:Nat->Bool}{n fl:Nat}{V:List (List Rt)}{Z:Type}{z:Z}{v k:List Rt}{q e sr:Rt}{el ex ti:List Int}{x:Nat}(hx:x<n)(hfl:fl<=1000)(hel:el.length<=1000) :
  elG ((c,gs,lots,lst hop n,lst ele n,(fl:Int),V),z) (v,k,q,e,sr,el,ex,ti) (x:Int)=some (((c,gs,lots,lst (upd hop x false) n,lst (upd ele x true) n,((fl+1:Nat):Int),V),z),(v,k,q,e,sr,zcf (el++[(x:Int)]),ex,ti)):=by
 unfold elG;simp only[zad,dlt hx,zbp,xai,xab,tn,zcl,wsx fl];rw[zch (by omega),xab,d98_eqR (by simp;omega)];rfl
def exG_eq{c:CT}{gs:List Grp}{lots:List Int}{hop:Nat->Bool}{n:Nat}{Y1:List Bool×(Int×List (List Rt))}{Z:Type}{z:Z}{v k:List Rt}{q e sr:Rt}{el ex ti:List Int}{x:Nat}(hx:x<n) :
  exG ((c,gs,lots,lst hop n,Y1),z) (v,k,q,e,sr,el,ex,ti) (x:Int)=some (((c,gs,lots,lst (upd hop x false) n,Y1),z),(v,k,q,e,sr,el,[(x:Int)],ti)):=by
 unfold exG;simp only[zad,dlt hx,zbp,xai,xab,tn,zcl]
def lfG_eq{Z:Type}{s:ST×Z}{hop ele:Nat->Bool}{n:Nat}(hn:n<=1000)(hh:s.1.2.2.2.1=lst hop n)(he:s.1.2.2.2.2.1=lst ele n):lfG s=some ((zbu ele n+zbu hop n:Nat):Int):=by unfold lfG;have h1:=zax ele n;have h2:=zax hop n;rw[hh,he,zij hn,zij hn];simp only[xaa,zav];rw[zbq (by omega) (by omega)];simp
def eaG_eq{c:CT}{gs:List Grp}{lots:List Int}{hop ele:Nat->Bool}{n fl:Nat}{V:List (List Rt)}{Z:Type}{z:Z}{v k:List Rt}{q e sr:Rt}{el ex ti:List Int}(hn:n<=7)(hfl:fl<=900)(hel:el.length<=900)(hes:zcf el=el) :
  ∃hop' ele' fl',eaG ((c,gs,lots,lst hop n,lst ele n,(fl:Int),V),z) (v,k,q,e,sr,el,ex,ti)=some (((c,gs,lots,hop',ele',fl',V),z),(v,k,q,e,sr,zcf (el++zaq hop n),ex,ti)):=by
 have hL:(zcy hop n).length<=7:=by rw[zcb];exact xay (zax _ _) hn
 refine⟨lst (zbz hop (zcy hop n) false) n,lst (zbz ele (zcy hop n) true) n,((fl+(zcy hop n).length:Nat):Int),?_⟩;unfold eaG;simp only[zij (show n<=1000 by omega),xaa];have ha:(zaq hop n).length=(zcy hop n).length:=by unfold zaq;rw[xao]
 refine zaa (λi=>(((c,gs,lots,lst (zbz hop ((zcy hop n).take i) false) n,lst (zbz ele ((zcy hop n).take i) true) n,((fl+i:Nat):Int),V),z),(v,k,q,e,sr,zcf (el++(zaq hop n).take i),ex,ti),zaq hop n,((zaq hop n).length:Int),(i:Int))) (zaq hop n).length ?_ (λi hi=>?_) (b:=(((c,gs,lots,lst (zbz hop (zcy hop n) false) n,lst (zbz ele (zcy hop n) true) n,((fl+(zcy hop n).length:Nat):Int),V),z),(v,k,q,e,sr,zcf (el++zaq hop n),ex,ti))) ?_ rfl;·rw[xcq,xcq,zeq,zeq,xbn,hes];rfl
 ·have hb:i<(zcy hop n).length:=by omega
  have h1:(zaq hop n).take (i+1)=(zaq hop n).take i++[(((zcy hop n).getD i 0:Nat):Int)]:=by rw[zaw _ 0 hi,zev hb]
  have h2:(zcy hop n).take (i+1)=(zcy hop n).take i++[(zcy hop n).getD i 0]:=zaw _ 0 hb;have h3:=(zdw hb).1;simp only[dlt hi,zbp,xai,xab,tn,zev hb,elG_eq h3 (show fl+i<=1000 by omega) (show(zcf (el++(zaq hop n).take i)).length<=1000 by rw[sortI_len,xbo,xax];omega),xaa,zel,h1,h2,sortI_app,xbv,wsx i];rfl
 ·rw[<-ha];simp only[nlt (xag (zaq hop n).length),xaf];rw[ha,xaz,<-ha,xaz]
def d327177_G:ztp=chooG (Z:=Unit):=rfl
def d327180_G:zto=chooG (Z:=(Int×(List Int×(Int×(Bool×Int))))):=rfl
def d327183_G:zpo=chooG (Z:=(Int×(List Bool×(List Bool×(List Rt×(List (List Int)×List Rt)))))):=rfl
def d325180_G:ztu=elG (Z:=(Int×(List Int×(Int×(Bool×Int))))):=rfl
def d325183_G:ztt=elG (Z:=(Int×(List Bool×(List Bool×(List Rt×(List (List Int)×List Rt)))))):=rfl
def d326177_G:zts=exG (Z:=Unit):=rfl
def d326180_G:ztr=exG (Z:=(Int×(List Int×(Int×(Bool×Int))))):=rfl
def d326183_G:ztq=exG (Z:=(Int×(List Bool×(List Bool×(List Rt×(List (List Int)×List Rt)))))):=rfl
def d321183_G:ztw=lfG (Z:=(Int×(List Bool×(List Bool×(List Rt×(List (List Int)×List Rt)))))):=rfl
def d339180_G:ztn=eaG (Z:=(Int×(List Int×(Int×(Bool×Int))))):=rfl
def d339183_G:ztm=eaG (Z:=(Int×(List Bool×(List Bool×(List Rt×(List (List Int)×List Rt)))))):=rfl
def mapOp_map{α β:Type}{f:α->Option β}{g:α->β}:∀{l:List α},(∀x∈l,f x=some (g x))->mapOp f l=some (l.map g)
 | [],_=>rfl
 |x::l,h=>by unfold mapOp;rw[h x (by simp),xaa,mapOp_map λy hy=>h y (by simp[hy])];rfl
def d330_eq{r:List Bool}{c:Int}(hc:0<=c):d330 c r=some (!rem r c):=by
 unfold d330 d148 rem;by_cases h:c<(r.length:Int);·simp only[h,hc,if_true,xbh,xab,xai,xaa]
 ·simp only[h,xcg,xdc,xaf,xaa]
def zxf(f:List Int->Int)(q:List Int->List Int):∀gs:List Grp,zbi f (gs.map λg=>(q g.1,g.2))=zbi (λp=>f (q p)) gs
 | []=>rfl
 |g::gs=>by have:=zxf f q gs;simp only[xdo,zbi,this]
def isB_filter{n:Int}{p:List Int}(h:isB n p)(q:Int->Bool):isB n (p.filter q):=⟨h.1.filter _,λx hx=>h.2 x (xfw.1 hx).1⟩
def restr_eq{n:Nat}{gs:List Grp}{N:Int}(h:PileOK (n:Int) gs N)(hn:n<=7)(hl:gs.length<=12)(r:List Bool) :
  ∃R:List Grp,d323 gs r=some R/\(∀f,zbi f R=zbi (λp=>f (p.filter (rem r))) gs)/\(∀g∈R,isB (n:Int) g.1/\1<=g.2)/\R.length<=12:=by
 have hb:=h.ballots;have hh:∀g∈gs,g.1.length<=7:=λg hg=>xay (zjk (hb g hg).1 (by omega)) (by omega);have he:subO gs r=some (gs.map λg=>(g.1.filter (rem r),g.2)):=by unfold subO;refine mapOp_map λg hg=>?_;rw[zpr (g:=λc=>!rem r c) (λc hc=>d330_eq ((hb g hg).1.2 c hc).1) (by have:=hh g hg;omega),xaa];simp
 have ha:∀y∈gs.map (λg=>((g.1.filter (rem r),g.2):Grp)),isB (n:Int) y.1/\1<=y.2:=λy hy=>by obtain⟨g,hg,rfl⟩:=xdx.1 hy;exact⟨isB_filter (hb g hg).1 _,(hb g hg).2⟩
 have hd:∀y∈gs.map (λg=>((g.1.filter (rem r),g.2):Grp)),y.1.length<=7:=λy hy=>xay (zjk (ha y hy).1 (by omega)) (by omega);obtain⟨L,h1,h2,h3⟩:=d79_eq (gs:=gs.map λg=>(g.1.filter (rem r),g.2)) (by rw[xao];exact hl) (λg hg=>⟨by have:=hd g hg;omega,(ha g hg).2⟩) (by rw[zxf];have:=h.total;have:=h.most;show zbi (λ_=>1) gs<=_;omega)
 have m:=mrg_ok h2;refine⟨L.foldl zra [],?_,λf=>?_,λg hg=>⟨?_,?_⟩,?_⟩;·unfold d323;rw[if_pos ⟨by omega,λg hg=>by have:=hh g hg;omega⟩,h.d146 (by omega),xaa,xab,he,xaa,if_pos λy hy=>by have:=hd y hy;omega];exact h3
 ·rw[m.sum,wsum_perm _ h1,zxf]
 ·obtain⟨g',hf,e⟩:=m.mem g hg;rw[e];exact(ha g' (h1.mem_iff.1 hf)).1
 ·exact m.pos (λg' hf=>(ha g' (h1.mem_iff.1 hf)).2) g hg
 ·have:=m.len;rw[h1.length_eq,xao]at this;omega
def zuy(c:Int)(p:List Int):Int:=if p.head?=some c then 1 else 0
def ziy(p:List Int):Int:=if p=[]then 1 else 0
def zpm(q:Int->Bool):∀p:List Int,(p.filter q).head?=if zag q p<p.length then some (p.getD (zag q p) 0)else none
 | []=>rfl
 |x::p=>by
  rw[xer,zag];cases hx:q x
  ·simp only[xbb,xcg];rw[zpm q p];by_cases h:zag q p<p.length;·rw[if_pos h,if_pos (by simpa using h)];rfl
   ·rw[if_neg h,if_neg (by simpa using h)]
  ·simp
def top1_isTop(r:List Bool)(c:Int)(p:List Int):zuy c (p.filter (rem r))=zhq r c p:=by
 unfold zuy zhq;rw[zpm];by_cases h:zag (rem r) p<p.length
 ·rw[if_pos h];by_cases h2:p.getD (zag (rem r) p) 0=c;·rw[if_pos (by rw[h2]),if_pos ⟨h,h2⟩]
  ·rw[if_neg (λe=>h2 (xbi e)),if_neg (λe=>h2 e.2)]
 ·rw[if_neg h,if_neg (show ¬(none:Option Int)=some c by simp),if_neg (λe=>h e.1)]
def blank_none(r:List Bool)(p:List Int):ziy (p.filter (rem r))=zhp r p:=by
 unfold ziy zhp;have h:=zpm (rem r) p;by_cases h1:zag (rem r) p<p.length;·rw[if_pos h1]at h ⊢;rw[if_neg (λe=>by rw[e]at h;simp at h)]
 ·rw[if_neg h1]at h ⊢;rw[if_pos (by rwa[List.head?_eq_none_iff]at h)]
def zen{n:Int}{R:List Grp}(h:∀g∈R,isB n g.1/\1<=g.2){f:List Int->Int}(hf:∀p,0<=f p/\f p<=1)(i:Nat):0<=zbi f (R.take i)/\zbi f (R.take i)<=zbi (λ_=>1) R:=by
 have h1:=zgo (n:=n) (gs:=R.take i) (λg hg=>h g (xca hg)) hf;have h2:=zgo (n:=n) (gs:=R.drop i) (λg hg=>h g (xeu hg)) (f:=λ_=>1) (λ_=>by omega);have h3:zbi (λ_=>1) R=zbi (λ_=>1) (R.take i)+zbi (λ_=>1) (R.drop i):=by rw[<-zgp,xcp]
 omega
def stIr(c:CT)(gs:List Grp)(P:GP)(st:Nat->Nat)(rs:List Rd):ST×Unit:=((c,gs,P.lots,lst (λi=>decide (st i=0)) P.n,lst (λ_=>false) P.n,0,(rs.map Rd.votes).map (List.map rr)),())
def winU(P:GP)(st:Nat->Nat):Nat->Int
 | 0=>-1
 |i+1=>if st i=0/\zhg P st<2*iv P st i then(i:Int)else winU P st i
def winU_none{P:GP}{st:Nat->Nat}:∀{n:Nat},(∀i,i<n->¬(st i=0/\zhg P st<2*iv P st i))->winU P st n=-1
 | 0,_=>rfl
 |n+1,h=>by rw[winU,if_neg (h n (by omega)),winU_none λi hi=>h i (by omega)]
def winU_one{P:GP}{st:Nat->Nat}{x:Nat}:∀{n:Nat},x<n->(st x=0/\zhg P st<2*iv P st x)->(∀i,i<n->(st i=0/\zhg P st<2*iv P st i)->i=x)->winU P st n=(x:Int)
 | 0,h,_,_=>by omega
 |n+1,h,hx,hu=>by
  rw[winU];by_cases hn:n=x;·subst hn;rw[if_pos hx]
  ·rw[if_neg λhc=>hn (hu n (by omega) hc),winU_one (by omega) hx λi hi=>hu i (by omega)]
def iv_exh{P:GP}(hP:P.OK)(st:Nat->Nat):zhg P st+zqs P st=P.tot:=by
 have h:=lie_sum (s:=pl P st) hP;have e:zhg P st=zaz (λg=>if nxt (P.p g) st 0<(P.p g).length then P.k g else 0) P.G:=by refine Eq.trans h (zay λg _=>?_);show(if nxt (P.p g) st 0<(P.p g).length then P.k g*1 else 0)=_;rw[xea]
 rw[e,zqs,<-zde,<-hP.total];refine zay λg _=>?_;by_cases h:nxt (P.p g) st 0<(P.p g).length<;>simp[h]
def zpi{P:GP}(hP:P.OK){st:Nat->Nat}(hl:0<(zcq P st).length) :
  (∃x,x<P.n/\st x=0/\iwin P st=some x/\(if(zcq P st).length=1 then((zaq (λi=>decide (st i=0)) P.n).getD 0 0)else winU P st P.n)=(x:Int)) \/
  (iwin P st=none/\(zcq P st).length≠1/\winU P st P.n=-1):=by
 have hq:∀i,(zlu P st<=iv P st i↔zhg P st<2*iv P st i):=λi=>by unfold zlu;omega
 unfold iwin;by_cases h1:(zcq P st).length=1
 ·rw[if_pos h1];obtain⟨x,hx⟩:=xcw.1 h1;have hm:x∈zcq P st:=by rw[hx];simp
  obtain⟨a1,a2⟩:=zby.1 hm;refine .inl ⟨x,a1,xbc a2,by rw[hx];rfl,?_⟩;rw[if_pos h1];show((zcq P st).map Int.ofNat).getD 0 0=_;rw[hx];rfl
 ·rw[if_neg h1];cases hf:(zcq P st).find? λi=>decide (zlu P st<=iv P st i)with
  |none=>refine .inr ⟨rfl,h1,winU_none λi hi hc=>?_⟩;have:=List.find?_eq_none.1 hf i (zby.2 ⟨hi,xae hc.1⟩);exact this (xae ((hq i).2 hc.2))
  |some x=>have h2:=List.find?_some hf;obtain⟨a1,a2⟩:=zby.1 (List.mem_of_find?_eq_some hf);have a3:=xbc a2;have h3:=(hq x).1 (xbc h2);refine .inl ⟨x,a1,a3,rfl,?_⟩;rw[if_neg h1];refine winU_one a1 ⟨a3,h3⟩ λi hi hc=>?_;refine Classical.byContradiction λhne=>?_;have h4:iv P st i+iv P st x<=zhg P st:=sum_two hi a1 hne;omega
def extr_topsN(P:GP)(v st:Nat->Nat):zjq true (zam (lst (λi=>(v i:Rat)) P.n)) (zaq (λi=>decide (st i=0)) P.n)=zaq (zkm P v st 0 false) P.n:=by
 unfold zjq;rw[zem];refine zfn λi hi=>?_;unfold zkm;congr 1;have hv:∀k:Nat,k<P.n->zam (lst (λi=>(v i:Rat)) P.n) (k:Int)=(v k:Rat):=λk hk=>zaf _ hk 0;rw[xeb,xbl,xbl];constructor
 ·intro h k hk;have ha:=xcm.1 hk;by_cases h0:st k=0;·have:=h (k:Int) (zap.2 ⟨k,rfl,ha,xae h0⟩);rw[hv i hi,hv k ha]at this;have:=xbc this;rw[<-zfw,<-zfw,zhi (by omega)]at this;simp[this]
  ·simp[h0]
 ·intro h x hx;obtain⟨k,rfl,hk,h0⟩:=zap.1 hx;have:=h k (xcm.2 hk);rw[h0]at this;simp only[xat,xbz,xbb,xcg,xak]at this;rw[hv i hi,hv k hk];simp only[if_true,xak];rw[<-zfw,<-zfw,zhi (by omega)];exact this
def ti_eq{l:List Int}(h:l≠ []):(if 1<l.length then l else [])=if l.length=1 then []else l:=by
 have:=xcr.2 h;by_cases h1:l.length=1;·rw[if_pos h1,if_neg (by omega)]
 ·rw[if_neg h1,if_pos (by omega)]
def ipick_tieB{P:GP}(hP:P.OK){st:Nat->Nat}(E:List (List Rat))(hl:0<(zcq P st).length):zvc P.ties E (zes P st) P.lots true=zmr P E st:=by
 unfold zmr;by_cases h1:(zes P st).length=1;·rw[if_pos h1];obtain⟨x,hx⟩:=xcw.1 h1;obtain⟨i,e,hi,_⟩:=zrf (P:=P) (st:=st) (x:=x) (by rw[hx];simp);rw[hx,zml (by rw[e];exact(zhf hP).mem hi)];rfl
 ·rw[if_neg h1]
def RndI(c:CT)(gs:List Grp)(P:GP)(st:Nat->Nat)(rs:List Rd)(z:Option (RD×Bool×(ST×Unit))):Prop:=
 (∃x,iwin P st=some x/\∃s',z=some (rdT (irdW P st x),true,s')) \/
 (iwin P st=none/\∃x,x<P.n/\st x=0/\zmr P (rs.map Rd.votes) st=(x:Int)/\z=some (rdT (irdX P (rs.map Rd.votes) st),false,stIr c gs P (upd st x 3) (rs++[irdX P (rs.map Rd.votes) st])))
def iwin_two{P:GP}(hP:P.OK){st:Nat->Nat}(hl:0<(zcq P st).length)(hw:iwin P st=none):(zcq P st).length≠1:=by
 rcases zpi hP hl with⟨y,_,_,h3,_⟩|⟨_,h3,_⟩
 ·rw[hw]at h3;cases h3
 ·exact h3
def d322_eq{c:CT}{gs:List Grp}{lots:List Int}(hfit:zlc 1 c gs lots=0)(h12:gs.length<=12){st:Nat->Nat}{rs:List Rd}(hR:∀r∈rs,RndOK (zbc c gs lots).n r.votes)(hrl:rs.length<=1000)(hl:0<(zcq (zbc c gs lots) st).length) :
  RndI c gs (zbc c gs lots) st rs (d322 (stIr c gs (zbc c gs lots) st rs)):=by
 have hP:=(zjl hfit).1;have hz:=zdy hfit;have ha:PileOK ((zbc c gs lots).n:Int) gs (zbi (λ_=>1) gs):=hz.2.2.2.2.2.2.2.2.2.2.2.2.1;have hf:c.2.2.2.2.2.2.1=(zbc c gs lots).ties:=rfl;have ji:=votes_iv ha c lots st;have jd:=exh_iv ha c lots st;have hh:zbi (λ_=>1) gs=((zbc c gs lots).tot:Int):=by have:=(zgo ha.ballots (f:=λ_=>1) λ_=>by omega).1;show _=(((zbi (λ_=>1) gs).toNat:Nat):Int);omega
 have jl:=hz.2.2.2.2.2.2.2.2.2.2.2.2.2.1;generalize hPg:zbc c gs lots=P at *;have h9:=hP.n7;have jk:=hP.tot5;have jo:=iv_exh hP st;obtain⟨R,jc,hk,hb,jn⟩:=restr_eq ha h9 h12 (lst (λi=>decide (st i=0)) P.n);have jp:zbi (λ_=>1) R<=100000:=by rw[hk,hh];omega
 have hp:∀i:Nat,i<P.n->zbi (zuy (i:Int)) R=((iv P st i:Nat):Int):=λi hi=>by rw[hk,zli (g:=zhq (lst (λi=>decide (st i=0)) P.n) (i:Int)) λx _=>top1_isTop _ _ _];have e:=xbr (λl:List Int=>l.getD i 0) ji;simp only[zaf _ hi]at e;rw[zrt _ _ (by rw[zad];exact hi)]at e;exact e
 have jb:zbi ziy R=((zqs P st:Nat):Int):=by rw[hk,zli (g:=zhp (lst (λi=>decide (st i=0)) P.n)) λx _=>blank_none _ _,jd]
 have jh:zbi zat R=((zhg P st:Nat):Int):=by
  have e:zbi zat R=zbi (λ_=>1) R-zbi ziy R:=by rw[<-wsum_sub];exact zli λx _=>by unfold zat ziy;split<;>rfl
  have e2:zbi (λ_=>1) R=zbi (λ_=>1) gs:=hk _;rw[e,jb,e2,hh];omega
 have he:∀i,i<P.n->iv P st i<=100000:=λi hi=>by have h4:iv P st i<=zhg P st:=zfi hi;omega
 have hg:lst (λc:Nat=>zbi (zuy (c:Int)) R) P.n=lst (λc=>((iv P st c:Nat):Int)) P.n:=zai hp;have hd:=zpi hP hl;have hn:(zaq (λi=>decide (st i=0)) P.n).length=(zcq P st).length:=by unfold zaq zcq;rw[xao]
 have jf:(zaq (λi=>decide (st i=0)) P.n).length<=7:=by rw[zav];exact xay (zax _ _) h9
 have e1:w (w (Int.tdiv ((zhg P st:Nat):Int) 2)+1)=((zlu P st:Nat):Int):=by have h2:=xed (zhg P st) 2;unfold zlu;rw[show Int.tdiv ((zhg P st:Nat):Int) 2=((zhg P st/2:Nat):Int)from rfl];generalize zhg P st/2=z at h2 ⊢;rw[zbq (n:=(z:Int)) (by omega) (by omega),zmh (by omega)]
 have d0:d93 0=some (rr 0):=zcm (n:=0) (by omega);have d1:d93 1=some (rr 1):=zcm (n:=1) (by omega);have dq:d93 ((zlu P st:Nat):Int)=some (rr (zlu P st:Rat)):=zcm (by unfold zlu;omega);have de:d93 ((zqs P st:Nat):Int)=some (rr (zqs P st:Rat)):=zcm (by omega);have je:RndOK P.n (lst (λi=>(iv P st i:Rat)) P.n):=zoq hP st;have hj:(lst (λi=>(iv P st i:Rat)) P.n).map rr=lst (λi=>rr (iv P st i:Rat)) P.n:=zgj _ _ _;have ja:(lst (λi=>(if st i=0 then 1 else 0:Rat)) P.n).map rr=lst (λi=>rr (if st i=0 then 1 else 0)) P.n:=zgj _ _ _;have hq:d328 (lst (λi=>rr (iv P st i:Rat)) P.n,lst (λi=>rr (if st i=0 then 1 else 0)) P.n,rr (zlu P st:Rat),rr (zqs P st:Rat),rr 0,[],[],[]) (zaq (λi=>decide (st i=0)) P.n) true=some (zes P st):=by rw[d328_eq je (by rw[hj]) (λx hx=>by obtain⟨i,h1,h2,_⟩:=zap.1 hx;exact⟨i,h1,h2⟩) (by omega) true,extr_topsN];rfl
 have h3:∀r∈rs.map Rd.votes,RndOK P.n r:=λr hr=>by obtain⟨x,hx,rfl⟩:=xdx.1 hr;exact hR x hx
 unfold d322 stIr;simp only[zad,xbh,zbp,xbu];rw[zcg (show P.n<=4294967296 by omega),xab,jc,xaa,xam];have h7:∀c p,0<=zuy c p/\zuy c p<=1:=λc p=>by unfold zuy;split<;>omega
 have h8:∀p,0<=ziy p/\ziy p<=1:=λp=>by unfold ziy;split<;>omega
 have h5:∀p,0<=zat p/\zat p<=1:=λp=>by unfold zat;split<;>omega
 obtain⟨A,hA⟩:∃A:ST×Unit,((c,gs,P.lots,lst (λi=>decide (st i=0)) P.n,lst (λ_=>false) P.n,0,(rs.map Rd.votes).map (List.map rr)),())=A:=⟨_,rfl⟩;rw[hA];refine zdu (X:=RndI c gs P st rs) (λi=>(A,([],[],(false,[],[]),(false,[],[]),(false,[],[]),[],[],[]),lst (λc=>zbi (zuy (c:Int)) (R.take i)) P.n,zbi ziy (R.take i),zbi zat (R.take i),R,(R.length:Int),(i:Int))) R.length ?_ (λi hi=>?_) (b:=(A,([],[],(false,[],[]),(false,[],[]),(false,[],[]),[],[],[]),lst (λc=>zbi (zuy (c:Int)) R) P.n,zbi ziy R,zbi zat R)) ?_ ?_;·rw[xcq,zii];rfl
 ·obtain⟨hB,hu⟩:=hb _ (zba (d:=(([],0):Grp)) hi);have e1:=zdi ziy R hi;have e2:=zdi zat R hi;have e3:∀c,zbi (zuy c) (R.take (i+1))=zbi (zuy c) (R.take i)+(R.getD i ([],0)).2*zuy c (R.getD i ([],0)).1:=λc=>zdi (zuy c) R hi;have b1:=zen hb h8 (i+1);have b2:=zen hb h5 (i+1);have b3:=λc=>zen hb (h7 c) (i+1);rw[e1]at b1;rw[e2]at b2;simp only[e3]at b3;simp only[zal,e1,e2,e3,dlt hi,zbp,xai,xab,tn,wsx i];obtain⟨g,eg⟩:∃g,R.getD i ([],0)=g:=⟨_,rfl⟩;simp only[eg]at hB hu b1 b2 b3 ⊢;clear e1 e2 e3 eg;obtain⟨p,k⟩:=g;have c1:=zen hb h8 i;have c2:=zen hb h5 i;have c3:=λc=>zen hb (h7 c) i;cases p with
  |nil=>have f1:ziy []=1:=rfl;have f2:zat []=0:=rfl;have f3:∀c,zuy c []=0:=λc=>rfl;simp only[f1,f2,f3,xkb,Int.mul_zero,Int.add_zero]at *;simp only[xee,show decide (((0:Nat):Int)=0)=true from rfl,xab];rw[zbq (by omega) (by omega)]
  |cons x p=>
   have hx:=hB.2 x (by simp);obtain⟨xn,rfl⟩:∃xn:Nat,x=(xn:Int):=⟨x.toNat,by omega⟩;have h6:xn<P.n:=by omega
   have f1:ziy ((xn:Int)::p)=0:=rfl;have f2:zat ((xn:Int)::p)=1:=rfl;have f3:∀c,zuy c ((xn:Int)::p)=if(xn:Int)=c then 1 else 0:=λc=>by unfold zuy;simp
   have b3x:=b3 (xn:Int);simp only[f1,f2,f3,xkb,Int.mul_zero,Int.add_zero,if_true]at *;have e:lst (upd (λc:Nat=>zbi (zuy (c:Int)) (R.take i)) xn (zbi (zuy (xn:Int)) (R.take i)+k)) P.n=lst (λc:Nat=>zbi (zuy (c:Int)) (R.take i)+k*if(xn:Int)=(c:Int)then 1 else 0) P.n:=zai λc hc=>by
    by_cases hcx:c=xn;·subst hcx;rw[zce,if_pos rfl,xkb]
    ·rw[zfg _ _ hcx,if_neg (show ¬(xn:Int)=(c:Int) by omega),Int.mul_zero,Int.add_zero]
   simp only[xbd,zdf (((p.length+1:Nat):Int)=0),xaf,zdt ((0:Int)<((p.length+1:Nat):Int)),show decide ((0:Int)<=0)=true from rfl,show decide ((0:Nat)<=0)=true from rfl,xai,xab,xfi,zbp,zad,dlt h6,tn,zcl,zaf (λc:Nat=>zbi (zuy (c:Int)) (R.take i)) h6];rw[zbq (by omega) (by omega),zbq (by omega) (by omega),e]
 ·simp only[nlt (xag R.length),xaf,xaz]
 subst hA;simp only[hg,jb,jh,e1,dq,de,d0,xaa,zad];refine zdu (X:=RndI c gs P st rs) (λi=>(((c,gs,P.lots,lst (λi=>decide (st i=0)) P.n,lst (λ_=>false) P.n,0,(rs.map Rd.votes).map (List.map rr)),()),(lst (λi=>rr (iv P st i:Rat)) i,lst (λi=>rr (if st i=0 then 1 else 0)) i,rr (zlu P st:Rat),rr (zqs P st:Rat),rr 0,[],[],[]),lst (λc=>((iv P st c:Nat):Int)) P.n,((zhg P st:Nat):Int),winU P st i,(P.n:Int),(i:Int))) P.n rfl (λi hi=>?_)
  (b:=(((c,gs,P.lots,lst (λi=>decide (st i=0)) P.n,lst (λ_=>false) P.n,0,(rs.map Rd.votes).map (List.map rr)),()),(lst (λi=>rr (iv P st i:Rat)) P.n,lst (λi=>rr (if st i=0 then 1 else 0)) P.n,rr (zlu P st:Rat),rr (zqs P st:Rat),rr 0,[],[],[]),winU P st P.n)) ?_ ?_
 ·have ew:w (2*((iv P st i:Nat):Int))=((2*iv P st i:Nat):Int):=by have:=he i hi;rw[zbq (by omega) (by omega)];omega
  have dv:d93 ((iv P st i:Nat):Int)=some (rr (iv P st i:Rat)):=zcm (by have:=he i hi;omega);simp only[dlt hi,zbp,zad,xai,xab,tn,zaf (λc=>((iv P st c:Nat):Int)) hi,zaf (λi=>decide (st i=0)) hi,zal,dv,xaa,ew,wsx i];rw[zkw (show i+1<=4294967296 by omega),xab];by_cases h0:st i=0
  ·rw[xae h0,xab];simp only[d1,xaa];rw[zkw (show i+1<=4294967296 by omega)];simp only[xab,zcz,winU,h0,xgl,if_true];by_cases h1:zhg P st<2*iv P st i;·rw[dlt h1,xab,if_pos h1]
   ·rw[nlt (by omega),xaf,if_neg h1]
  ·rw[xah h0,xaf];simp only[d0,xaa];rw[zkw (show i+1<=4294967296 by omega)];simp only[xab,zcz,winU,h0,xkd,xcg]
 ·simp only[nlt (xag P.n),xaf]
 simp only[zij (show P.n<=1000 by omega),xaa,zal,d327177_G,hn];rcases hd with⟨x,hx,hx0,hw,hv⟩|⟨hw,h1,hv⟩
 ·refine .inl ⟨x,hw,?_⟩;have hm:∃s',(bif decide ((0:Int)<=(x:Int))then(ztv ((c,gs,P.lots,lst (λi=>decide (st i=0)) P.n,lst (λ_=>false) P.n,0,(rs.map Rd.votes).map (List.map rr)),()) (lst (λi=>rr (iv P st i:Rat)) P.n,lst (λi=>rr (if st i=0 then 1 else 0)) P.n,rr (zlu P st:Rat),rr (zqs P st:Rat),rr 0,[],[],[]) (x:Int)).bind λr_7=>some (r_7.2,true,r_7.1)else none)=some (rdT (irdW P st x),true,s'):=by simp only[zbp,xab];have ho:=elG_eq (Z:=Unit) (c:=c) (gs:=gs) (lots:=P.lots) (hop:=λi=>decide (st i=0)) (ele:=λ_=>false) (n:=P.n) (fl:=0) (V:=(rs.map Rd.votes).map (List.map rr)) (z:=()) (v:=lst (λi=>rr (iv P st i:Rat)) P.n) (k:=lst (λi=>rr (if st i=0 then 1 else 0)) P.n) (q:=rr (zlu P st:Rat)) (e:=rr (zqs P st:Rat)) (sr:=rr 0) (el:=[]) (ex:=[]) (ti:=[]) hx (by omega) (by simp);refine⟨((c,gs,P.lots,lst (upd (λi=>decide (st i=0)) x false) P.n,lst (upd (λ_=>false) x true) P.n,((0+1:Nat):Int),(rs.map Rd.votes).map (List.map rr)),()),(xbr (λz=>Option.bind z _) ho).trans ?_⟩;show some ((lst (λi=>rr (iv P st i:Rat)) P.n,lst (λi=>rr (if st i=0 then 1 else 0)) P.n,rr (zlu P st:Rat),rr (zqs P st:Rat),rr 0,zcf ([]++[(x:Int)]),[],[]),true,_)=some (((lst (λi=>(iv P st i:Rat)) P.n).map rr,(lst (λi=>(if st i=0 then 1 else 0:Rat)) P.n).map rr,rr (zlu P st:Rat),rr (zqs P st:Rat),rr 0,[(x:Int)],[],[]),true,_);rw[hj,ja,show zcf ([]++[(x:Int)])=[(x:Int)]from zhs (xft _) (xgm _ _)]
  obtain⟨s',hs⟩:=hm;rw[zdt ((0:Int)<=(x:Int)),xab]at hs;refine⟨s',?_⟩;by_cases e:(zcq P st).length=1;·rw[if_pos e]at hv;simp only[e,hv,zdt ((0:Int)<=(x:Int)),xab];exact hs
  ·rw[if_neg e]at hv;rw[zdf (((zcq P st).length:Int)=1),xaf,hv,zdt ((0:Int)<=(x:Int)),xab];exact hs
 ·refine .inr ⟨hw,?_⟩;obtain⟨x,x1,x2,x3⟩:=zyt (P:=P) (rs.map Rd.votes) hl;refine⟨x,x2,x3,x1,?_⟩;have jj:=λy hy=>zrf (P:=P) (st:=st) (x:=y) hy;have jm:(zes P st).length<=7:=itied_len hP st;rw[zdf (((zcq P st).length:Int)=1),xaf,hv,show decide ((0:Int)<=-1)=false from rfl,xaf,hq,xaa,
   zrn (n:=P.n) (E:=rs.map Rd.votes) (lots:=P.lots) (ties:=P.ties) (by rfl) (by rfl) hf (zhf hP) h3 (by rw[xao];omega) true (zre hl) (zbv _ _) (λy hy=>by obtain⟨i,h1,h2,_⟩:=jj y hy;exact⟨i,h1,h2⟩) (by omega),ipick_tieB hP _ hl,x1,xaa]
  simp only[];rw[d326177_G,exG_eq x2,xaa];simp only[];rw[zch (by rw[xao,xao];omega),xab,ti_eq (zre hl)];have ht:lst (upd (λi=>decide (st i=0)) x false) P.n=lst (λi=>decide (upd st x 3 i=0)) P.n:=zai λk _=>by
   unfold upd;by_cases h:k=x;·rw[if_pos h,if_pos h];rfl
   ·rw[if_neg h,if_neg h]
  have jg:rdT (irdX P (rs.map Rd.votes) st)=(lst (λi=>rr (iv P st i:Rat)) P.n,lst (λi=>rr (if st i=0 then 1 else 0)) P.n,rr (zlu P st:Rat),rr (zqs P st:Rat),rr 0,[],[(x:Int)],if(zes P st).length=1 then []else zes P st):=by show(((lst (λi=>(iv P st i:Rat)) P.n).map rr,(lst (λi=>(if st i=0 then 1 else 0:Rat)) P.n).map rr,rr (zlu P st:Rat),rr (zqs P st:Rat),rr 0,[],[zmr P (rs.map Rd.votes) st],if(zes P st).length=1 then []else zes P st):RD)=_;rw[hj,ja,x1]
  rw[jg];unfold stIr;rw[ht,xcc,xcc];show _=some (_,false,(_,_,_,_,_,_,_++[(lst (λi=>(iv P st i:Rat)) P.n).map rr]),());rw[hj]
def irun_mach{c:CT}{gs:List Grp}{lots:List Int}(hfit:zlc 1 c gs lots=0)(h12:gs.length<=12):∀(k:Nat) {st:Nat->Nat} {rs:List Rd},(∀r∈rs,RndOK (zbc c gs lots).n r.votes)->rs.length+k<=1000->0<(zcq (zbc c gs lots) st).length->(zcq (zbc c gs lots) st).length<=k ->
  ∃rest,zys (zbc c gs lots) k rs st=rs++rest/\Mach (.inl (stIr c gs (zbc c gs lots) st rs)) rest
 | 0,st,rs,_,_,h1,h2=>by omega
 |k+1,st,rs,hR,hrl,h1,h2=>by
  have hP:=(zjl hfit).1;rcases d322_eq hfit h12 hR (by omega) h1 with⟨x,hw,s',hd⟩|⟨hw,x,hx,hx0,hpk,hd⟩
  ·refine⟨[irdW (zbc c gs lots) st x],by rw[zys,hw],.last (k':=.inl s') ?_⟩;show(d322 _).bind _=_;rw[hd];rfl
  ·have ha:=zyo hx hx0;have hb:=iwin_two hP h1 hw;obtain⟨rest,e,hm⟩:=irun_mach hfit h12 k (st:=upd st x 3) (rs:=rs++[irdX (zbc c gs lots) (rs.map Rd.votes) st]) (λr hr=>by
    rcases xbp.1 hr with hr|hr
    ·exact hR r hr
    ·rw[xba.1 hr];exact zoq hP st) (by rw[xbo,List.length_singleton];omega) (by omega) (by omega)
   refine⟨irdX (zbc c gs lots) (rs.map Rd.votes) st::rest,?_,.next (k':=.inl (stIr c gs (zbc c gs lots) (upd st x 3) (rs++[irdX (zbc c gs lots) (rs.map Rd.votes) st]))) ?_ hm⟩;·rw[zys,hw];show zys _ k _ (upd st (zmr _ _ st).toNat 3)=_;rw[hpk,xam,e,xbv];rfl
   ·show(d322 _).bind _=_;rw[hd];rfl
def pass_eq{a k one:Nat}(h1:0<one)(hk:k<=one):a*(one-k)/one=a-mup (a*k) one:=by
 have hc:mup (a*k) one<=a:=mup_le h1 (xcy _ hk);have e1:mup (a*k) one*one<=a*k+one-1:=Nat.div_mul_le_self _ _;have e2:a*k+one-1<one*(mup (a*k) one+1):=Nat.lt_mul_div_succ _ h1;have e3:a*k<=a*one:=xcy _ hk;have e4:mup (a*k) one*one<=a*one:=xau _ hc;rw[xcv,xea,xce one]at e2;refine Nat.div_eq_of_lt_le ?_ ?_;·rw[Nat.sub_mul,Nat.mul_sub];omega
 ·rw[xco,xji,Nat.sub_mul,Nat.mul_sub];omega
def d336_eq{n one:Nat}{gs:List Grp}{N:Int}(hn:n<=7)(ho1:0<one)(ho6:one<=1000000)(hp:PileOK (n:Int) gs N)(c:CT)(lots:List Int){kp:Nat->Nat}(hk:∀i,kp i<=one){p0:IS}(a1:p0.2.2.1=lst (λi=>(kp i:Int)) n)(a2:p0.2.1=(one:Int))(a3:p0.1.2.1=gs) :
  d336 p0=some (lst (λx=>((mvo (zbc c gs lots) one kp x:Nat):Int)) n,((mro (zbc c gs lots) one kp:Nat):Int)):=by
 obtain⟨hy,ja⟩:=pile_k hp c lots;have jd:=(hp.gs (by omega)).1;have ha:∀g,g<gs.length->isB (n:Int) ((zbc c gs lots).p g):=λg hg=>(hp.ballots _ (zba (l:=gs) (d:=([],0)) (i:=g) hg)).1;have ho:=λg j x hg hj=>zwr c lots ho1 ho6 hk hy (g:=g) (j:=j) (x:=x) hg hj;have hd:=λg hg=>zsk c lots ho1 ho6 hk hy (g:=g) hg;have jc:∀p j,zge one kp p j<=one:=λp j=>xay (zlq ho1 hk _ _) (mw_le ho1 hk _ _);have hv:∀p j,mw one kp p j<=one:=λp j=>mw_le ho1 hk _ _;have hm:∀p j,mw one kp p j-zge one kp p j=mw one kp p (j+1):=λp j=>rfl;have hi:∀p j,zge one kp p j=mup (mw one kp p j*kp (p.getD j 0).toNat) one:=λp j=>rfl;have hl:=λp j=>zlq ho1 hk p j;unfold d336;simp only[a1,a2,a3,zad,xbh,zbp,zcg (show n<=4294967296 by omega),xai,xab,tn];have hs:List.replicate n (0:Int)=lst (λx=>((zwf (zbc c gs lots) one kp 0 x:Nat):Int)) n:=by rw[zii];rfl
 rw[hs];refine zaa (λg=>(p0,lst (λx=>((zwf (zbc c gs lots) one kp g x:Nat):Int)) n,((mroU (zbc c gs lots) one kp g:Nat):Int),gs,(gs.length:Int),(g:Int))) gs.length rfl (λg hg=>?_) (b:=(lst (λx=>((mvo (zbc c gs lots) one kp x:Nat):Int)) n,((mro (zbc c gs lots) one kp:Nat):Int))) ?_ rfl
 ·have ht:=ha g hg;have je:=zjk ht (by omega);have hq:(gs.getD g ([],0)).1=(zbc c gs lots).p g:=rfl;have hf:=ja g hg;have hd:=hd g hg;have ho:=λj x hj=>ho g j x hg hj;have he:∀x,zwf (zbc c gs lots) one kp g x+(zbc c gs lots).k g*zgf one kp ((zbc c gs lots).p g) ((zbc c gs lots).p g).length x=zwf (zbc c gs lots) one kp (g+1) x:=λx=>rfl;have hc:mroU (zbc c gs lots) one kp (g+1)=mroU (zbc c gs lots) one kp g+(zbc c gs lots).k g*mw one kp ((zbc c gs lots).p g) ((zbc c gs lots).p g).length:=rfl;obtain⟨pr,hw⟩:∃pr,gs.getD g ([],0)=pr:=⟨_,rfl⟩;rw[hw]at hq hf;obtain⟨p',k'⟩:=pr;simp only at hq hf;subst hf;generalize(zbc c gs lots).p g=p at *;subst hq;generalize(zbc c gs lots).k g=k at *;simp only[dlt hg,zbp,xai,xab,tn,hw];refine zaa (λj=>(p0,lst (λx=>((zwf (zbc c gs lots) one kp g x+k*zgf one kp p' j x:Nat):Int)) n,((mroU (zbc c gs lots) one kp g:Nat):Int),((p',(k:Int)):Grp),((mw one kp p' j:Nat):Int),gs,(gs.length:Int),(g:Int),p',(p'.length:Int),(j:Int))) p'.length (by rw[a2];rfl) (λj hj=>?_) (b:=(p0,lst (λx=>((zwf (zbc c gs lots) one kp g x+k*zgf one kp p' p'.length x:Nat):Int)) n,((mroU (zbc c gs lots) one kp g:Nat):Int),((p',(k:Int)):Grp),((mw one kp p' p'.length:Nat):Int),gs,(gs.length:Int),(g:Int))) ?_ ?_
  ·have hb:=ht.2 _ (zbx hj);obtain⟨x,hx⟩:∃x:Nat,p'.getD j 0=(x:Int):=⟨(p'.getD j 0).toNat,by omega⟩;have hr:x<n:=by omega
   have h1:=hv p' j;have h2:=hk x;have h3:mw one kp p' j*(one-kp x)<=1000000*1000000:=xcu (by omega) (by omega);have h4:=hi p' j;rw[hx,xam]at h4;have h5:=ho j x hj;have h6:=jc p' j;have h7:=hm p' j;have h8:=hl p' j;have hu:=give_step (n:=n) (k:=k) (one:=one) (kp:=kp) (λx=>zwf (zbc c gs lots) one kp g x) hx;have jb:w (Int.tdiv ((mw one kp p' j*(one-kp x):Nat):Int) (one:Int))=((mw one kp p' (j+1):Nat):Int):=by rw[xdt (by omega)];show w (((mw one kp p' j*(one-kp x)/one:Nat)):Int)=_;rw[pass_eq ho1 h2,<-h4,h7,zbq (by omega) (by omega)]
   have h0:w (((mw one kp p' j:Nat):Int)-((mw one kp p' (j+1):Nat):Int))=((zge one kp p' j:Nat):Int):=by rw[zbq (by omega) (by omega)];omega
   rw[xce (zge one kp p' j)]at h5 hu;simp only[dlt hj,zbp,xai,xab,tn,hx,a1,a2,zad,dlt hr,zaf (λi=>(kp i:Int)) hr,zdf ((one:Int)=0),xap,wsubN h2 (show one<=9223372036854775807 by omega),wmul (show mw one kp p' j*(one-kp x)<=9223372036854775807 by omega),jb,h0,wmul (show k*zge one kp p' j<=9223372036854775807 by omega),zaf (λx=>((zwf (zbc c gs lots) one kp g x+k*zgf one kp p' j x:Nat):Int)) hr,
    zus (show zwf (zbc c gs lots) one kp g x+k*zgf one kp p' j x+k*zge one kp p' j<=9223372036854775807 by omega),hu,wsx j]
  ·simp only[nlt (xag p'.length),xaf]
  ·have h9:=hv p' p'.length;have hz:k*mw one kp p' p'.length<=100000000000:=by rw[xce];exact hd.2
   have hh:=hd.1;rw[hc]at hh;simp only[he,wmul (show k*mw one kp p' p'.length<=9223372036854775807 by omega),zus (show mroU (zbc c gs lots) one kp g+k*mw one kp p' p'.length<=9223372036854775807 by omega),wsx g,hc]
 ·simp only[nlt (xag gs.length),xaf];rfl
def while_one{α β γ:Type}{f:α->Option (α⊕β)}{k:β->Option γ}{a0:α}{b:β}{X:Option γ->Prop}(st:Nat->α)(n:Nat)(h0:st 0=a0)(h:∀i,i<=n->f (st i)=if i<n then some (.inl (st (i+1)))else some (.inr b))(hk:X (k b)):X ((zac f a0).bind k):=
 zdu st n h0 (λi hi=>(h i (by omega)).trans (if_pos hi)) ((h n (xag n)).trans (if_neg (by omega))) hk
def sortI_nil:zcf []=[]:=zhs (xft _) List.Pairwise.nil
def bestS(v:Nat->Nat)(q:Nat)(hop:Nat->Bool)(b c:Int):Int:=if hop c.toNat=true/\q<=v c.toNat/\(b<0\/v b.toNat<v c.toNat)then c else b
def zpx(v:Nat->Nat)(q:Nat)(hop:Nat->Bool)(l:List Int):Int:=l.foldl (bestS v q hop) (-1)
def zzk{v:Nat->Nat}{q:Nat}{hop:Nat->Bool}{lots:List Int}{n:Nat}(hl:LotsOK n lots):∀i,i<=lots.length ->
  (zpx v q hop (lots.take i)=-1/\∀c∈lots.take i,¬(hop c.toNat=true/\q<=v c.toNat)) \/
  (∃x:Nat,zpx v q hop (lots.take i)=(x:Int)/\(x:Int)∈lots.take i/\hop x=true/\q<=v x/\∀c∈lots.take i,(hop c.toNat=true/\q<=v c.toNat)->c≠(x:Int)->zef v lots x c.toNat=true)
 | 0,_=>.inl ⟨rfl,by simp⟩
 |i+1,hi=>by
  have hi':i<lots.length:=by omega
  have ha:lots.take (i+1)=lots.take i++[lots.getD i 0]:=zaw lots 0 hi';obtain⟨y,hy,hd⟩:=hl.within _ (zbx hi');have hf:zpx v q hop (lots.take (i+1))=bestS v q hop (zpx v q hop (lots.take i)) (y:Int):=by rw[ha,hy];unfold zpx;rw[xej];rfl
  have hb:∀c∈lots.take i,zan lots c<zan lots (y:Int):=λc hc=>by
   obtain⟨j,hj,rfl⟩:=List.mem_iff_getElem.1 hc;have hh:j<i:=by rw[xax]at hj;omega
   have e1:zan lots (lots.take i)[j]=j:=by rw[xgj];exact hl.nodup.idxOf_getElem j (by omega)
   have e2:zan lots (y:Int)=i:=by rw[<-hy,xad,xaj hi'];exact hl.nodup.idxOf_getElem i hi'
   omega
  rw[hf,ha,hy];rcases zzk hl i (by omega)with⟨h1,h2⟩|⟨x,h1,h2,h3,h4,h5⟩
  ·rw[h1];by_cases hq:hop y=true/\q<=v y
   ·refine .inr ⟨y,if_pos ⟨hq.1,hq.2,.inl (by omega)⟩,by simp,hq.1,hq.2,λc hc hcq hne=>?_⟩;rcases xbp.1 hc with hc|hc
    ·exact absurd hcq (h2 c hc)
    ·exact absurd (xba.1 hc) hne
   ·refine .inl ⟨if_neg λh=>hq ⟨h.1,h.2.1⟩,λc hc=>?_⟩;rcases xbp.1 hc with hc|hc
    ·exact h2 c hc
    ·rw[xba.1 hc];exact hq
  ·rw[h1];by_cases hq:hop y=true/\q<=v y/\v x<v y
   ·refine .inr ⟨y,if_pos ⟨hq.1,hq.2.1,.inr hq.2.2⟩,by simp,hq.1,hq.2.1,λc hc hcq hne=>?_⟩;unfold zef;rcases xbp.1 hc with hc|hc
    ·by_cases hcx:c=(x:Int);·subst hcx;rw[xam,xae hq.2.2];rfl
     ·have:=h5 c hc hcq hcx;unfold zef at this;rw[xeg,xal,xak,xak]at this;rw[zdt (v c.toNat<v y)];rfl
    ·exact absurd (xba.1 hc) hne
   ·refine .inr ⟨x,if_neg λh=>hq ⟨h.1,h.2.1,by rcases h.2.2 with h|h;omega;exact h⟩,xdq _ h2,h3,h4,λc hc hcq hne=>?_⟩;rcases xbp.1 hc with hc|hc
    ·exact h5 c hc hcq hne
    ·rw[xba.1 hc]at hcq ⊢;have hg:v y<=v x:=by refine Nat.not_lt.1 λh=>hq ⟨hcq.1,hcq.2,h⟩
     unfold zef;rw[xam];by_cases he:v y<v x;·rw[xae he];rfl
     ·rw[zdt (v x=v y),xae (hb _ h2),xai,xcb]
section
variable {Q:MP} {s:MS}
def zrg(s:MS)(L:List Nat)(j:Nat):Nat->Bool:=zbz (λi=>decide (s.st i=0)) (L.take j) false
def eleM(s:MS)(L:List Nat)(j:Nat):Nat->Bool:=zbz (λi=>decide (s.st i=1)) (L.take j) true
def sorted_nats(hQ:Q.OK):∃L:List Nat,(L.map Int.ofNat).Perm (zaq (s.reach Q) Q.P.n)/\(L.map Int.ofNat).Pairwise λa b=>zjy (s.v Q) Q.P.lots a b=true:=by
 obtain⟨L,h1,h2⟩:=zqg (s:=s) hQ;have:(L.map Int.toNat).map Int.ofNat=L:=by rw[List.map_map];refine(xfx λx hx=>?_).trans (List.map_id L);obtain⟨i,rfl,_⟩:=zap.1 (h1.mem_iff.1 hx);rfl
 exact⟨L.map Int.toNat,by rw[this];exact h1,by rw[this];exact h2⟩
def best_next(hQ:Q.OK){L:List Nat}(h1:(L.map Int.ofNat).Perm (zaq (s.reach Q) Q.P.n))(h2:(L.map Int.ofNat).Pairwise λa b=>zjy (s.v Q) Q.P.lots a b=true)(j:Nat) :
  zpx (s.v Q) (s.quo Q) (zrg s L j) Q.P.lots=if j<L.length then((L.getD j 0:Nat):Int)else -1:=by
 have hf:L.Nodup:=by have:(L.map Int.ofNat).Nodup:=h1.nodup_iff.2 (zfm _ _);exact(List.pairwise_map.1 this).imp λh e=>h (by rw[e])
 have he:∀i:Nat,i<Q.P.n->(i∈L↔s.reach Q i=true):=λi hi=>by
  constructor;·intro h;obtain⟨k,e,_,h3⟩:=zap.1 (h1.mem_iff.1 (xep h));have e:Int.ofNat i=(k:Int):=e;rw[xda.1 e];exact h3
  ·intro h;obtain⟨k,hk,e⟩:=xdx.1 (h1.mem_iff.2 (zap.2 ⟨i,rfl,hi,h⟩));have e:Int.ofNat k=(i:Int):=e;rw[<-xda.1 e];exact hk
 have ho:∀i∈L,i<Q.P.n:=λi hi=>by obtain⟨k,e,hk,_⟩:=zap.1 (h1.mem_iff.1 (xep hi));have e:Int.ofNat i=(k:Int):=e;have:=xda.1 e;omega
 have hq:∀i:Nat,i<Q.P.n->((zrg s L j i=true/\s.quo Q<=s.v Q i)↔i∈L.drop j):=λi hi=>by
  have hdr:i∈L.drop j↔i∈L/\i∉L.take j:=by
   have hp:L=L.take j++L.drop j:=(xcp j L).symm;constructor;·intro h;refine⟨xeu h,λh'=>?_⟩;rw[hp]at hf;exact(xdh.1 hf).2.2 i h' i h rfl
   ·rintro⟨h,h'⟩;rw[hp]at h;exact(xbp.1 h).resolve_left h'
  rw[hdr,he i hi];unfold zrg zbz MS.reach;by_cases ht:i∈L.take j;·simp[ht]
  ·simp[ht]
 have hc:=zhf hQ.P;have hg:Q.P.lots.take Q.P.lots.length=Q.P.lots:=xaz;have hb:=zzk (v:=s.v Q) (q:=s.quo Q) (hop:=zrg s L j) hc Q.P.lots.length (xag _);rw[hg]at hb;rcases hb with⟨e1,e2⟩|⟨x,e1,e2,e3,e4,e5⟩
 ·rw[e1,if_neg];intro hj;have hm:L.getD j 0∈L.drop j:=by rw[xey hj,xad,xaj hj];exact xcz ..
  have hn:=ho _ (xeu hm);exact e2 _ (hc.mem hn) ((hq _ hn).2 hm)
 ·obtain⟨x',ex,hs⟩:=hc.within _ e2;have:x=x':=xda.1 ex;subst this;have ha:=(hq x hs).1 ⟨e3,e4⟩;have hj:j<L.length:=by refine Nat.not_le.1 λh=>?_;rw[xfy h]at ha;cases ha
  rw[e1,if_pos hj];have hd:L.drop j=L.getD j 0::L.drop (j+1):=by rw[xey hj,xad,xaj hj];rfl
  rw[hd]at ha;rcases xar.1 ha with h|h
  ·rw[<-h]
  ·refine absurd ?_ (show ¬(false=true) by simp);have hm:L.getD j 0∈L.drop j:=by rw[hd];exact xcz ..
   have hh:=ho _ (xeu hm);have hr:((L.getD j 0:Nat):Int)≠(x:Int):=λe=>by have e:=xda.1 e;have:=hf.sublist (List.drop_sublist j L);rw[hd,e]at this;exact(xfb.1 this).1 h
   have b1:=e5 _ (hc.mem hh) ((hq _ hh).2 hm) hr;have b2:zjy (s.v Q) Q.P.lots ((L.getD j 0:Nat):Int) (x:Int)=true:=by have hl:=h2.sublist ((List.drop_sublist j L).map Int.ofNat);rw[hd,xdo,xdn]at hl;exact hl.1 _ (xep h)
   have b3:zef (s.v Q) Q.P.lots x ((L.getD j 0:Nat):Int).toNat=false:=zui b2;rw[b3]at b1;exact b1
def d338_eq(hQ:Q.OK)(hI:MI Q s){L:List Nat}(h1:(L.map Int.ofNat).Perm (zaq (s.reach Q) Q.P.n))(h2:(L.map Int.ofNat).Pairwise λa b=>zjy (s.v Q) Q.P.lots a b=true)
  {c:CT} (hs:c.2.2.2.1=(Q.P.seats:Int)) {gs:List Grp} {V:List (List Rt)} {z:Int×(List Int×(Int×(Bool×Int)))} {v k:List Rt} {q e sr:Rt} {ex ti:List Int} :
  d338 ((c,gs,Q.P.lots,lst (λi=>decide (s.st i=0)) Q.P.n,lst (λi=>decide (s.st i=1)) Q.P.n,((s.fl Q:Nat):Int),V),z) (v,k,q,e,sr,[],ex,ti) (lst (λi=>((s.v Q i:Nat):Int)) Q.P.n) ((s.quo Q:Nat):Int)
   =some (((c,gs,Q.P.lots,lst (λi=>decide (s.st1 Q i=0)) Q.P.n,lst (λi=>decide (s.st1 Q i=1)) Q.P.n,((s.f1 Q:Nat):Int),V),z),(v,k,q,e,sr,zaq (s.el Q) Q.P.n,ex,ti)):=by
 have h9:=hQ.P.n7;have ja:=hQ.P.seats5;have ht:=hI.fill;have hn:=zhf hQ.P;have hv:=hn.len;have jb:L.length<=7:=by have:=h1.length_eq;rw[xao,zav]at this;have:=zax (s.reach Q) Q.P.n;omega
 have h5:∀i∈L,i<Q.P.n:=λi hi=>by obtain⟨k,e,hk,_⟩:=zap.1 (h1.mem_iff.1 (xep hi));have e:Int.ofNat i=(k:Int):=e;have:=xda.1 e;omega
 have hl:=el_perm hQ h1 h2;rw[<-xih]at hl;have hr:=hl.length_eq;rw[xao,xax,zav]at hr;have hq:=f1_eq (Q:=Q) (s:=s);have ha:∀i,i<Q.P.n->(i∈L.take (Q.P.seats-s.fl Q)↔s.el Q i=true):=λi hi=>by
  constructor;·intro h;obtain⟨k,e,_,h3⟩:=zap.1 (hl.mem_iff.1 (xep h));have e:Int.ofNat i=(k:Int):=e;rw[xda.1 e];exact h3
  ·intro h;obtain⟨k,hk,e⟩:=xdx.1 (hl.mem_iff.2 (zap.2 ⟨i,rfl,hi,h⟩));have e:Int.ofNat k=(i:Int):=e;rw[<-xda.1 e];exact hk
 have hu:=best_next hQ h1 h2;have hm:zbu (s.el Q) Q.P.n=min (Q.P.seats-s.fl Q) L.length:=hr.symm;have hd:L.take (zbu (s.el Q) Q.P.n)=L.take (Q.P.seats-s.fl Q):=by
  rw[hm];by_cases h:Q.P.seats-s.fl Q<=L.length;·rw[xfm h]
  ·rw[Nat.min_eq_right (by omega),xaz,xbg (by omega)]
 have hc:lst (zrg s L (zbu (s.el Q) Q.P.n)) Q.P.n=lst (λi=>decide (s.st1 Q i=0)) Q.P.n:=zai λi hi=>by
  unfold zrg zbz MS.st1;rw[hd];by_cases h:s.el Q i=true;·rw[if_pos ((ha i hi).2 h),if_pos h];rfl
  ·rw[if_neg λh'=>h ((ha i hi).1 h'),if_neg h]
 have hf:lst (eleM s L (zbu (s.el Q) Q.P.n)) Q.P.n=lst (λi=>decide (s.st1 Q i=1)) Q.P.n:=zai λi hi=>by
  unfold eleM zbz MS.st1;rw[hd];by_cases h:s.el Q i=true;·rw[if_pos ((ha i hi).2 h),if_pos h];rfl
  ·rw[if_neg λh'=>h ((ha i hi).1 h'),if_neg h]
 have he:zcf ((L.take (zbu (s.el Q) Q.P.n)).map Int.ofNat)=zaq (s.el Q) Q.P.n:=by rw[hd];exact zhs hl ((zbv _ _).imp λh=>xja h)
 have h4:lst (zrg s L 0) Q.P.n=lst (λi=>decide (s.st i=0)) Q.P.n:=by unfold zrg;rw[xcq,zeq]
 have hz:lst (eleM s L 0) Q.P.n=lst (λi=>decide (s.st i=1)) Q.P.n:=by unfold eleM;rw[xcq,zeq]
 unfold d338;refine while_one (X:=λX=>X=some (((c,gs,Q.P.lots,lst (λi=>decide (s.st1 Q i=0)) Q.P.n,lst (λi=>decide (s.st1 Q i=1)) Q.P.n,((s.f1 Q:Nat):Int),V),z),(v,k,q,e,sr,zaq (s.el Q) Q.P.n,ex,ti)))
  (λj=>(((c,gs,Q.P.lots,lst (zrg s L j) Q.P.n,lst (eleM s L j) Q.P.n,((s.fl Q+j:Nat):Int),V),z),(v,k,q,e,sr,zcf ((L.take j).map Int.ofNat),ex,ti),lst (λi=>((s.v Q i:Nat):Int)) Q.P.n,((s.quo Q:Nat):Int))) (zbu (s.el Q) Q.P.n)
  (b:=if s.fl Q+zbu (s.el Q) Q.P.n<Q.P.seats then Sum.inr (((c,gs,Q.P.lots,lst (zrg s L (zbu (s.el Q) Q.P.n)) Q.P.n,lst (eleM s L (zbu (s.el Q) Q.P.n)) Q.P.n,((s.fl Q+zbu (s.el Q) Q.P.n:Nat):Int),V),z),(v,k,q,e,sr,zcf ((L.take (zbu (s.el Q) Q.P.n)).map Int.ofNat),ex,ti))else Sum.inl (((c,gs,Q.P.lots,lst (zrg s L (zbu (s.el Q) Q.P.n)) Q.P.n,lst (eleM s L (zbu (s.el Q) Q.P.n)) Q.P.n,((s.fl Q+zbu (s.el Q) Q.P.n:Nat):Int),V),z),(v,k,q,e,sr,zcf ((L.take (zbu (s.el Q) Q.P.n)).map Int.ofNat),ex,ti))) ?_ (λj hj=>?_) ?_
 ·rw[h4,hz,xcq,xfa,sortI_nil];rfl
 ·by_cases hlt:s.fl Q+j<Q.P.seats
  ·obtain⟨A,hA⟩:∃A:IS,((c,gs,Q.P.lots,lst (zrg s L j) Q.P.n,lst (eleM s L j) Q.P.n,((s.fl Q+j:Nat):Int),V),z)=A:=⟨_,rfl⟩;have a1:A.1.2.2.2.1=lst (zrg s L j) Q.P.n:=by rw[<-hA]
   have a2:A.1.2.2.1=Q.P.lots:=by rw[<-hA]
   have a3:A.1.2.2.2.2.2.1=((s.fl Q+j:Nat):Int):=by rw[<-hA]
   have a4:A.1.1.2.2.2.1=(Q.P.seats:Int):=by rw[<-hA];exact hs
   rw[hA];simp only[a1,a2,a3,a4,dlt hlt,xab,zal];refine zaa (λi=>(A,(v,k,q,e,sr,zcf ((L.take j).map Int.ofNat),ex,ti),lst (λi=>((s.v Q i:Nat):Int)) Q.P.n,((s.quo Q:Nat):Int),zpx (s.v Q) (s.quo Q) (zrg s L j) (Q.P.lots.take i),Q.P.lots,(Q.P.lots.length:Int),(i:Int))) Q.P.lots.length rfl (λi hi=>?_) (b:=(A,(v,k,q,e,sr,zcf ((L.take j).map Int.ofNat),ex,ti),lst (λi=>((s.v Q i:Nat):Int)) Q.P.n,((s.quo Q:Nat):Int),if j<L.length then((L.getD j 0:Nat):Int)else -1)) ?_ ?_
   ·have hd:Q.P.lots.take (i+1)=Q.P.lots.take i++[Q.P.lots.getD i 0]:=zaw _ 0 hi;obtain⟨y,hy,ho⟩:=hn.within _ (zbx hi);have h8:zpx (s.v Q) (s.quo Q) (zrg s L j) (Q.P.lots.take (i+1))=bestS (s.v Q) (s.quo Q) (zrg s L j) (zpx (s.v Q) (s.quo Q) (zrg s L j) (Q.P.lots.take i)) (y:Int):=by rw[hd,hy];unfold zpx;rw[xej];rfl
    have h0:=zzk (v:=s.v Q) (q:=s.quo Q) (hop:=zrg s L j) hn i (by omega);rw[h8];simp only[dlt hi,zbp,xai,xab,tn,hy,a1,zad,dlt ho,zaf (zrg s L j) ho,zaf (λi=>((s.v Q i:Nat):Int)) ho,wsx i,xaf];have hb:zpx (s.v Q) (s.quo Q) (zrg s L j) (Q.P.lots.take i)=-1\/∃x:Nat,x<Q.P.n/\zpx (s.v Q) (s.quo Q) (zrg s L j) (Q.P.lots.take i)=(x:Int):=by
     rcases h0 with⟨e1,_⟩|⟨x,e1,e2,_⟩
     ·exact .inl e1
     ·obtain⟨x',ex,h6⟩:=hn.within _ (xca e2);have:x=x':=xda.1 ex;subst this;exact .inr ⟨x,h6,e1⟩
    generalize zpx (s.v Q) (s.quo Q) (zrg s L j) (Q.P.lots.take i)=b at hb;unfold bestS;rw[xam];cases hh:zrg s L j y;·rw[xaf,if_neg (λh=>by cases h.1)]
    ·rw[xab];by_cases hqv:s.quo Q<=s.v Q y
     ·rw[zdt (((s.quo Q:Nat):Int)<=((s.v Q y:Nat):Int)),xab];rcases hb with rfl|⟨x,hx,rfl⟩
      ·rw[zdt ((-1:Int)<0),xat,xaf,if_pos (by simp[hqv])]
      ·rw[zdf ((x:Int)<0),xap,xab];simp only[zbp,dlt hx,xai,xab,tn,zaf (λi=>((s.v Q i:Nat):Int)) hx];by_cases hlt:s.v Q x<s.v Q y;·rw[dlt hlt,xab,if_pos (by simp[hqv,hlt])]
       ·rw[nlt (by omega),xaf,if_neg λh=>by
         rcases h.2.2 with h|h
         ·omega
         ·exact hlt (by simpa using h)]
     ·rw[zdf (((s.quo Q:Nat):Int)<=((s.v Q y:Nat):Int)),xaf,if_neg λh=>hqv h.2.1]
   ·simp only[nlt (xag Q.P.lots.length),xaf,xaz,hu j]
   ·subst hA;by_cases hjm:j<zbu (s.el Q) Q.P.n
    ·have hg:j<L.length:=by omega
     have hw:L.getD j 0∈L:=by rw[xad,xaj hg];exact xbf hg
     have h7:=h5 _ hw;have hd:L.take (j+1)=L.take j++[L.getD j 0]:=zaw L 0 hg;simp only[if_pos hg,if_pos hjm,zdf (((L.getD j 0:Nat):Int)<0),xaf];rw[d325180_G,elG_eq h7 (by omega) (by rw[sortI_len,xao,xax];omega)];simp only[xaa,sortI_app,hd,xcc,xdo,xfa];unfold zrg eleM;rw[zel,zel,hd];rfl
    ·have hp:j=zbu (s.el Q) Q.P.n:=by omega
     have hg:¬j<L.length:=by omega
     rw[if_neg hjm,if_neg hg,<-hp,if_pos hlt];rfl
  ·have hp:j=zbu (s.el Q) Q.P.n:=by omega
   simp only[hs,nlt (show Q.P.seats<=s.fl Q+j by omega),xaf,if_neg (show ¬j<zbu (s.el Q) Q.P.n by omega)];rw[<-hp,if_neg hlt]
 ·by_cases hlt:s.fl Q+zbu (s.el Q) Q.P.n<Q.P.seats;·simp only[if_pos hlt,hc,hf,he,hq]
  ·simp only[if_neg hlt,hc,hf,he,hq]
def d340_eq(hQ:Q.OK)(hI:MI Q s){c:CT}(hc:c.2.2.2.2.2.2.1=Q.P.ties){E:List (List Rat)}(hE:∀r∈E,RndOK Q.P.n r)(hEl:E.length<=1000){gs:List Grp}{Z1:List Bool×Int}{one age:Int}{zz:Bool×Int}{v k:List Rt}{q e sr:Rt}{el:List Int} :
  ∃x:Nat,x<Q.P.n/\s.pick Q E=(x:Int)/\d340 ((c,gs,Q.P.lots,lst (λi=>decide (s.st i=0)) Q.P.n,Z1.1,Z1.2,E.map (List.map rr)),(one,lst (λi=>((s.kp i:Nat):Int)) Q.P.n,age,zz)) (v,k,q,e,sr,el,[],[]) (lst (λi=>((s.v Q i:Nat):Int)) Q.P.n) ((s.sur Q:Nat):Int)
   =some (((c,gs,Q.P.lots,lst (λi=>decide (upd s.st x 2 i=0)) Q.P.n,Z1.1,Z1.2,E.map (List.map rr)),(one,lst (λi=>((upd s.kp x 0 i:Nat):Int)) Q.P.n,age,zz)),(v,k,q,e,sr,el,[(x:Int)],if(s.tied Q).length=1 then []else s.tied Q)):=by
 have hr:=hQ.P.n7;have hu:=MS.tot_le hQ;have hq:=MS.sum_le hQ hI;have hh:s.sur Q<=zaz (s.v Q) Q.P.n:=zdp λi _=>by split<;>omega
 have hv:∀i,i<Q.P.n->s.v Q i<=100000000000:=λi hi=>by have h1:=MS.v_le hQ hI hi;omega
 obtain⟨x,x1,x2,x3⟩:=zht hI E;refine⟨x,x2,x1,?_⟩;have hl:=near_ne hI;have hn:=zhf hQ.P;have hb:(zaq (λi=>decide (s.st i=0)) Q.P.n).length<=7:=by rw[zav];exact xay (zax _ _) hr
 have hm:∀y∈s.tied Q,∃i:Nat,y=(i:Int)/\i<Q.P.n:=λy hy=>by obtain⟨i,h1,h2,_⟩:=zap.1 hy;exact⟨i,h1,h2⟩
 have hs:(s.tied Q).length<=7:=by have:(s.tied Q).length=zbu (s.near Q) Q.P.n:=zav _ _;have:=zax (s.near Q) Q.P.n;omega
 unfold d340;have ho:∀l:List Int,l.length<=7->d78 l=some l:=λl h=>by show(bif decide ((l.length:Int)<=LIM)then some l else none)=_;rw[zcg (by omega)];rfl
 have hf:∀y∈zaq (λi=>decide (s.st i=0)) Q.P.n,d341 y (zaq (λi=>decide (s.st i=0)) Q.P.n) (lst (λi=>((s.v Q i:Nat):Int)) Q.P.n) ((s.sur Q:Nat):Int)=some ((zaq (λi=>decide (s.st i=0)) Q.P.n).any λd=>decide (s.v Q d.toNat+s.sur Q<s.v Q y.toNat)):=λy hy=>by
  obtain⟨i,rfl,hi,_⟩:=zap.1 hy;unfold d341;rw[d333_eq (g:=λd=>decide (s.v Q d.toNat+s.sur Q<s.v Q ((i:Int)).toNat)) (λd hd=>?_) (by omega)];·rfl
  ·obtain⟨j,rfl,hj,_⟩:=zap.1 hd;have:=hv j hj;unfold d342;simp only[zbp,zad,dlt hi,dlt hj,xai,xab,tn,zaf (λi=>((s.v Q i:Nat):Int)) hi,zaf (λi=>((s.v Q i:Nat):Int)) hj,zus (show s.v Q j+s.sur Q<=9223372036854775807 by omega)];congr 1;rw[xeb,xak,xak];omega
 have he:((zaq (λi=>decide (s.st i=0)) Q.P.n).filter λy=>!((zaq (λi=>decide (s.st i=0)) Q.P.n).any λd=>decide (s.v Q d.toNat+s.sur Q<s.v Q y.toNat)))=s.tied Q:=by
  rw[zem];unfold MS.tied;refine zfn λi hi=>?_;unfold MS.near;congr 1;rw[xam,xeb,xhy,List.any_eq_false,xbl];constructor
  ·intro h k hk;have hp:=xcm.1 hk;by_cases h0:s.st k=0;·have:=h (k:Int) (zap.2 ⟨k,rfl,hp,xae h0⟩);rw[xam,xak]at this;rw[zdt (s.v Q i<=s.v Q k+s.sur Q),xcb]
   ·simp[h0]
  ·intro h y hy;obtain⟨k,rfl,hk,h0⟩:=zap.1 hy;have:=h k (xcm.2 hk);rw[h0,xat,xbz,xak]at this;rw[xam,xak];omega
 have ht:zvc Q.P.ties E (s.tied Q) Q.P.lots true=(x:Int):=by
  rw[<-x1];unfold MS.pick;by_cases h1:(s.tied Q).length=1;·rw[if_pos h1];obtain⟨y,hy⟩:=xcw.1 h1;obtain⟨i,e,hi⟩:=hm y (by rw[hy];simp);rw[hy,zml (by rw[e];exact hn.mem hi)];rfl
  ·rw[if_neg h1]
 simp only[zij (show Q.P.n<=1000 by omega),xaa,ho _ hb,d327180_G];rw[zpr hf (by omega),he,xaa,
  zrn (n:=Q.P.n) (E:=E) (lots:=Q.P.lots) (ties:=Q.P.ties) (by rfl) (by rfl) hc hn hE (by omega) true hl (zbv _ _) hm (by omega),ht,xaa]
 simp only[];rw[d326180_G,exG_eq x2,xaa];simp only[zbp,zad,dlt x2,xai,xab,tn,zcl,ti_eq hl];have hg:lst (upd (λi=>decide (s.st i=0)) x false) Q.P.n=lst (λi=>decide (upd s.st x 2 i=0)) Q.P.n:=zai λk _=>by
  unfold upd;by_cases h:k=x;·rw[if_pos h,if_pos h];rfl
  ·rw[if_neg h,if_neg h]
 have ha:lst (upd (λi=>((s.kp i:Nat):Int)) x 0) Q.P.n=lst (λi=>((upd s.kp x 0 i:Nat):Int)) Q.P.n:=zai λk _=>by
  unfold upd;by_cases h:k=x;·rw[if_pos h,if_pos h];rfl
  ·rw[if_neg h,if_neg h]
 rw[hg,ha]
end
def upW{a b:Nat}(hb:0<b)(h:a+b<=4611686018427387904):w (Int.tdiv (w (w ((a:Int)+(b:Int))-1)) (b:Int))=((mup a b:Nat):Int):=by
 have h1:=xed (a+b-1) b;have h2:Int.tdiv ((a+b-1:Nat):Int) (b:Int)=(((a+b-1)/b:Nat):Int):=by rw[xdt (by omega)];rfl
 rw[zus (show a+b<=9223372036854775807 by omega),show w (((a+b:Nat):Int)-1)=((a+b-1:Nat):Int) by rw[zbq (by omega) (by omega)];omega,h2];unfold mup;generalize(a+b-1)/b=q at h1 ⊢;exact zbq (by omega) (by omega)
def d138_eq{k:Nat}(h:k<=6):d138 (k:Int)=some ((10^k:Nat):Int):=by
 have:k=0\/k=1\/k=2\/k=3\/k=4\/k=5\/k=6:=by omega
 rcases this with rfl|rfl|rfl|rfl|rfl|rfl|rfl<;>rfl
section
variable {Q:MP} {s:MS}
def stMr(c:CT)(gs:List Grp)(Q:MP)(s:MS)(rs:List Rd)(su:Int):IS:=((c,gs,Q.P.lots,lst (λi=>decide (s.st i=0)) Q.P.n,lst (λi=>decide (s.st i=1)) Q.P.n,((s.fl Q:Nat):Int),(rs.map Rd.votes).map (List.map rr)),((Q.one:Int),lst (λi=>((s.kp i:Nat):Int)) Q.P.n,(s.since:Int),decide (s.bef=none),su))
def finM(A:IS)(B:RD)(sur:Int):IS:=((A.1.1,A.1.2.1,A.1.2.2.1,A.1.2.2.2.1,A.1.2.2.2.2.1,A.1.2.2.2.2.2.1,A.1.2.2.2.2.2.2++[B.1]),A.2.1,A.2.2.1,(if 0<B.2.2.2.2.2.2.1.length\/0<B.2.2.2.2.2.1.length then 0 else A.2.2.2.1),decide (0<(B.2.2.2.2.2.2.1.length:Int)),sur)
def RndQ(Q:MP)(c:CT)(gs:List Grp)(s:MS)(rs:List Rd)(z:Option (RD×Bool×IS)):Prop:=
 (s.fin Q=true/\∃k',z=some (rdT (s.done Q),true,k')) \/
 (s.fin Q=false/\s.cut Q=true/\z=some (rdT (s.exR Q (rs.map Rd.votes)),false,stMr c gs Q (s.excl Q (rs.map Rd.votes)) (rs++[s.exR Q (rs.map Rd.votes)]) ((s.sur Q:Nat):Int))) \/
 (s.fin Q=false/\s.cut Q=false/\z=some (rdT (s.rd0 Q),false,stMr c gs Q (s.redu Q) (rs++[s.rd0 Q]) ((s.sur Q:Nat):Int)))
set_option maxHeartbeats 2000000 in
def d335_eq{c:CT}{gs:List Grp}{d:Nat}(hQ:MQ Q c gs d){rs:List Rd}(hR:MRun Q s rs){su:Int}(hsu:∀b,s.bef=some b->su=(b:Int)):RndQ Q c gs s rs (d335 (stMr c gs Q s rs su)):=by
 have hI:=hR.inv;have ha:=hQ.ok;have jw:=ha.P.n7;have gw:=ha.P.seats5;have ja:=ha.one1;have jx:=ha.one6;have gv:=MS.tot_le ha;have gi:=MS.sum_le ha hI;have hv:∀i,i<Q.P.n->s.v Q i<=100000000000:=λi hi=>by have h1:=MS.v_le ha hI hi;omega
 have hq:s.quo Q<=100000000001:=by have:=MS.quo_le ha hI;omega
 have j1:s.sur Q<=zaz (s.v Q) Q.P.n:=zdp λi _=>by split<;>omega
 have gq:=hR.len;have j2:=hI.fill;have gr:=f1_le ha hI;have j3:=f1_eq (Q:=Q) (s:=s);have j7:=hI.since;have hE:∀r∈rs.map Rd.votes,RndOK Q.P.n r:=λr hr=>by obtain⟨r',h1,rfl⟩:=xdx.1 hr;exact(hR.rnd r' h1).1
 obtain⟨L,gg,gf⟩:=sorted_nats (s:=s) ha;obtain⟨lots,hu⟩:=hQ.P;obtain⟨N,h7⟩:=hQ.pile;have gn:∀p0:IS,p0.2.2.1=lst (λi=>((s.kp i:Nat):Int)) Q.P.n->p0.2.1=(Q.one:Int)->p0.1.2.1=gs->d336 p0=some (lst (λi=>((s.v Q i:Nat):Int)) Q.P.n,((s.rest Q:Nat):Int)):=λp0 a1 a2 a3=>by have:=d336_eq jw ja jx h7 c lots hI.kp1 a1 a2 a3;rw[hu]at this;exact this
 have he:∀(A:ST) (Y:List Int×(Int×(Bool×Int))) (a:Nat),a<=9223372036854775807->d337 (A,((Q.one:Int),Y)) (a:Int)=some (rr (zaj a Q.one)):=λA Y a h2=>by unfold d337;show(d154 (a:Int) (Q.one:Int)).bind _=_;rw[zua h2 (by omega) ja];rfl
 have gm:w ((Q.P.seats:Int)+1)=((Q.P.seats+1:Nat):Int):=zmh (by omega);have jn:w (w (Int.tdiv ((zaz (s.v Q) Q.P.n:Nat):Int) ((Q.P.seats+1:Nat):Int))+1)=((s.quo Q:Nat):Int):=by
  have h1:Int.tdiv ((zaz (s.v Q) Q.P.n:Nat):Int) ((Q.P.seats+1:Nat):Int)=((zaz (s.v Q) Q.P.n/(Q.P.seats+1):Nat):Int):=by rw[xdt (by omega)];rfl
  have h2:=xed (zaz (s.v Q) Q.P.n) (Q.P.seats+1);have h3:s.quo Q=zaz (s.v Q) Q.P.n/(Q.P.seats+1)+1:=rfl;rw[h1,h3];generalize zaz (s.v Q) Q.P.n/(Q.P.seats+1)=z at h2 ⊢;rw[zbq (n:=(z:Int)) (by omega) (by omega),zmh (by omega)]
 have jf:c.2.2.2.1=(Q.P.seats:Int):=hQ.seats;have j6:c.2.2.2.2.2.1=(d:Int):=hQ.dig;unfold d335 stMr;rw[gn _ rfl rfl rfl,xaa];simp only[zad];refine zdu (X:=RndQ Q c gs s rs) (λi=>(((c,gs,Q.P.lots,lst (λi=>decide (s.st i=0)) Q.P.n,lst (λi=>decide (s.st i=1)) Q.P.n,((s.fl Q:Nat):Int),(rs.map Rd.votes).map (List.map rr)),((Q.one:Int),lst (λi=>((s.kp i:Nat):Int)) Q.P.n,(s.since:Int),decide (s.bef=none),su)),(lst (λi=>rr (zaj (s.v Q i) Q.one)) i,lst (λi=>rr (zaj (s.kp i) Q.one)) i,(false,[],[]),(false,[],[]),(false,[],[]),[],[],[]),false,lst (λi=>((s.v Q i:Nat):Int)) Q.P.n,((s.rest Q:Nat):Int),((zaz (s.v Q) i:Nat):Int),(Q.P.n:Int),(i:Int))) Q.P.n rfl (λi hi=>?_) (b:=(((c,gs,Q.P.lots,lst (λi=>decide (s.st i=0)) Q.P.n,lst (λi=>decide (s.st i=1)) Q.P.n,((s.fl Q:Nat):Int),(rs.map Rd.votes).map (List.map rr)),((Q.one:Int),lst (λi=>((s.kp i:Nat):Int)) Q.P.n,(s.since:Int),decide (s.bef=none),su)),(lst (λi=>rr (zaj (s.v Q i) Q.one)) Q.P.n,lst (λi=>rr (zaj (s.kp i) Q.one)) Q.P.n,(false,[],[]),(false,[],[]),(false,[],[]),[],[],[]),false,lst (λi=>((s.v Q i:Nat):Int)) Q.P.n,((s.rest Q:Nat):Int),((zaz (s.v Q) Q.P.n:Nat):Int))) ?_ ?_;·have hm:=zkn (s.v Q) (show i+1<=Q.P.n by omega);rw[zaz]at hm;have gx:=hv i hi;have gt:=hI.kp1 i;simp only[dlt hi,zbp,zad,xai,xab,tn,zaf (λi=>((s.v Q i:Nat):Int)) hi,zaf (λi=>((s.kp i:Nat):Int)) hi,he _ _ _ (show s.v Q i<=9223372036854775807 by omega),he _ _ _ (show s.kp i<=9223372036854775807 by omega),xaa,zus (show zaz (s.v Q) i+s.v Q i<=9223372036854775807 by omega),wsx i];rw[zkw (show i+1<=4294967296 by omega),xab,zkw (show i+1<=4294967296 by omega),xab,zcz,zcz];rfl
 ·simp only[nlt (xag Q.P.n),xaf]
 obtain⟨VT,h8⟩:∃X,lst (λi=>rr (zaj (s.v Q i) Q.one)) Q.P.n=X:=⟨_,rfl⟩;obtain⟨KT,jy⟩:∃X,lst (λi=>rr (zaj (s.kp i) Q.one)) Q.P.n=X:=⟨_,rfl⟩;obtain⟨E,ht⟩:∃X,(rs.map Rd.votes).map (List.map rr)=X:=⟨_,rfl⟩;obtain⟨H,hH⟩:∃X,lst (λi=>decide (s.st1 Q i=0)) Q.P.n=X:=⟨_,rfl⟩;obtain⟨G,hG⟩:∃X,lst (λi=>decide (s.st1 Q i=1)) Q.P.n=X:=⟨_,rfl⟩;have jz:d324 G=some (zaq (λi=>decide (s.st1 Q i=1)) Q.P.n):=by rw[<-hG];exact zij (by omega)
 have jb:E.length<=1000:=by rw[<-ht,xao,xao];omega
 rw[h8,jy,ht];simp only[jf,gm,zdf (((Q.P.seats+1:Nat):Int)=0),xap,xab,jn];rw[he _ _ _ (show s.quo Q<=9223372036854775807 by omega),xaa,he _ _ _ (show s.rest Q<=9223372036854775807 by omega),xaa,d338_eq ha hI gg gf jf,xaa,hH,hG];simp only[jz,xaa];have jr:(zaq (λi=>decide (s.st1 Q i=1)) Q.P.n).length=(zcy (λi=>decide (s.st1 Q i=1)) Q.P.n).length:=xao ..;have go:(zcy (λi=>decide (s.st1 Q i=1)) Q.P.n).length<=7:=by rw[zcb];have:=zax (λi=>decide (s.st1 Q i=1)) Q.P.n;omega
 have jl:=zry (λi=>decide (s.st1 Q i=1)) (λi=>s.v Q i-s.quo Q) Q.P.n;have js:zaz (λi=>if decide (s.st1 Q i=1)=true then s.v Q i-s.quo Q else 0) Q.P.n=s.sur Q:=zay λi _=>by by_cases h:s.st1 Q i=1<;>simp[h]
 rw[js]at jl;refine zdu (X:=RndQ Q c gs s rs) (λj=>(((c,gs,Q.P.lots,H,G,((s.f1 Q:Nat):Int),E),((Q.one:Int),lst (λi=>((s.kp i:Nat):Int)) Q.P.n,(s.since:Int),decide (s.bef=none),su)),(VT,KT,rr (zaj (s.quo Q) Q.one),rr (zaj (s.rest Q) Q.one),(false,[],[]),zaq (s.el Q) Q.P.n,[],[]),false,lst (λi=>((s.v Q i:Nat):Int)) Q.P.n,((s.quo Q:Nat):Int),((((((zcy (λi=>decide (s.st1 Q i=1)) Q.P.n).take j).map λi=>s.v Q i-s.quo Q).sum:Nat)):Int),zaq (λi=>decide (s.st1 Q i=1)) Q.P.n,((zaq (λi=>decide (s.st1 Q i=1)) Q.P.n).length:Int),(j:Int))) (zaq (λi=>decide (s.st1 Q i=1)) Q.P.n).length rfl (λj hj=>?_)
  (b:=(((c,gs,Q.P.lots,H,G,((s.f1 Q:Nat):Int),E),((Q.one:Int),lst (λi=>((s.kp i:Nat):Int)) Q.P.n,(s.since:Int),decide (s.bef=none),su)),(VT,KT,rr (zaj (s.quo Q) Q.one),rr (zaj (s.rest Q) Q.one),(false,[],[]),zaq (s.el Q) Q.P.n,[],[]),false,lst (λi=>((s.v Q i:Nat):Int)) Q.P.n,((s.quo Q:Nat):Int),((s.sur Q:Nat):Int))) ?_ ?_
 ·rw[jr]at hj;have hg:=zdw hj;have jd:=zev hj;have j0:=hv _ hg.1;have hh:=zjd ((zcy (λi=>decide (s.st1 Q i=1)) Q.P.n).map λi=>s.v Q i-s.quo Q) (j+1);rw[<-xih,jl,zqv _ _ _ hj]at hh;simp only[jr,dlt hj,zbp,xai,xab,tn,jd,zad,dlt hg.1,zaf (λi=>((s.v Q i:Nat):Int)) hg.1,zal,wsx j,zqv _ _ _ hj];generalize s.v Q ((zcy (λi=>decide (s.st1 Q i=1)) Q.P.n).getD j 0)=y at j0 hh ⊢;by_cases h:s.quo Q<y;·rw[dlt h,xab,wsubN (show s.quo Q<=y by omega) (by omega),zus (show(((zcy (λi=>decide (s.st1 Q i=1)) Q.P.n).take j).map λi=>s.v Q i-s.quo Q).sum+(y-s.quo Q)<=9223372036854775807 by omega)]
  ·rw[nlt (by omega),xaf,show y-s.quo Q=0 by omega];rfl
 ·simp only[jr,nlt (xag _),xaf,xaz,jl]
 rw[he _ _ _ (show s.sur Q<=9223372036854775807 by omega),xaa];have j5:=zpn (s:=s) ha;have gh:w (Int.tdiv (d:Int) 2)=((d/2:Nat):Int):=by have h1:Int.tdiv (d:Int) 2=((d/2:Nat):Int):=rfl;have:=hQ.d6;rw[h1,zbq (by omega) (by omega)]
 have jp:d138 ((d/2:Nat):Int)=some ((Q.om:Nat):Int):=by have:=hQ.d6;rw[d138_eq (by omega),hQ.om]
 have jg:w ((s.since:Int)+1)=((s.since+1:Nat):Int):=zmh (by omega);refine zsu (X:=RndQ Q c gs s rs) (λJ=>RndQ Q c gs s rs (J (((c,gs,Q.P.lots,H,G,((s.f1 Q:Nat):Int),E),((Q.one:Int),lst (λi=>((s.kp i:Nat):Int)) Q.P.n,((s.since+1:Nat):Int),decide (s.bef=none),su)),(VT,KT,rr (zaj (s.quo Q) Q.one),rr (zaj (s.rest Q) Q.one),rr (zaj (s.sur Q) Q.one),zaq (s.el Q) Q.P.n,[],[]),false,lst (λi=>((s.v Q i:Nat):Int)) Q.P.n,((s.quo Q:Nat):Int),((s.sur Q:Nat):Int),s.stall Q))) ?_ (λJ hJ=>?_)
 ·refine zsu (X:=RndQ Q c gs s rs) (λJ=>∀(A:IS) (B:RD) (last:Bool),A.1.2.2.2.2.2.2.length<=1000->J (A,B,last,((s.sur Q:Nat):Int))=some (B,last,finM A B ((s.sur Q:Nat):Int))) (λA B last hA=>?_) (λJ hJ=>?_)
  ·simp only[zal];unfold finM;have l1:=zch (l:=A.1.2.2.2.2.2.2) (d:=B.1) (by omega);by_cases e1:0<B.2.2.2.2.2.2.1.length;·simp only[zdt ((0:Int)<(B.2.2.2.2.2.2.1.length:Int)),xat,xaf,xab,l1,if_pos (show 0<B.2.2.2.2.2.2.1.length\/0<B.2.2.2.2.2.1.length from .inl e1)]
   ·by_cases e2:0<B.2.2.2.2.2.1.length;·simp only[zdf ((0:Int)<(B.2.2.2.2.2.2.1.length:Int)),zdt ((0:Int)<(B.2.2.2.2.2.1.length:Int)),xap,xaf,xab,l1,if_pos (show 0<B.2.2.2.2.2.2.1.length\/0<B.2.2.2.2.2.1.length from .inr e2)]
    ·simp only[zdf ((0:Int)<(B.2.2.2.2.2.2.1.length:Int)),zdf ((0:Int)<(B.2.2.2.2.2.1.length:Int)),xap,xaf,xab,l1,if_neg (show ¬(0<B.2.2.2.2.2.2.1.length\/0<B.2.2.2.2.2.1.length) by omega)]
  have hB:∀el ex ti,(VT,KT,rr (zaj (s.quo Q) Q.one),rr (zaj (s.rest Q) Q.one),rr (zaj (s.sur Q) Q.one),el,ex,ti)=rdT {s.rd0 Q with el:=el,ex:=ex,ti:=ti}:=λel ex ti=>by rw[<-h8,<-jy];exact rdM s el ex ti
  simp only[zfc,jf];by_cases c1:s.f1 Q=Q.P.seats
  ·have hf:s.fin Q=true:=by unfold MS.fin;rw[xae c1];rfl
   have hd:{s.rd0 Q with el:=zaq (s.el Q) Q.P.n,ex:=[],ti:=[]}=s.done Q:=by unfold MS.done;rw[if_pos c1];rfl
   have hr:((VT,KT,rr (zaj (s.quo Q) Q.one),rr (zaj (s.rest Q) Q.one),rr (zaj (s.sur Q) Q.one),zaq (s.el Q) Q.P.n,[],[]):RD)=rdT (s.done Q):=by rw[<-hd];exact hB _ [] []
   have h':=hJ ((c,gs,Q.P.lots,H,G,((s.f1 Q:Nat):Int),E),((Q.one:Int),lst (λi=>((s.kp i:Nat):Int)) Q.P.n,((s.since+1:Nat):Int),decide (s.bef=none),su)) (VT,KT,rr (zaj (s.quo Q) Q.one),rr (zaj (s.rest Q) Q.one),rr (zaj (s.sur Q) Q.one),zaq (s.el Q) Q.P.n,[],[]) true jb;refine .inl ⟨hf,finM ((c,gs,Q.P.lots,H,G,((s.f1 Q:Nat):Int),E),((Q.one:Int),lst (λi=>((s.kp i:Nat):Int)) Q.P.n,((s.since+1:Nat):Int),decide (s.bef=none),su)) (VT,KT,rr (zaj (s.quo Q) Q.one),rr (zaj (s.rest Q) Q.one),rr (zaj (s.sur Q) Q.one),zaq (s.el Q) Q.P.n,[],[]) ((s.sur Q:Nat):Int),?_⟩;rw[xae c1,xab,h',hr]
  rw[xah c1,xaf];have jc:ztx ((c,gs,Q.P.lots,H,G,((s.f1 Q:Nat):Int),E),((Q.one:Int),lst (λi=>((s.kp i:Nat):Int)) Q.P.n,((s.since+1:Nat):Int),decide (s.bef=none),su))=_:=lfG_eq (s:=((c,gs,Q.P.lots,H,G,((s.f1 Q:Nat):Int),E),((Q.one:Int),lst (λi=>((s.kp i:Nat):Int)) Q.P.n,((s.since+1:Nat):Int),decide (s.bef=none),su))) (n:=Q.P.n) (hop:=λi=>decide (s.st1 Q i=0)) (ele:=λi=>decide (s.st1 Q i=1)) (by omega) hH.symm hG.symm;have jh:zbu (λi=>decide (s.st1 Q i=1)) Q.P.n+zbu (λi=>decide (s.st1 Q i=0)) Q.P.n=s.f1 Q+s.h1 Q:=rfl;rw[jc,xaa,jh];by_cases c2:s.f1 Q+s.h1 Q<=Q.P.seats
  ·have hf:s.fin Q=true:=by unfold MS.fin;rw[xae c2,xcb]
   have hp:zcf (zaq (s.el Q) Q.P.n++zaq (λi=>decide (s.st1 Q i=0)) Q.P.n)=zaq (λi=>s.el Q i||decide (s.st1 Q i=0)) Q.P.n:=znf (q:=λi=>decide (s.st1 Q i=0)) (λi h=>by
    rcases zdo (Q:=Q) (s:=s) i with⟨h0,h1,h2,_⟩|⟨h0,h2⟩
    ·rw[h2];rfl
    ·rw[h]at h0;cases h0) Q.P.n
   have hd:{s.rd0 Q with el:=zaq (λi=>s.el Q i||decide (s.st1 Q i=0)) Q.P.n,ex:=[],ti:=[]}=s.done Q:=by unfold MS.done;rw[if_neg c1];rfl
   obtain⟨ho,ele',fl',h5⟩:=eaG_eq (c:=c) (gs:=gs) (lots:=Q.P.lots) (hop:=λi=>decide (s.st1 Q i=0)) (ele:=λi=>decide (s.st1 Q i=1)) (n:=Q.P.n) (fl:=s.f1 Q) (V:=E) (z:=((Q.one:Int),lst (λi=>((s.kp i:Nat):Int)) Q.P.n,((s.since+1:Nat):Int),decide (s.bef=none),su)) (v:=VT) (k:=KT) (q:=rr (zaj (s.quo Q) Q.one)) (e:=rr (zaj (s.rest Q) Q.one)) (sr:=rr (zaj (s.sur Q) Q.one)) (el:=zaq (s.el Q) Q.P.n) (ex:=[]) (ti:=[]) jw (by omega) (by omega) (zox _ _);rw[hH,hG]at h5;have hr:((VT,KT,rr (zaj (s.quo Q) Q.one),rr (zaj (s.rest Q) Q.one),rr (zaj (s.sur Q) Q.one),zaq (λi=>s.el Q i||decide (s.st1 Q i=0)) Q.P.n,[],[]):RD)=rdT (s.done Q):=by rw[<-hd];exact hB _ [] []
   have h':=hJ ((c,gs,Q.P.lots,ho,ele',fl',E),((Q.one:Int),lst (λi=>((s.kp i:Nat):Int)) Q.P.n,((s.since+1:Nat):Int),decide (s.bef=none),su)) (VT,KT,rr (zaj (s.quo Q) Q.one),rr (zaj (s.rest Q) Q.one),rr (zaj (s.sur Q) Q.one),zaq (λi=>s.el Q i||decide (s.st1 Q i=0)) Q.P.n,[],[]) true jb;refine .inl ⟨hf,finM ((c,gs,Q.P.lots,ho,ele',fl',E),((Q.one:Int),lst (λi=>((s.kp i:Nat):Int)) Q.P.n,((s.since+1:Nat):Int),decide (s.bef=none),su)) (VT,KT,rr (zaj (s.quo Q) Q.one),rr (zaj (s.rest Q) Q.one),rr (zaj (s.sur Q) Q.one),zaq (λi=>s.el Q i||decide (s.st1 Q i=0)) Q.P.n,[],[]) ((s.sur Q:Nat):Int),?_⟩;rw[zdt (((s.f1 Q+s.h1 Q:Nat):Int)<=(Q.P.seats:Int)),xab,d339180_G,h5,xaa,hp,h',hr]
  have hf:s.fin Q=false:=by unfold MS.fin;rw[xah c1,xah c2];rfl
  rw[zdf (((s.f1 Q+s.h1 Q:Nat):Int)<=(Q.P.seats:Int)),xaf];have h6:s.cut Q=false->RndQ Q c gs s rs (J (((c,gs,Q.P.lots,H,G,((s.f1 Q:Nat):Int),E),((Q.one:Int),lst (λi=>((s.kp1 Q i:Nat):Int)) Q.P.n,((s.since+1:Nat):Int),decide (s.bef=none),su)),(VT,KT,rr (zaj (s.quo Q) Q.one),rr (zaj (s.rest Q) Q.one),rr (zaj (s.sur Q) Q.one),zaq (s.el Q) Q.P.n,[],[]),false,((s.sur Q:Nat):Int))):=λhc=>by
   refine .inr (.inr ⟨hf,hc,?_⟩);rw[hJ _ _ _ jb];have hr:rdT (s.rd0 Q)=(VT,KT,rr (zaj (s.quo Q) Q.one),rr (zaj (s.rest Q) Q.one),rr (zaj (s.sur Q) Q.one),zaq (s.el Q) Q.P.n,[],[]):=(hB (zaq (s.el Q) Q.P.n) [] []).symm;rw[hr];refine xbr (λz:IS=>(some ((VT,KT,rr (zaj (s.quo Q) Q.one),rr (zaj (s.rest Q) Q.one),rr (zaj (s.sur Q) Q.one),zaq (s.el Q) Q.P.n,[],[]),false,z):Option (RD×Bool×IS))) ?_;unfold finM stMr;have jm:((rs++[s.rd0 Q]).map Rd.votes).map (List.map rr)=E++[VT]:=by rw[xcc,xcc,<-ht,<-h8];show _++[(lst (λi=>zaj (s.v Q i) Q.one) Q.P.n).map rr]=_;rw[zgj]
   have hl:(if 0<(([]:List Int)).length\/0<(zaq (s.el Q) Q.P.n).length then(0:Int)else((s.since+1:Nat):Int))=(((s.redu Q).since:Nat):Int):=by
    show _=(((if s.some1 Q then 0 else s.since+1:Nat)):Int);rw[zav];unfold MS.some1;by_cases h:0<zbu (s.el Q) Q.P.n;·rw[if_pos (.inr h),xae h];rfl
    ·rw[if_neg (by simp;omega),xah h];rfl
   rw[jm];subst hH hG;exact xbr (λz:Int=>((c,gs,Q.P.lots,lst (λi=>decide (s.st1 Q i=0)) Q.P.n,lst (λi=>decide (s.st1 Q i=1)) Q.P.n,((s.f1 Q:Nat):Int),E++[VT]),((Q.one:Int),lst (λi=>((s.kp1 Q i:Nat):Int)) Q.P.n,z,false,((s.sur Q:Nat):Int)))) hl
  refine zsu (X:=RndQ Q c gs s rs) (λJ2=>∀b,s.cut Q=b->RndQ Q c gs s rs (J2 (((c,gs,Q.P.lots,H,G,((s.f1 Q:Nat):Int),E),((Q.one:Int),lst (λi=>((s.kp i:Nat):Int)) Q.P.n,((s.since+1:Nat):Int),decide (s.bef=none),su)),(VT,KT,rr (zaj (s.quo Q) Q.one),rr (zaj (s.rest Q) Q.one),rr (zaj (s.sur Q) Q.one),zaq (s.el Q) Q.P.n,[],[]),false,lst (λi=>((s.v Q i:Nat):Int)) Q.P.n,((s.quo Q:Nat):Int),((s.sur Q:Nat):Int),b))) (λb hb=>?_) (λJ2 hJ2=>?_)
  ·cases b
   ·simp only[xaf,jz,xaa];obtain⟨M,hL⟩:∃M,zcy (λi=>decide (s.st1 Q i=1)) Q.P.n=M:=⟨_,rfl⟩;have j4:zaq (λi=>decide (s.st1 Q i=1)) Q.P.n=M.map Int.ofNat:=by rw[<-hL];rfl
    have j9:∀i∈M,i<Q.P.n:=λi hi=>(zby.1 (by rw[hL];exact hi)).1;have gu:M.length<=7:=by rw[<-hL,zcb];have:=zax (λi=>decide (s.st1 Q i=1)) Q.P.n;omega
    have gd:M.Nodup:=by rw[<-hL];unfold zcy;exact xjk.filter _
    have hy:∀i,i<Q.P.n->(s.st1 Q i=1↔i∈M):=λi hi=>by rw[<-hL,zby,xak];exact⟨λh=>⟨hi,h⟩,λh=>h.2⟩
    obtain⟨nw,j8⟩:∃nw:Nat->Nat,(λi=>min Q.one (mup (mup (s.kp i*s.quo Q) Q.one*Q.one) (s.v Q i)))=nw:=⟨_,rfl⟩;have hn:∀i,min Q.one (mup (mup (s.kp i*s.quo Q) Q.one*Q.one) (s.v Q i))=nw i:=λi=>by rw[<-j8]
    rw[j4];have jv:(M.map Int.ofNat).length=M.length:=xao ..;simp only[show(M.map Int.ofNat).length=M.length from jv];refine zdu (X:=RndQ Q c gs s rs) (λj=>(((c,gs,Q.P.lots,H,G,((s.f1 Q:Nat):Int),E),((Q.one:Int),lst (λi=>((if i∈M.take j/\0<s.v Q i then nw i else s.kp i:Nat):Int)) Q.P.n,((s.since+1:Nat):Int),decide (s.bef=none),su)),(VT,KT,rr (zaj (s.quo Q) Q.one),rr (zaj (s.rest Q) Q.one),rr (zaj (s.sur Q) Q.one),zaq (s.el Q) Q.P.n,[],[]),false,lst (λi=>((s.v Q i:Nat):Int)) Q.P.n,((s.quo Q:Nat):Int),((s.sur Q:Nat):Int),M.map Int.ofNat,(M.length:Int),(j:Int))) M.length (b:=(((c,gs,Q.P.lots,H,G,((s.f1 Q:Nat):Int),E),((Q.one:Int),lst (λi=>((s.kp1 Q i:Nat):Int)) Q.P.n,((s.since+1:Nat):Int),decide (s.bef=none),su)),(VT,KT,rr (zaj (s.quo Q) Q.one),rr (zaj (s.rest Q) Q.one),rr (zaj (s.sur Q) Q.one),zaq (s.el Q) Q.P.n,[],[]),false,((s.sur Q:Nat):Int))) ?_ (λj hj=>?_) ?_ ?_;·simp only[xcq,xdj,xkd,xcg];rfl
    ·obtain⟨x,hx⟩:∃x,M.getD j 0=x:=⟨_,rfl⟩;have gc:x∈M:=by rw[<-hx,xad,xaj hj];exact xbf hj
     have h9:=j9 x gc;have jd:(M.map Int.ofNat).getD j 0=(x:Int):=by rw[xad,xci,xaj hj,<-hx,xad,xaj hj];rfl
     have ju:M.take (j+1)=M.take j++[x]:=by rw[zaw M 0 hj,hx]
     have ga:x∉M.take j:=λh=>by have h2:(M.take (j+1)).Nodup:=gd.sublist (xhc _ _);rw[ju]at h2;exact(xdh.1 h2).2.2 x h x (by simp) rfl
     have jt:¬(x∈M.take j/\0<s.v Q x):=λh=>ga h.1;have j0:=hv x h9;have gj:=hI.kp1 x;have b1:s.kp x*s.quo Q<=1000000*100000000001:=xcu (by omega) hq;have b2:mup (s.kp x*s.quo Q) Q.one<=s.quo Q:=mup_le ja (by rw[xce];exact xcy _ gj);have b3:mup (s.kp x*s.quo Q) Q.one*Q.one<=100000000001*1000000:=xcu (by omega) jx;simp only[dlt hj,zbp,jv,xai,xab,tn,jd,zad,dlt h9,zaf (λi=>((s.v Q i:Nat):Int)) h9,wsx j,zal,ju];by_cases h0:0<s.v Q x
     ·simp only[zdt ((0:Int)<((s.v Q x:Nat):Int)),zdf ((Q.one:Int)=0),zdf (((s.v Q x:Nat):Int)=0),xap,xab,zaf (λi=>((if i∈M.take j/\0<s.v Q i then nw i else s.kp i:Nat):Int)) h9,if_neg jt,wmul (show s.kp x*s.quo Q<=9223372036854775807 by omega),upW ja (show s.kp x*s.quo Q+Q.one<=4611686018427387904 by omega),wmul (show mup (s.kp x*s.quo Q) Q.one*Q.one<=9223372036854775807 by omega),upW h0 (show mup (s.kp x*s.quo Q) Q.one*Q.one+s.v Q x<=4611686018427387904 by omega)];have jo:(bif decide (((mup (mup (s.kp x*s.quo Q) Q.one*Q.one) (s.v Q x):Nat):Int)<(Q.one:Int))then((mup (mup (s.kp x*s.quo Q) Q.one*Q.one) (s.v Q x):Nat):Int)else(Q.one:Int))=((nw x:Nat):Int):=by
       rw[<-hn];generalize mup (mup (s.kp x*s.quo Q) Q.one*Q.one) (s.v Q x)=y;by_cases h:y<Q.one;·rw[dlt h,xab];omega
       ·rw[nlt (by omega),xaf];omega
      have e:lst (upd (λi=>((if i∈M.take j/\0<s.v Q i then nw i else s.kp i:Nat):Int)) x ((nw x:Nat):Int)) Q.P.n=lst (λi=>((if i∈M.take j++[x]/\0<s.v Q i then nw i else s.kp i:Nat):Int)) Q.P.n:=zai λi hi=>by
       unfold upd;by_cases hix:i=x;·subst hix;rw[if_pos rfl,if_pos ⟨by simp,h0⟩]
       ·rw[if_neg hix];have:(i∈M.take j++[x])↔i∈M.take j:=by simp[hix]
        simp only[this]
      rw[jo,zcl,e]
     ·simp only[zdf ((0:Int)<((s.v Q x:Nat):Int)),xaf];have e:lst (λi=>((if i∈M.take j/\0<s.v Q i then nw i else s.kp i:Nat):Int)) Q.P.n=lst (λi=>((if i∈M.take j++[x]/\0<s.v Q i then nw i else s.kp i:Nat):Int)) Q.P.n:=zai λi hi=>by
       by_cases hix:i=x;·subst hix;rw[if_neg jt,if_neg λh=>h0 h.2]
       ·have:(i∈M.take j++[x])↔i∈M.take j:=by simp[hix]
        simp only[this]
      rw[e]
    ·simp only[nlt (xag M.length),xaf,xaz];have e:lst (λi=>((if i∈M/\0<s.v Q i then nw i else s.kp i:Nat):Int)) Q.P.n=lst (λi=>((s.kp1 Q i:Nat):Int)) Q.P.n:=zai λi hi=>by
      unfold MS.kp1;rw[hn];by_cases h:s.st1 Q i=1;·have:=(hy i hi).1 h;simp only[h,this,xgl]
      ·have:¬i∈M:=λhm=>h ((hy i hi).2 hm);simp only[h,this,xkd]
     rw[e]
    ·exact h6 hb
   ·simp only[xab];have h1:=cut_some1 hb;have je:zaq (s.el Q) Q.P.n=[]:=el_nil h1;have hw:H=lst (λi=>decide (s.st i=0)) Q.P.n:=by rw[<-hH];exact zai λi hi=>by rw[(el_out h1 hi).2]
    have hk:G=lst (λi=>decide (s.st i=1)) Q.P.n:=by rw[<-hG];exact zai λi hi=>by rw[(el_out h1 hi).2]
    have h4:s.f1 Q=s.fl Q:=by
     have:zbu (s.el Q) Q.P.n=0:=by rw[<-zav,je];rfl
     omega
    obtain⟨x,x1,x2,hz⟩:=d340_eq (Q:=Q) (s:=s) ha hI hQ.ties hE (by rw[xao];omega) (gs:=gs) (Z1:=(lst (λi=>decide (s.st i=1)) Q.P.n,((s.f1 Q:Nat):Int))) (one:=(Q.one:Int)) (age:=((s.since+1:Nat):Int)) (zz:=(decide (s.bef=none),su)) (v:=VT) (k:=KT) (q:=rr (zaj (s.quo Q) Q.one)) (e:=rr (zaj (s.rest Q) Q.one)) (sr:=rr (zaj (s.sur Q) Q.one)) (el:=zaq (s.el Q) Q.P.n);rw[ht]at hz;rw[hw,hk,hz,xaa];refine .inr (.inl ⟨hf,hb,?_⟩);rw[hJ _ _ _ jb];have gk:(s.excl Q (rs.map Rd.votes)).fl Q=s.f1 Q:=by rw[h4];obtain⟨x',y1,y2,y3⟩:=zht hI (rs.map Rd.votes);unfold MS.excl;rw[y1,xam];exact fl_excl y2 y3
    have jq:(s.excl Q (rs.map Rd.votes)).st=upd s.st x 2:=by unfold MS.excl;rw[x2];rfl
    have jj:(s.excl Q (rs.map Rd.votes)).kp=upd s.kp x 0:=by unfold MS.excl;rw[x2];rfl
    have jk:s.exR Q (rs.map Rd.votes)={s.rd0 Q with el:=zaq (s.el Q) Q.P.n,ex:=[(x:Int)],ti:=if(s.tied Q).length=1 then []else s.tied Q}:=by unfold MS.exR;rw[x2];rfl
    have hr:rdT (s.exR Q (rs.map Rd.votes))=(VT,KT,rr (zaj (s.quo Q) Q.one),rr (zaj (s.rest Q) Q.one),rr (zaj (s.sur Q) Q.one),zaq (s.el Q) Q.P.n,[(x:Int)],if(s.tied Q).length=1 then []else s.tied Q):=by rw[jk];exact(hB (zaq (s.el Q) Q.P.n) _ _).symm
    have ji:s.st x=0:=by
     obtain⟨x',y1,y2,y3⟩:=zht hI (rs.map Rd.votes);have:(x:Int)=(x':Int):=by rw[<-x2,y1]
     rw[xda.1 this];exact y3
    have gp:lst (λi=>decide (s.st i=1)) Q.P.n=lst (λi=>decide (upd s.st x 2 i=1)) Q.P.n:=zai λi _=>by
     unfold upd;by_cases h:i=x;·subst h;rw[if_pos rfl,ji];rfl
     ·rw[if_neg h]
    have jm:((rs++[s.exR Q (rs.map Rd.votes)]).map Rd.votes).map (List.map rr)=E++[VT]:=by rw[xcc,xcc,<-ht,<-h8];show _++[(lst (λi=>zaj (s.v Q i) Q.one) Q.P.n).map rr]=_;rw[zgj]
    rw[hr];refine xbr (λz:IS=>(some ((VT,KT,rr (zaj (s.quo Q) Q.one),rr (zaj (s.rest Q) Q.one),rr (zaj (s.sur Q) Q.one),zaq (s.el Q) Q.P.n,[(x:Int)],if(s.tied Q).length=1 then []else s.tied Q),false,z):Option (RD×Bool×IS))) ?_;unfold finM stMr;rw[jm,gk,jq,jj,<-gp];rfl
  ·cases hs:s.stall Q;·simp only[xaf];exact hJ2 false (by unfold MS.cut;rw[hs,Bool.and_false])
   ·simp only[xab];refine hJ2 _ ?_;unfold MS.cut MS.some1;rw[hs,Bool.and_true,zav];by_cases h:0<zbu (s.el Q) Q.P.n;·rw[xae h,zdf (((zbu (s.el Q) Q.P.n:Nat):Int)=0)];rfl
    ·rw[xah h,zdt (((zbu (s.el Q) Q.P.n:Nat):Int)=0)];rfl
 ·simp only[j6,gh,jp,xaa,jg];have ge:decide ((60:Int)<=((s.since+1:Nat):Int))=decide (60<=s.since+1):=by rw[xeb,xak,xak];omega
  rw[ge];unfold MS.stall at hJ;by_cases g1:s.sur Q<Q.om;·rw[xae g1,xdg,xdg]at hJ;rw[dlt g1,xat,xaf];exact hJ
  ·rw[xah g1,xbz]at hJ;rw[nlt (by omega),xap,xab];cases hb:s.bef with
   |none=>simp only[hb]at hJ;rw[xby]at hJ;simp only[xbh,xat,xaf]at hJ ⊢;exact hJ
   |some b=>
    simp only[hb]at hJ;have gb:=hsu b hb;subst gb;simp only[reduceCtorEq,xdc,xap,xab]at hJ ⊢;by_cases g2:b<=s.sur Q;·rw[xae g2,xcb]at hJ;rw[zdt ((b:Int)<=((s.sur Q:Nat):Int)),xat,xaf];exact hJ
    ·rw[xah g2,xby]at hJ;rw[zdf ((b:Int)<=((s.sur Q:Nat):Int)),xap,xab];exact hJ
def mtr_mach{c:CT}{gs:List Grp}{d:Nat}(hQ:MQ Q c gs d){rs rest:List Rd}(h:MTr Q s rs rest):∀{su:Int},(∀b,s.bef=some b->su=(b:Int))->Mach (.inr (.inl (stMr c gs Q s rs su))) rest:=by
 induction h with
 | @fin s rs hR hf=>
  intro su ha;rcases d335_eq hQ hR ha with⟨_,k',e⟩|⟨h1,_⟩|⟨h1,_⟩
  ·refine .last (k':=.inr (.inl k')) ?_;show((d335 _).bind _).bind _=_;rw[e];rfl
  ·rw[hf]at h1;cases h1
  ·rw[hf]at h1;cases h1
 | @excl s rs rest hR hf hc _ ih=>
  intro su ha;rcases d335_eq hQ hR ha with⟨h1,_⟩|⟨_,_,e⟩|⟨_,h1,_⟩
  ·rw[hf]at h1;cases h1
  ·refine .next ?_ (ih (su:=((s.sur Q:Nat):Int)) λb hb=>by cases hb);show((d335 _).bind _).bind _=_;rw[e];rfl
  ·rw[hc]at h1;cases h1
 | @redu s rs rest hR hf hc _ ih=>
  intro su ha;rcases d335_eq hQ hR ha with⟨h1,_⟩|⟨_,h1,_⟩|⟨_,_,e⟩
  ·rw[hf]at h1;cases h1
  ·rw[hc]at h1;cases h1
  ·refine .next ?_ (ih (su:=((s.sur Q:Nat):Int)) λb hb=>by cases hb;rfl);show((d335 _).bind _).bind _=_;rw[e];rfl
end
section
variable {P:GP} {s:GS}
def rst(P:GP)(s:GS)(g:Nat):List Int:=(P.p g).drop (s.at_ g)
def wgt(s:GS)(g:Nat):Rt:=rr (zaj (s.num g) s.D)
def rst_on(g c:Nat):s.on P g c=(decide (0<(rst P s g).length)&&decide ((rst P s g).getD 0 0=(c:Int))):=by unfold GS.on rst;rw[xeq,zit,xdl];congr 1;rw[xeb,xak,xak];omega
def frac_nat_mul(a D k:Nat):(k:Rat)*zaj a D=zaj (k*a) D:=by rw[Rat.mul_comm,zqj]
def frac_zero(D:Nat):zaj 0 D=0:=by unfold zaj;rw[xfv];simp
def d344_eq(hP:P.OK)(hI:GI P s)(hG:P.G<=1000000){k:TS}(h1:k.2.2.2.2.2.1=lst (rst P s) P.G)(h2:k.2.2.2.2.2.2=lst (wgt s) P.G)(h3:k.2.2.2.1=lst (λi=>decide (s.st i=2)) P.n)(h4:k.2.1=(P.q:Int))(h5:k.1.2.1=P.gs)(hgk:∀g,g<P.G->(P.gs.getD g ([],0)).2=(P.k g:Int)){c:Nat}(hc:c<P.n) :
  d344 k (c:Int)=some (rr (zaj (s.vt P c) s.D)):=by
 have hq:=hP.q5;have ht:=hP.tot5;have d0:d93 0=some (rr 0):=zcm (n:=0) (by omega);have hd:P.gs.length=P.G:=rfl;unfold d344;simp only[h3,zad,dlt hc,zbp,xai,xab,tn,zaf (λi=>decide (s.st i=2)) hc];by_cases h:s.st c=2;·rw[xae h,xab,h4,zcm (by omega),xaa];congr 2;unfold GS.vt;rw[if_pos h];unfold GS.bar;rw[zhh hI.D0]
 ·rw[xah h,xaf,d0,xaa];have hf:s.vt P c=s.lie P c:=by rw[vt_eq hI,xah h];simp
  have hL:=lie_le hP hI hc;rw[hf];simp only[h1,zad];refine zaa (λg=>(k,(c:Int),((false,[],[]):Rt),rr (zaj (s.lieU P g c) s.D),lst (rst P s) P.G,(P.G:Int),(g:Int))) P.G ?_ (λg hg=>?_) (b:=(((false,[],[]):Rt),rr (zaj (s.lie P c) s.D))) ?_ rfl;·show _=(k,(c:Int),((false,[],[]):Rt),rr 0,_,_,_);rw[<-frac_zero s.D];rfl
  ·have hU:=lieU_le (P:=P) (s:=s) g c (by omega);have hk:=k_le hP hg;have he:=knum_le hP hI hg;have hb:=rst_on (P:=P) (s:=s) g c;have hh:s.lieU P (g+1) c=s.lieU P g c+(if s.on P g c then P.k g*s.num g else 0):=rfl;rw[hh];simp only[dlt hg,zbp,zad,xai,xab,tn,zal,zaf (rst P s) hg,h2,h5,hd,zaf (wgt s) hg,hgk g hg,wsx g];have ha:(d93 ((P.k g:Nat):Int)).bind (λr_2=>(d227 r_2 (wgt s g)).bind λr_3=>(d175 (rr (zaj (s.lieU P g c) s.D)) r_3).bind λr_4=>some r_4)=some (rr (zaj (s.lieU P g c+P.k g*s.num g) s.D)):=by rw[zcm (by omega),xaa];unfold wgt;rw[zze (zhy (by omega)).sz2 (znm hP hI hg).sz2,xaa,frac_nat_mul,zpp (zbb hP hI (by omega)).sz2 (zbb hP hI he).sz2,xaa,zny hI.D0]
   by_cases e1:0<(rst P s g).length
   ·rw[zdt ((0:Int)<((rst P s g).length:Int)),xab,show decide ((0:Nat)<=0)=true from rfl,xbu,xab];rw[xae e1,xbu]at hb;rw[hb];by_cases e2:(rst P s g).getD 0 0=(c:Int)
    ·rw[xae e2,xab,if_pos rfl];rw[zcm (by omega),xaa]at ha ⊢;cases h227:d227 (rr (P.k g:Rat)) (wgt s g)with
     |none=>rw[h227]at ha;cases ha
     |some r3=>
      rw[h227,xaa]at ha;rw[xaa];cases h175:d175 (rr (zaj (s.lieU P g c) s.D)) r3 with
      |none=>rw[h175]at ha;cases ha
      |some r4=>rw[h175,xaa]at ha;rw[xaa,xbi ha]
    ·rw[xah e2,xaf,if_neg (by simp)];rfl
   ·rw[zdf ((0:Int)<((rst P s g).length:Int)),xaf,xaf];rw[xah e1,xcn]at hb;rw[hb,if_neg (by simp)];rfl
  ·simp only[nlt (xag P.G),xaf];rfl
def rst_move(hP:P.OK)(hI:GI P s){st:Nat->Nat}{keep:Nat->Rat}{x a b g:Nat}:rst P (s.move P st keep x a b) g=if s.on P g x then(P.p g).drop (nxt (P.p g) st (s.at_ g+1))else rst P s g:=by
 unfold rst GS.move;by_cases h:s.on P g x=true;·simp[h]
 ·simp[h]
def wgt_move(hI:GI P s){st:Nat->Nat}{keep:Nat->Rat}{x a b g:Nat}(hb:0<b):wgt (s.move P st keep x a b) g=if s.on P g x then rr (zaj (s.num g*a) (s.D*b))else wgt s g:=by
 unfold wgt GS.move;by_cases h:s.on P g x=true;·simp[h]
 ·show rr (zaj (if s.on P g x then s.num g*a else s.num g*b) (s.D*b))=_;rw[if_neg h,if_neg h,zsy hI.D0 hb]
def d346_eq(hP:P.OK)(hI:GI P s)(hG:P.G<=1000000){A:ST}{q:Int}{pe se:List Bool}{va:List Rt}{st:Nat->Nat}{keep:Nat->Rat}{x a b:Nat}(hb:0<b)(hab:Bz eB (zaj a b))(hA:A.2.2.2.1=lst (λi=>decide (st i=0)) P.n)(hx:st x≠0) :
  d346 (A,q,pe,se,va,lst (rst P s) P.G,lst (wgt s) P.G) (x:Int) (rr (zaj a b))=some (A,q,pe,se,va,lst (rst P (s.move P st keep x a b)) P.G,lst (wgt (s.move P st keep x a b)) P.G):=by
 unfold d346;simp only[zad];refine zaa (λg=>((A,q,pe,se,va,lst (λj=>if j<g then rst P (s.move P st keep x a b) j else rst P s j) P.G,lst (λj=>if j<g then wgt (s.move P st keep x a b) j else wgt s j) P.G),(x:Int),rr (zaj a b),(P.G:Int),(g:Int))) P.G rfl (λg hg=>?_) (b:=(A,q,pe,se,va,lst (rst P (s.move P st keep x a b)) P.G,lst (wgt (s.move P st keep x a b)) P.G)) ?_ rfl
 ·have stepF:∀{α:Type} (u v:Nat->α),upd (λj=>if j<g then u j else v j) g (u g)=λj=>if j<g+1 then u j else v j:=λu v=>by
   funext j;show(if j=g then u g else if j<g then u j else v j)=if j<g+1 then u j else v j
   by_cases h:j=g;·subst h;rw[if_pos rfl,if_pos (by omega)]
   ·rw[if_neg h];by_cases h2:j<g;·rw[if_pos h2,if_pos (by omega)]
    ·rw[if_neg h2,if_neg (by omega)]
  have hl:(λj=>if j<g then rst P (s.move P st keep x a b) j else rst P s j) g=rst P s g:=by simp
  have hj:(λj=>if j<g then wgt (s.move P st keep x a b) j else wgt s j) g=wgt s g:=by simp
  have s1:=stepF (rst P (s.move P st keep x a b)) (rst P s);have s2:=stepF (wgt (s.move P st keep x a b)) (wgt s);have hm:=hP.plen g hg;rw[<-s1,<-s2];generalize(λj=>if j<g then rst P (s.move P st keep x a b) j else rst P s j)=F at hl ⊢;generalize(λj=>if j<g then wgt (s.move P st keep x a b) j else wgt s j)=W at hj ⊢;have ha:=rst_on (P:=P) (s:=s) g x;have hc:∀{α:Type} (f:Nat->α),upd f g (f g)=f:=λf=>by
   funext j;unfold upd;split;·rename_i e;rw[e]
   ·rfl
  simp only[dlt hg,zbp,zad,xai,xab,tn,zal,zaf F hg,zaf W hg,hl,hj,wsx g,zcl];have stay:s.on P g x=false->upd F g (rst P (s.move P st keep x a b) g)=F/\upd W g (wgt (s.move P st keep x a b) g)=W:=λh=>by rw[rst_move hP hI,wgt_move hI hb,h,<-hl,<-hj];exact⟨hc F,hc W⟩
  by_cases e1:0<(rst P s g).length
  ·rw[zdf (((rst P s g).length:Int)=0),xap,xab,zdt ((0:Int)<((rst P s g).length:Int)),show decide ((0:Nat)<=0)=true from rfl,xai,xab];rw[xae e1,xbu]at ha;by_cases e2:(rst P s g).getD 0 0=(x:Int)
   ·rw[xae e2]at ha ⊢;rw[xat,xaf];have hq:(rst P s g).length=(P.p g).length-s.at_ g:=xeq;have hh:∀y∈rst P s g,∃i:Nat,y=(i:Int)/\i<P.n:=λy hy=>hP.prefs g hg y (xeu hy);have ho:∀(k:TS),k.1=A->∀y∈rst P s g,d348 y k=some (decide (st y.toNat=0)):=λk hk y hy=>by obtain⟨i,rfl,hi⟩:=hh y hy;unfold d348;rw[hk,hA];simp only[zad,dlt hi,zbp,xai,xab,tn,zaf (λi=>decide (st i=0)) hi]
    have hw:d227 (wgt s g) (rr (zaj a b))=some (rr (zaj (s.num g*a) (s.D*b))):=by unfold wgt;rw[zze (znm hP hI hg).sz2 hab.sz2,zjo hI.D0 hb]
    rw[hw,xaa,d84_mem (g:=λy=>decide (st y.toNat=0)) (ho _ rfl) (by omega),xaa];have hn:s.at_ g<(P.p g).length:=by omega
    have hp:s.at_ g+zag (λy=>decide (st y.toNat=0)) (rst P s g)=nxt (P.p g) st (s.at_ g+1):=by
     have h0:(P.p g).getD (s.at_ g) 0=(x:Int):=by
      have:(rst P s g).getD 0 0=(P.p g).getD (s.at_ g) 0:=by unfold rst;rw[zit,xdl]
      rw[<-this];exact e2
     have hd:=nxt_step (p:=P.p g) (st:=st) (k:=s.at_ g) hn;rw[h0,xam,if_neg hx]at hd;rw[<-hd];unfold nxt rst;rw[zpl];congr 2;refine zhb λy _=>?_;by_cases h:st y.toNat=0<;>simp[h]
    have hr:=zgx (λy=>decide (st y.toNat=0)) (rst P s g);have he:wgt (s.move P st keep x a b) g=rr (zaj (s.num g*a) (s.D*b)):=by rw[wgt_move hI hb,ha];rfl
    have hf:rst P (s.move P st keep x a b) g=(P.p g).drop (nxt (P.p g) st (s.at_ g+1)):=by rw[rst_move hP hI,ha];rfl
    rw[he,hf,<-hp];by_cases e3:zag (λy=>decide (st y.toNat=0)) (rst P s g)<(rst P s g).length
    ·rw[if_pos e3,zdf ((zag (λy=>decide (st y.toNat=0)) (rst P s g):Int)<0),xaf];rw[show zcr (zag (λy=>decide (st y.toNat=0)) (rst P s g):Int) ((rst P s g).length:Int) (rst P s g).length=true by unfold zcr;simp;omega,xab];have hdr:List.drop (Int.toNat (zag (λy=>decide (st y.toNat=0)) (rst P s g):Int)) (List.take (rst P s g).length (rst P s g))=(P.p g).drop (s.at_ g+zag (λy=>decide (st y.toNat=0)) (rst P s g)):=by rw[xam,xaz];unfold rst;rw[xje]
     rw[hdr]
    ·rw[if_neg e3,show decide ((-1:Int)<0)=true from rfl,xab];have:(P.p g).drop (s.at_ g+zag (λy=>decide (st y.toNat=0)) (rst P s g))=[]:=xfy (by omega);rw[this]
   ·rw[xah e2]at ha ⊢;rw[xap,xab,(stay ha).1,(stay ha).2]
  ·rw[zdt (((rst P s g).length:Int)=0),xat,xaf];try rw[xab]
   rw[xah e1,xcn]at ha;rw[(stay ha).1,(stay ha).2]
 ·simp only[nlt (xag P.G),xaf];have c1:lst (λj=>if j<P.G then rst P (s.move P st keep x a b) j else rst P s j) P.G=lst (rst P (s.move P st keep x a b)) P.G:=zai λi hi=>if_pos hi;have c2:lst (λj=>if j<P.G then wgt (s.move P st keep x a b) j else wgt s j) P.G=lst (wgt (s.move P st keep x a b)) P.G:=zai λi hi=>if_pos hi;rw[c1,c2]
def d328_tied(hP:P.OK)(hI:GI P s){r:RD}(hr:r.1=lst (λi=>rr (zaj (s.vt P i) s.D)) P.n) :
  d328 r (zaq (λi=>decide (s.st1 P i=if s.most P then 1 else 0)) P.n) (!s.most P)=some (s.tied P):=by
 have hb:=hP.n7;have ha:∀x∈zaq (λi=>decide (s.st1 P i=if s.most P then 1 else 0)) P.n,∃i:Nat,x=(i:Int)/\i<P.n:=λx hx=>by obtain⟨i,h1,h2,_⟩:=zap.1 hx;exact⟨i,h1,h2⟩
 rw[d328_eq (votes_rnd hP hI) (by rw[hr,zgj]) ha (by rw[zav];have:=zax (λi=>decide (s.st1 P i=if s.most P then 1 else 0)) P.n;omega),extr_votes ha,tied_eq hI];rfl
def tied_in{x:Int}(h:x∈s.tied P):∃i:Nat,x=(i:Int)/\i<P.n:=by obtain⟨i,h1,h2,_⟩:=zap.1 h;exact⟨i,h1,h2⟩
def pick_tieB(hP:P.OK)(E:List (List Rat)):zvc P.ties E (s.tied P) P.lots (!s.most P)=s.pick P E:=by
 unfold GS.pick;by_cases h1:(s.tied P).length=1;·rw[if_pos h1];obtain⟨x,hx⟩:=xcw.1 h1;obtain⟨i,e,hi⟩:=tied_in (P:=P) (s:=s) (x:=x) (by rw[hx];simp);rw[hx,zml (by rw[e];exact(zhf hP).mem hi)];rfl
 ·rw[if_neg h1]
def d345_eq(hP:P.OK)(hI:GI P s)(hG:P.G<=1000000){c:CT}(hc:c.2.2.2.2.2.2.1=P.ties){gs:List Grp}{E:List (List Rat)}(hE:∀r∈E,RndOK P.n r)(hEl:E.length<=1000){el0:List Bool}{fl:Int}(hf:s.fin P=false)(hm:s.most P=true)(el:List Int) :
  d345 ((c,gs,P.lots,lst (λi=>decide (s.st1 P i=0)) P.n,el0,fl,E.map (List.map rr)),(P.q:Int),lst (λi=>decide (s.st1 P i=1)) P.n,lst (λi=>decide (s.st1 P i=2)) P.n,lst (λi=>rr (s.keep i)) P.n,lst (rst P s) P.G,lst (wgt s) P.G) (zbh P s el)
   =some (((c,gs,P.lots,lst (λi=>decide ((s.trans P E).st i=0)) P.n,el0,fl,E.map (List.map rr)),(P.q:Int),lst (λi=>decide ((s.trans P E).st i=1)) P.n,lst (λi=>decide ((s.trans P E).st i=2)) P.n,lst (λi=>rr ((s.trans P E).keep i)) P.n,lst (rst P (s.trans P E)) P.G,lst (wgt (s.trans P E)) P.G),
    (zbh P s el).1,(zbh P s el).2.1,(zbh P s el).2.2.1,(zbh P s el).2.2.2.1,(zbh P s el).2.2.2.2.1,el,[],s.tiedR P):=by
 have hq:=hP.n7;obtain⟨x,x1,x2,x3⟩:=zew hP hI hf E;rw[hm,if_pos rfl]at x3;obtain⟨_,k2,k3⟩:=zko hI x2 x3;have hb:=bar_pos hP hI;have hg:=zkk hP hI x2;have hd:=d328_tied hP hI (r:=zbh P s el) rfl;have hh:=pick_tieB (s:=s) hP E;rw[hm]at hd hh;simp only[if_true,xat]at hd hh;have hi:=tied_ne hP hI hf;have hp:(s.tied P).length<=7:=by have:(s.tied P).length=zbu (zkm P (s.vt P) (s.st1 P) (if s.most P then 1 else 0) (s.most P)) P.n:=zav _ _;have:=zax (zkm P (s.vt P) (s.st1 P) (if s.most P then 1 else 0) (s.most P)) P.n;omega
 have hl:(s.pick P E).toNat=x:=by rw[x1];rfl
 have he:s.trans P E=s.move P (upd (s.st1 P) x 2) (upd s.keep x (zaj (s.vt P x-s.bar P) (s.vt P x))) x (s.vt P x-s.bar P) (s.vt P x):=by unfold GS.trans;simp only[hl]
 have hn:Bz eB (zaj (s.vt P x-s.bar P) (s.vt P x)):=zhj (zfd hP hI (by omega)) (zfd hP hI hg) (by decide);unfold d345;simp only[zij (show P.n<=1000 by omega),xaa];rw[hd,xaa,d327183_G,zrn (n:=P.n) (E:=E) (lots:=P.lots) (ties:=P.ties) (by rfl) (by rfl) hc (zhf hP) hE (by omega) false hi (zbv _ _) (λy hy=>tied_in hy) (by omega),hh,x1,xaa];have ha:(d347 (zbh P s el).2.2.1 (lst (λi=>rr (zaj (s.vt P i) s.D)) P.n |>.getD x (false,[],[]))).bind (λr_5=>d169 (rr 1) r_5)=some (rr (zaj (s.vt P x-s.bar P) (s.vt P x))):=by
  rw[zaf _ x2];unfold d347;have e0:(zbh P s el).2.2.1=rr (P.q:Rat):=rfl;have ho:Bz eB (zaj (s.bar P) (s.vt P x)):=zhj (zfd hP hI (xay k3 hg)) (zfd hP hI hg) (by decide);rw[e0,d233_rr (zin hP).sz2 (zbb hP hI hg).sz2 (zyw (by omega) hI.D0),zqh hI,frac_div hI.D0 (by omega)];simp only[xaa,xat,xaf];have h1:(1:Rat)=zaj (s.vt P x) (s.vt P x):=by have:=zhh (q:=1) (D:=s.vt P x) (by omega);rw[xji]at this;exact this.symm
  have hk:Sz 268435456 (rr (1:Rat)):=(zhy (n:=1) (by decide)).sz2;rw[zle hk ho.sz2];congr 2;conv=>lhs;lhs;rw[h1]
  rw[zjn (by omega) k3]
 have d1:d93 1=some (rr 1):=zcm (n:=1) (by omega);have hj:(zbh P s el).1=lst (λi=>rr (zaj (s.vt P i) s.D)) P.n:=rfl;simp only[zbp,zad,dlt x2,xai,xab,tn,d1,xaa,hj,zcl,zaf (upd _ x _) x2,zce];cases h347:d347 (zbh P s el).2.2.1 ((lst (λi=>rr (zaj (s.vt P i) s.D)) P.n).getD x (false,[],[]))with
 |none=>rw[h347]at ha;cases ha
 |some r5=>
  rw[h347,xaa]at ha;rw[xaa,ha,xaa];rw[d346_eq (keep:=upd s.keep x (zaj (s.vt P x-s.bar P) (s.vt P x))) (st:=upd (s.st1 P) x 2) hP hI hG (by omega) hn (zai λi _=>by
   unfold upd;by_cases h:i=x;·subst h;rw[if_pos rfl,x3];rfl
   ·rw[if_neg h]) (by rw[zce];omega),xaa,<-he]
  have g1:lst (upd (λi=>decide (s.st1 P i=1)) x false) P.n=lst (λi=>decide ((s.trans P E).st i=1)) P.n:=zai λi _=>by rw[he];show upd _ x false i=decide (upd (s.st1 P) x 2 i=1);unfold upd;split<;>rfl
  have g2:lst (upd (λi=>decide (s.st1 P i=2)) x true) P.n=lst (λi=>decide ((s.trans P E).st i=2)) P.n:=zai λi _=>by rw[he];show upd _ x true i=decide (upd (s.st1 P) x 2 i=2);unfold upd;split<;>rfl
  have g0:lst (λi=>decide (s.st1 P i=0)) P.n=lst (λi=>decide ((s.trans P E).st i=0)) P.n:=zai λi _=>by
   rw[he];show _=decide (upd (s.st1 P) x 2 i=0);unfold upd;by_cases h:i=x;·subst h;rw[if_pos rfl,x3];rfl
   ·rw[if_neg h]
  have g3:lst (upd (λi=>rr (s.keep i)) x (rr (zaj (s.vt P x-s.bar P) (s.vt P x)))) P.n=lst (λi=>rr ((s.trans P E).keep i)) P.n:=zai λi _=>by rw[he];show upd (λi=>rr (s.keep i)) x _ i=rr (upd s.keep x _ i);unfold upd;split<;>rfl
  have g4:(if 1<(s.tied P).length then s.tied P else [])=s.tiedR P:=ti_eq hi;rw[g1,g2,g0,g3];show some (_,_,_,_,_,_,el,[],(if 1<(s.tied P).length then s.tied P else []))=_;rw[g4]
end
section
variable {P:GP} {s:GS}
def zuv(st:Nat->Nat)(i:Nat):Bool:=decide (st i=1)||decide (st i=2)
def cnt_eleG(st:Nat->Nat)(n:Nat):zbu (zuv st) n=zbu (λi=>decide (st i=1)) n+zbu (λi=>decide (st i=2)) n:=by
 unfold zbu;rw[<-zde];refine zay λi _=>?_;unfold zuv;by_cases h1:st i=1;·simp[h1]
 ·by_cases h2:st i=2;·simp[h2]
  ·simp[h1,h2]
def stG(c:CT)(gs:List Grp)(P:GP)(s:GS)(rs:List Rd):TS:=((c,gs,P.lots,lst (λi=>decide (s.st i=0)) P.n,lst (zuv s.st) P.n,((zbu (λi=>decide (s.st i=1)) P.n+zbu (λi=>decide (s.st i=2)) P.n:Nat):Int),(rs.map Rd.votes).map (List.map rr)),(P.q:Int),lst (λi=>decide (s.st i=1)) P.n,lst (λi=>decide (s.st i=2)) P.n,lst (λi=>rr (s.keep i)) P.n,lst (rst P s) P.G,lst (wgt s) P.G)
def finG(A:TS)(B:RD):TS:=((A.1.1,A.1.2.1,A.1.2.2.1,A.1.2.2.2.1,A.1.2.2.2.2.1,A.1.2.2.2.2.2.1,A.1.2.2.2.2.2.2++[B.1]),A.2)
def RndG(P:GP)(c:CT)(gs:List Grp)(s:GS)(rs:List Rd)(z:Option (RD×Bool×TS)):Prop:=
 (s.fin P=true/\∃k',z=some (rdT (s.done P),true,k')) \/
 (s.fin P=false/\s.most P=true/\z=some (rdT {s.rd0 P with ti:=s.tiedR P},false,stG c gs P (s.trans P (rs.map Rd.votes)) (rs++[{s.rd0 P with ti:=s.tiedR P}]))) \/
 (s.fin P=false/\s.most P=false/\z=some (rdT {s.rd0 P with ti:=s.tiedR P,ex:=[s.pick P (rs.map Rd.votes)]},false,stG c gs P (s.excl P (rs.map Rd.votes)) (rs++[{s.rd0 P with ti:=s.tiedR P,ex:=[s.pick P (rs.map Rd.votes)]}])))
def sumN_part(f:Nat->Nat){m n:Nat}(h:m<=n):zaz f m<=zaz f n:=zkn f h
set_option maxHeartbeats 2000000 in
def d343_eq{c:CT}{gs:List Grp}(hP:P.OK)(hI:GI P s)(hG:P.G<=1000000){rs:List Rd}(hR:RsOK P s rs)(hc:c.2.2.2.2.2.2.1=P.ties)(hcs:c.2.2.2.1=(P.seats:Int))(hgs:P.gs=gs)(hgk:∀g,g<P.G->(P.gs.getD g ([],0)).2=(P.k g:Int))(ht90:d90 gs=some (P.tot:Int)) :
  RndG P c gs s rs (d343 (stG c gs P s rs)):=by
 have jx:=hP.n7;have ga:=hP.q5;have gb:=hP.tot5;have gd:=hP.seats5;have j2:=zlk hP hI;have jl:d93 0=some (rr 0):=zcm (n:=0) (by omega);have jv:d93 1=some (rr 1):=zcm (n:=1) (by omega);have jt:Sz 268435456 (rr (0:Rat)):=(zhy (n:=0) (by decide)).sz2;have j5:=hR.len;have hE:∀r∈rs.map Rd.votes,RndOK P.n r:=λr hr=>by obtain⟨r',h1,rfl⟩:=xdx.1 hr;exact(hR.rnd r' h1).1
 have gf:=zax (λi=>decide (s.st i=1)) P.n;have j6:=zax (λi=>decide (s.st i=2)) P.n;have hb:∀i,i<P.n->d344 (stG c gs P s rs) (i:Int)=some (rr (zaj (s.vt P i) s.D)):=λi hi=>d344_eq hP hI hG rfl rfl rfl rfl hgs.symm hgk hi;obtain⟨K,hK⟩:∃K:TS,stG c gs P s rs=K:=⟨_,rfl⟩;unfold d343;rw[hK]at hb ⊢;have k1:K.2.1=(P.q:Int):=by rw[<-hK];rfl
 have k2:K.1.2.1=gs:=by rw[<-hK];rfl
 have k3:K.1.2.2.2.1=lst (λi=>decide (s.st i=0)) P.n:=by rw[<-hK];rfl
 have k4:K.2.2.2.2.1=lst (λi=>rr (s.keep i)) P.n:=by rw[<-hK];rfl
 rw[k1,zcm (show P.q<=9223372036854775807 by omega),xaa,k2,ht90,xaa,zcm (show P.tot<=9223372036854775807 by omega),xaa,jl,xaa];simp only[k3,zad];refine zdu (X:=RndG P c gs s rs) (λi=>(K,(lst (λi=>rr (zaj (s.vt P i) s.D)) i,lst (λi=>rr (s.keep i)) i,rr (P.q:Rat),rr (zaj (P.tot*s.D-zaz (s.vt P) i) s.D),rr 0,[],[],[]),false,(P.n:Int),(i:Int))) P.n ?_ (λi hi=>?_) (b:=(K,(lst (λi=>rr (zaj (s.vt P i) s.D)) P.n,lst (λi=>rr (s.keep i)) P.n,rr (P.q:Rat),rr (zaj (P.tot*s.D-zaz (s.vt P) P.n) s.D),rr 0,[],[],[]),false)) ?_ ?_;·simp only[zaz,xir,zhh hI.D0];rfl
 ·have h1:=sumN_part (s.vt P) (show i<=P.n by omega);have h2:=sumN_part (s.vt P) (show i+1<=P.n by omega);have sumS:zaz (s.vt P) (i+1)=zaz (s.vt P) i+s.vt P i:=rfl;rw[sumS]at h2;have hv:=zkk hP hI hi;have hd:d169 (rr (zaj (P.tot*s.D-zaz (s.vt P) i) s.D)) (rr (zaj (s.vt P i) s.D))=some (rr (zaj (P.tot*s.D-zaz (s.vt P) (i+1)) s.D)):=by rw[zle (zbb hP hI (by omega)).sz2 (zbb hP hI hv).sz2,zjn hI.D0 (by omega),sumS,Nat.sub_sub]
  have hk:d175 (rr (s.keep i)) (rr 0)=some (rr (s.keep i)):=by rw[zpp (hR.keep i hi).sz2 jt,Rat.add_zero]
  simp only[dlt hi,xab,hb i hi,xaa,k4,zbp,zad,xai,tn,zaf (λi=>rr (s.keep i)) hi,hd,jl,hk,wsx i];rw[zkw (show i+1<=4294967296 by omega),xab,zkw (show i+1<=4294967296 by omega),xab,zcz,zcz]
 ·simp only[nlt (xag P.n),xaf]
 simp only[k3,zij (show P.n<=1000 by omega),xaa];obtain⟨M,hM⟩:∃M,zcy (λi=>decide (s.st i=0)) P.n=M:=⟨_,rfl⟩;have jh:zaq (λi=>decide (s.st i=0)) P.n=M.map Int.ofNat:=by rw[<-hM];rfl
 have j9:M.length<=7:=by rw[<-hM,zcb];have:=zax (λi=>decide (s.st i=0)) P.n;omega
 have jm:(M.map Int.ofNat).length=M.length:=xao ..;have jq:M.filter (s.el1 P)=zcy (s.el1 P) P.n:=by rw[<-hM,zsf];refine zvj λi hi=>?_;unfold GS.el1;cases decide (s.st i=0)<;>rfl
 have h5:=cnt_split hI;have ja:(zcy (s.el1 P) P.n).length=zbu (s.el1 P) P.n:=zcb _ _;have ha:∀i,i<P.n->(i∈zcy (s.el1 P) P.n↔s.el1 P i=true):=λi hi=>⟨λh=>(zby.1 h).2,λh=>zby.2 ⟨hi,h⟩⟩;have f1:lst (zbz (λi=>decide (s.st i=0)) (zcy (s.el1 P) P.n) false) P.n=lst (λi=>decide (s.st1 P i=0)) P.n:=zai λi hi=>by
  unfold zbz GS.st1;by_cases h:s.el1 P i=true;·rw[if_pos ((ha i hi).2 h),if_pos h];rfl
  ·rw[if_neg λh'=>h ((ha i hi).1 h'),if_neg h]
 have f2:lst (zbz (zuv s.st) (zcy (s.el1 P) P.n) true) P.n=lst (zuv (s.st1 P)) P.n:=zai λi hi=>by
  unfold zbz zuv GS.st1;by_cases h:s.el1 P i=true;·rw[if_pos ((ha i hi).2 h),if_pos h];rfl
  ·rw[if_neg λh'=>h ((ha i hi).1 h'),if_neg h]
 have f3:lst (zbz (λi=>decide (s.st i=1)) (zcy (s.el1 P) P.n) true) P.n=lst (λi=>decide (s.st1 P i=1)) P.n:=zai λi hi=>by
  unfold zbz GS.st1;by_cases h:s.el1 P i=true;·rw[if_pos ((ha i hi).2 h),if_pos h];rfl
  ·rw[if_neg λh'=>h ((ha i hi).1 h'),if_neg h]
 have f4:lst (λi=>decide (s.st i=2)) P.n=lst (λi=>decide (s.st1 P i=2)) P.n:=zai λi hi=>by rw[xeb,xak,xak];exact(zov i).symm
 have f5:zbu (λi=>decide (s.st i=1)) P.n+zbu (λi=>decide (s.st i=2)) P.n+(zcy (s.el1 P) P.n).length=s.e1 P+s.e2 P:=by rw[ja,h5]
 have jn:K=((c,gs,P.lots,lst (λi=>decide (s.st i=0)) P.n,lst (zuv s.st) P.n,((zbu (λi=>decide (s.st i=1)) P.n+zbu (λi=>decide (s.st i=2)) P.n:Nat):Int),(rs.map Rd.votes).map (List.map rr)),(P.q:Int),lst (λi=>decide (s.st i=1)) P.n,lst (λi=>decide (s.st i=2)) P.n,lst (λi=>rr (s.keep i)) P.n,lst (rst P s) P.G,lst (wgt s) P.G):=hK.symm;rw[jh,jm,jn];refine zdu (X:=RndG P c gs s rs) (λj=>(((c,gs,P.lots,lst (zbz (λi=>decide (s.st i=0)) ((M.take j).filter (s.el1 P)) false) P.n,lst (zbz (zuv s.st) ((M.take j).filter (s.el1 P)) true) P.n,((zbu (λi=>decide (s.st i=1)) P.n+zbu (λi=>decide (s.st i=2)) P.n+((M.take j).filter (s.el1 P)).length:Nat):Int),(rs.map Rd.votes).map (List.map rr)),(P.q:Int),lst (zbz (λi=>decide (s.st i=1)) ((M.take j).filter (s.el1 P)) true) P.n,lst (λi=>decide (s.st i=2)) P.n,lst (λi=>rr (s.keep i)) P.n,lst (rst P s) P.G,lst (wgt s) P.G),
   (lst (λi=>rr (zaj (s.vt P i) s.D)) P.n,lst (λi=>rr (s.keep i)) P.n,rr (P.q:Rat),rr (zaj (P.tot*s.D-zaz (s.vt P) P.n) s.D),rr 0,((M.take j).filter (s.el1 P)).map Int.ofNat,[],[]),false,M.map Int.ofNat,(M.length:Int),(j:Int))) M.length ?_ (λj hj=>?_)
  (b:=(((c,gs,P.lots,lst (λi=>decide (s.st1 P i=0)) P.n,lst (zuv (s.st1 P)) P.n,((s.e1 P+s.e2 P:Nat):Int),(rs.map Rd.votes).map (List.map rr)),(P.q:Int),lst (λi=>decide (s.st1 P i=1)) P.n,lst (λi=>decide (s.st1 P i=2)) P.n,lst (λi=>rr (s.keep i)) P.n,lst (rst P s) P.G,lst (wgt s) P.G),
   (lst (λi=>rr (zaj (s.vt P i) s.D)) P.n,lst (λi=>rr (s.keep i)) P.n,rr (P.q:Rat),rr (zaj (P.tot*s.D-zaz (s.vt P) P.n) s.D),rr 0,zaq (s.el1 P) P.n,[],[]),false)) ?_ ?_
 ·simp only[xcq,List.filter_nil,zeq,xfa,xee,xdl];rfl
 ·have jw:M.getD j 0∈M:=by rw[xad,xaj hj];exact xbf hj
  have hp:=zby.1 (by rw[hM];exact jw);have jj:M.take (j+1)=M.take j++[M.getD j 0]:=zaw M 0 hj;have hu:(M.map Int.ofNat).getD j 0=((M.getD j 0:Nat):Int):=by rw[xad,xci,xaj hj,xad,xaj hj];rfl
  have j8:((M.take j).filter (s.el1 P)).length<=7:=xay (xid _ _) (by rw[xax];omega);have hn:zcf (((M.take j).filter (s.el1 P)).map Int.ofNat++[((M.getD j 0:Nat):Int)])=((M.take j).filter (s.el1 P)).map Int.ofNat++[((M.getD j 0:Nat):Int)]:=by
   refine zhs (xft _) ?_;have h1:(M.map Int.ofNat).Pairwise (·< ·):=by rw[<-jh];exact zbv _ _
   have h2:((M.take (j+1)).map Int.ofNat).Pairwise (·< ·):=h1.sublist ((xhc _ _).map _);rw[jj,xcc]at h2;have h3:(((M.take j).filter (s.el1 P)).map Int.ofNat++[((M.getD j 0:Nat):Int)]).Pairwise (·< ·):=h2.sublist (List.Sublist.append ((List.filter_sublist).map _) (List.Sublist.refl _));exact h3.imp λh=>xja h
  rw[jj,xgb];simp only[dlt hj,jm,zbp,xai,xab,tn,zal,hu,zad,dlt hp.1,zaf (λi=>rr (zaj (s.vt P i) s.D)) hp.1,wsx j];generalize M.getD j 0=x at hp hn ⊢;have hv:=zkk hP hI hp.1;have h8:=xbc hp.2;have h9:decide (0<=zrm (zaj (s.vt P x) s.D) (P.q:Rat))=s.el1 P x:=by
   rw[zqh hI];unfold GS.el1 zrm;rw[xae h8,xbu];by_cases h:s.vt P x<s.bar P;·rw[if_pos ((zsx hI.D0).2 h),zdf (s.bar P<=s.vt P x)];rfl
   ·rw[if_neg λh'=>h ((zsx hI.D0).1 h'),zdt (s.bar P<=s.vt P x)];split<;>rfl
  rw[zmu (zbb hP hI hv).sz2 (zin hP).sz2,xaa,h9];cases he:s.el1 P x;·rw[xaf];simp only[xer,he,xbb,xcg,List.filter_nil,xbn]
  ·rw[xab];have j3:[x].filter (s.el1 P)=[x]:=by simp[he]
   rw[d325183_G,elG_eq hp.1 (by omega) (by rw[xao];omega),xaa];simp only[hn,zbp,zad,dlt hp.1,xai,xab,tn,zcl,zel,j3,xcc,xdo,xfa,xbo,List.length_singleton,xdk];rfl
 ·simp only[nlt (xag M.length),xaf,xaz,jq,f1,f2,f3,f5,<-f4];rfl
 clear hb hK jn k1 k2 k3 k4;simp only[zij (show P.n<=1000 by omega),xaa];obtain⟨L,hL⟩:∃L,zcy (λi=>decide (s.st1 P i=1)) P.n=L:=⟨_,rfl⟩;have h6:(zaq (λi=>decide (s.st1 P i=1)) P.n).length=L.length:=by rw[<-hL,zaq,xao]
 have jz:L.length=s.e1 P:=by rw[<-hL,zcb];rfl
 have j7:L.length<=7:=by rw[<-hL,zcb];have:=zax (λi=>decide (s.st1 P i=1)) P.n;omega
 have jp:(L.map λi=>s.vt P i-s.bar P).sum=zaz (λi=>if s.st1 P i=1 then s.vt P i-s.bar P else 0) P.n:=by
  rw[<-hL,zry];refine zay λi hi=>?_;by_cases h:s.st1 P i=1;·simp[h]
  ·simp[h]
 have jy:(L.map λi=>s.vt P i-s.bar P).sum<=P.tot*s.D:=by rw[jp];exact sur_le hP hI
 obtain⟨A1,jg⟩:∃A1:TS,(((c,gs,P.lots,lst (λi=>decide (s.st1 P i=0)) P.n,lst (zuv (s.st1 P)) P.n,((s.e1 P+s.e2 P:Nat):Int),(rs.map Rd.votes).map (List.map rr)),(P.q:Int),lst (λi=>decide (s.st1 P i=1)) P.n,lst (λi=>decide (s.st1 P i=2)) P.n,lst (λi=>rr (s.keep i)) P.n,lst (rst P s) P.G,lst (wgt s) P.G):TS)=A1:=⟨_,rfl⟩;rw[jg,h6];refine zdu (X:=RndG P c gs s rs) (λj=>(A1,(lst (λi=>rr (zaj (s.vt P i) s.D)) P.n,lst (λi=>rr (s.keep i)) P.n,rr (P.q:Rat),rr (zaj (P.tot*s.D-zaz (s.vt P) P.n) s.D),rr (zaj ((L.take j).map λi=>s.vt P i-s.bar P).sum s.D),zaq (s.el1 P) P.n,[],[]),false,zaq (λi=>decide (s.st1 P i=1)) P.n,(L.length:Int),(j:Int))) L.length ?_ (λj hj=>?_) (b:=(A1,zbh P s (zaq (s.el1 P) P.n),false)) ?_ ?_;·simp only[xcq,xfa,List.sum_nil,frac_zero];rfl
 ·have jo:j<(zcy (λi=>decide (s.st1 P i=1)) P.n).length:=by rw[hL];exact hj
  have hg:=zdw jo;have hu:=zev jo;rw[hL]at hg hu;obtain⟨x,hx⟩:∃x,L.getD j 0=x:=⟨_,rfl⟩;rw[hx]at hg hu;obtain⟨_,_,k3⟩:=zko hI hg.1 (xbc hg.2);have hv:=zkk hP hI hg.1;have jr:d169 (rr (zaj (s.vt P x) s.D)) (rr (P.q:Rat))=some (rr (zaj (s.vt P x-s.bar P) s.D)):=by rw[zqh hI,zle (zbb hP hI hv).sz2 (bar_le hP hI).sz2,zjn hI.D0 k3]
  have j4:((L.take (j+1)).map λi=>s.vt P i-s.bar P).sum=((L.take j).map λi=>s.vt P i-s.bar P).sum+(s.vt P x-s.bar P):=by rw[zaw L 0 hj,hx,xcc,xim];simp
  have jb:((L.take j).map λi=>s.vt P i-s.bar P).sum<=P.tot*s.D:=by rw[xih];exact xay (zjd _ _) jy
  have j0:d175 (rr (zaj ((L.take j).map λi=>s.vt P i-s.bar P).sum s.D)) (rr (zaj (s.vt P x-s.bar P) s.D))=some (rr (zaj ((L.take (j+1)).map λi=>s.vt P i-s.bar P).sum s.D)):=by rw[zpp (zbb hP hI jb).sz2 (zbb hP hI (by omega)).sz2,zny hI.D0,j4]
  simp only[dlt hj,zbp,h6,xai,xab,tn,hu,zad,dlt hg.1,zaf (λi=>rr (zaj (s.vt P i) s.D)) hg.1,jr,j0,xaa,wsx j]
 ·simp only[nlt (xag L.length),xaf,xaz,jp];rfl
 have h4:((rs.map Rd.votes).map (List.map rr)).length<=1000:=by rw[xao,xao];omega
 refine zsu (X:=RndG P c gs s rs) (λJ=>∀(A:TS) (B:RD) (last:Bool),A.1.2.2.2.2.2.2.length<=1000->J (A,B,last)=some (B,last,finG A B)) (λA B last hA=>?_) (λJ hJ=>?_);·have l1:=zch (l:=A.1.2.2.2.2.2.2) (d:=B.1) (by omega);simp only[l1,xab];rfl
 subst jg;simp only[hcs,zfc];have ju:=ziu hP hI;have jk:∀R:Rd,((rs++[R]).map Rd.votes).map (List.map rr)=(rs.map Rd.votes).map (List.map rr)++[(rdT R).1]:=λR=>by rw[xcc,xcc];rfl
 by_cases c1:s.e1 P+s.e2 P=P.seats
 ·have hf:s.fin P=true:=by show(decide (s.e1 P+s.e2 P=P.seats)||_)=true;rw[xae c1];rfl
  have hd:s.done P={s.rd0 P with el:=zaq (s.el1 P) P.n,ex:=[],ti:=[]}:=by
   unfold GS.done;have jd:¬(zbu (λi=>decide (s.st1 P i=1)) P.n+zbu (λi=>decide (s.st1 P i=2)) P.n<P.seats):=by show ¬(s.e1 P+s.e2 P<P.seats);omega
   rw[if_neg jd];rfl
  have hr:zbh P s (zaq (s.el1 P) P.n)=rdT (s.done P):=by rw[hd,<-zhz];rfl
  have h':=hJ ((c,gs,P.lots,lst (λi=>decide (s.st1 P i=0)) P.n,lst (zuv (s.st1 P)) P.n,((s.e1 P+s.e2 P:Nat):Int),(rs.map Rd.votes).map (List.map rr)),(P.q:Int),lst (λi=>decide (s.st1 P i=1)) P.n,lst (λi=>decide (s.st1 P i=2)) P.n,lst (λi=>rr (s.keep i)) P.n,lst (rst P s) P.G,lst (wgt s) P.G) (zbh P s (zaq (s.el1 P) P.n)) true h4;refine .inl ⟨hf,finG ((c,gs,P.lots,lst (λi=>decide (s.st1 P i=0)) P.n,lst (zuv (s.st1 P)) P.n,((s.e1 P+s.e2 P:Nat):Int),(rs.map Rd.votes).map (List.map rr)),(P.q:Int),lst (λi=>decide (s.st1 P i=1)) P.n,lst (λi=>decide (s.st1 P i=2)) P.n,lst (λi=>rr (s.keep i)) P.n,lst (rst P s) P.G,lst (wgt s) P.G) (zbh P s (zaq (s.el1 P) P.n)),?_⟩;rw[xae c1,xab,h',hr]
 rw[xah c1,xaf];have j1:zbu (λi=>decide (s.st1 P i=0)) P.n=s.e0 P:=rfl;have js:zbu (zuv (s.st1 P)) P.n=s.e1 P+s.e2 P:=cnt_eleG _ _;rw[d321183_G,lfG_eq (n:=P.n) (hop:=λi=>decide (s.st1 P i=0)) (ele:=zuv (s.st1 P)) (by omega) rfl rfl,xaa,js,j1];by_cases c2:s.e1 P+s.e2 P+s.e0 P<=P.seats
 ·have hf:s.fin P=true:=by show(_||decide (s.e1 P+s.e2 P+s.e0 P<=P.seats))=true;rw[xae c2,xcb]
  have hz:zcf (zaq (s.el1 P) P.n++zaq (λi=>decide (s.st1 P i=0)) P.n)=zaq (λi=>s.el1 P i||decide (s.st1 P i=0)) P.n:=znf (q:=λi=>decide (s.st1 P i=0)) (λi h=>by
   rcases zct (P:=P) (s:=s) i with⟨h0,h1,h2,_⟩|⟨h0,h2⟩
   ·rw[h2];rfl
   ·rw[h]at h0;cases h0) P.n
  have hd:s.done P={s.rd0 P with el:=zaq (λi=>s.el1 P i||decide (s.st1 P i=0)) P.n,ex:=[],ti:=[]}:=by
   unfold GS.done;have jd:zbu (λi=>decide (s.st1 P i=1)) P.n+zbu (λi=>decide (s.st1 P i=2)) P.n<P.seats:=by show s.e1 P+s.e2 P<P.seats;omega
   rw[if_pos jd];rfl
  have ge:=zwq (s:=s) hP;obtain⟨hw,ele',fl',je⟩:=eaG_eq (c:=c) (gs:=gs) (lots:=P.lots) (hop:=λi=>decide (s.st1 P i=0)) (ele:=zuv (s.st1 P)) (n:=P.n) (fl:=s.e1 P+s.e2 P) (V:=(rs.map Rd.votes).map (List.map rr)) (z:=((P.q:Int),lst (λi=>decide (s.st1 P i=1)) P.n,lst (λi=>decide (s.st1 P i=2)) P.n,lst (λi=>rr (s.keep i)) P.n,lst (rst P s) P.G,lst (wgt s) P.G)) (v:=(zbh P s []).1) (k:=(zbh P s []).2.1) (q:=(zbh P s []).2.2.1) (e:=(zbh P s []).2.2.2.1) (sr:=(zbh P s []).2.2.2.2.1) (el:=zaq (s.el1 P) P.n) (ex:=[]) (ti:=[]) jx (by omega) (by omega) (zox _ _);have hr:(((zbh P s []).1,(zbh P s []).2.1,(zbh P s []).2.2.1,(zbh P s []).2.2.2.1,(zbh P s []).2.2.2.2.1,zaq (λi=>s.el1 P i||decide (s.st1 P i=0)) P.n,[],[]):RD)=rdT (s.done P):=by rw[hd,<-zhz];rfl
  have h':=hJ ((c,gs,P.lots,hw,ele',fl',(rs.map Rd.votes).map (List.map rr)),((P.q:Int),lst (λi=>decide (s.st1 P i=1)) P.n,lst (λi=>decide (s.st1 P i=2)) P.n,lst (λi=>rr (s.keep i)) P.n,lst (rst P s) P.G,lst (wgt s) P.G)) ((zbh P s []).1,(zbh P s []).2.1,(zbh P s []).2.2.1,(zbh P s []).2.2.2.1,(zbh P s []).2.2.2.2.1,zaq (λi=>s.el1 P i||decide (s.st1 P i=0)) P.n,[],[]) true h4;refine .inl ⟨hf,finG ((c,gs,P.lots,hw,ele',fl',(rs.map Rd.votes).map (List.map rr)),((P.q:Int),lst (λi=>decide (s.st1 P i=1)) P.n,lst (λi=>decide (s.st1 P i=2)) P.n,lst (λi=>rr (s.keep i)) P.n,lst (rst P s) P.G,lst (wgt s) P.G)) ((zbh P s []).1,(zbh P s []).2.1,(zbh P s []).2.2.1,(zbh P s []).2.2.2.1,(zbh P s []).2.2.2.2.1,zaq (λi=>s.el1 P i||decide (s.st1 P i=0)) P.n,[],[]),?_⟩;rw[zdt (((s.e1 P+s.e2 P+s.e0 P:Nat):Int)<=(P.seats:Int)),xab];rw[show zbh P s (zaq (s.el1 P) P.n)=((zbh P s []).1,(zbh P s []).2.1,(zbh P s []).2.2.1,(zbh P s []).2.2.2.1,(zbh P s []).2.2.2.2.1,zaq (s.el1 P) P.n,[],[])from rfl,d339183_G,je,xaa,hz,h',hr]
 have hf:s.fin P=false:=by show(decide (s.e1 P+s.e2 P=P.seats)||decide (s.e1 P+s.e2 P+s.e0 P<=P.seats))=false;rw[xah c1,xah c2];rfl
 rw[zdf (((s.e1 P+s.e2 P+s.e0 P:Nat):Int)<=(P.seats:Int)),xaf];simp only[zij (show P.n<=1000 by omega),xaa,h6,jz];have hl:s.most P=decide (0<s.e1 P):=rfl;by_cases c3:0<s.e1 P
 ·have hm:s.most P=true:=by rw[hl,xae c3]
  rw[zdt ((0:Int)<((s.e1 P:Nat):Int)),xab];rw[d345_eq hP hI hG hc hE (by rw[xao];omega) hf hm,xaa];refine .inr (.inl ⟨hf,hm,?_⟩);rw[hJ _ _ _ h4];obtain⟨x,x1,x2,x3⟩:=zew hP hI hf (rs.map Rd.votes);rw[hm,if_pos rfl]at x3;have h7:(s.pick P (rs.map Rd.votes)).toNat=x:=by rw[x1];rfl
  have ht:(s.trans P (rs.map Rd.votes)).st=upd (s.st1 P) x 2:=by unfold GS.trans;simp only[h7];rfl
  have ho:=zyy (st:=(s.trans P (rs.map Rd.votes)).st) x2 (.inl ⟨x3,rfl⟩) ht;have hq:lst (zuv (s.st1 P)) P.n=lst (zuv (s.trans P (rs.map Rd.votes)).st) P.n:=zai λi _=>by
   rw[ht];unfold zuv upd;by_cases h:i=x;·subst h;rw[if_pos rfl,x3];rfl
   ·rw[if_neg h]
  have hr:=zhz P s (zaq (s.el1 P) P.n) [] (s.tiedR P);rw[hr,hq,ho];unfold stG;rw[jk];rfl
 ·have hm:s.most P=false:=by rw[hl,xah c3]
  rw[zdf ((0:Int)<((s.e1 P:Nat):Int)),xaf];obtain⟨x,x1,x2,x3⟩:=zew hP hI hf (rs.map Rd.votes);rw[hm]at x3;have x3':s.st1 P x=0:=by simpa using x3
  have hs:=d328_tied hP hI (r:=zbh P s (zaq (s.el1 P) P.n)) rfl;have jf:=pick_tieB (s:=s) hP (rs.map Rd.votes);rw[hm]at hs jf;simp only[xbb,xcg,xap]at hs jf;have ji:=tied_ne hP hI hf;have gc:(s.tied P).length<=7:=by have:(s.tied P).length=zbu (zkm P (s.vt P) (s.st1 P) (if s.most P then 1 else 0) (s.most P)) P.n:=zav _ _;have:=zax (zkm P (s.vt P) (s.st1 P) (if s.most P then 1 else 0) (s.most P)) P.n;omega
  have h7:(s.pick P (rs.map Rd.votes)).toNat=x:=by rw[x1];rfl
  have ht:s.excl P (rs.map Rd.votes)=s.move P (upd (s.st1 P) x 3) (upd s.keep x 0) x 1 1:=by unfold GS.excl;simp only[h7]
  have hh:(s.excl P (rs.map Rd.votes)).st=upd (s.st1 P) x 3:=by rw[ht];rfl
  rw[hs,xaa,d327183_G,zrn (n:=P.n) (E:=rs.map Rd.votes) (lots:=P.lots) (ties:=P.ties) (by rfl) (by rfl) hc (zhf hP) hE (by rw[xao];omega) true ji (zbv _ _) (λy hy=>tied_in hy) (by omega),jf,x1,xaa];simp only[];rw[d326183_G,exG_eq x2,xaa];simp only[zbp,zad,dlt x2,xai,xab,tn,zcl,jv,xaa];have g0:lst (upd (λi=>decide (s.st1 P i=0)) x false) P.n=lst (λi=>decide (upd (s.st1 P) x 3 i=0)) P.n:=zai λi _=>by unfold upd;split<;>rfl
  have jc:rr (zaj 1 1)=rr (1:Rat):=by rw[zfw];rfl
  rw[g0,<-jc,d346_eq (keep:=upd s.keep x 0) (st:=upd (s.st1 P) x 3) hP hI hG (a:=1) (b:=1) (by omega) (zhj (e:=eB) (by rw[show(1:Nat)=2^0 from rfl];exact xel (by decide) (by decide)) (by rw[show(1:Nat)=2^0 from rfl];exact xel (by decide) (by decide)) (by decide)) rfl (by rw[zce];omega),xaa,<-ht];refine .inr (.inr ⟨hf,hm,?_⟩);rw[hJ _ _ _ h4];have ho:=zyy (st:=(s.excl P (rs.map Rd.votes)).st) x2 (.inr ⟨x3',rfl⟩) hh;have hq:lst (zuv (s.st1 P)) P.n=lst (zuv (s.excl P (rs.map Rd.votes)).st) P.n:=zai λi _=>by
   rw[hh];unfold zuv upd;by_cases h:i=x;·subst h;rw[if_pos rfl,x3'];rfl
   ·rw[if_neg h]
  have g1:lst (λi=>decide (s.st1 P i=1)) P.n=lst (λi=>decide ((s.excl P (rs.map Rd.votes)).st i=1)) P.n:=zai λi _=>by
   rw[hh];unfold upd;by_cases h:i=x;·subst h;rw[if_pos rfl,x3'];rfl
   ·rw[if_neg h]
  have g2:lst (λi=>decide (s.st1 P i=2)) P.n=lst (λi=>decide ((s.excl P (rs.map Rd.votes)).st i=2)) P.n:=zai λi _=>by
   rw[hh];unfold upd;by_cases h:i=x;·subst h;rw[if_pos rfl,x3'];rfl
   ·rw[if_neg h]
  have g3:lst (upd (λi=>rr (s.keep i)) x (rr 0)) P.n=lst (λi=>rr ((s.excl P (rs.map Rd.votes)).keep i)) P.n:=zai λi _=>by rw[ht];show upd (λi=>rr (s.keep i)) x _ i=rr (upd s.keep x _ i);unfold upd;split<;>rfl
  have g4:(if 1<(s.tied P).length then s.tied P else [])=s.tiedR P:=ti_eq ji;rw[hq,g1,g2,g3,ho];rw[show lst (λi=>decide (upd (s.st1 P) x 3 i=0)) P.n=lst (λi=>decide ((s.excl P (rs.map Rd.votes)).st i=0)) P.n by rw[hh]];have hr:=zhz P s (zaq (s.el1 P) P.n) [(x:Int)] (s.tiedR P);have hB:(((zbh P s (zaq (s.el1 P) P.n)).1,(zbh P s (zaq (s.el1 P) P.n)).2.1,(zbh P s (zaq (s.el1 P) P.n)).2.2.1,(zbh P s (zaq (s.el1 P) P.n)).2.2.2.1,(zbh P s (zaq (s.el1 P) P.n)).2.2.2.2.1,(zbh P s (zaq (s.el1 P) P.n)).2.2.2.2.2.1,[(x:Int)],if 1<(s.tied P).length then s.tied P else(zbh P s (zaq (s.el1 P) P.n)).2.2.2.2.2.2.2):RD)=rdT {s.rd0 P with el:=zaq (s.el1 P) P.n,ex:=[(x:Int)],ti:=s.tiedR P}:=by rw[<-hr,<-g4];rfl
  rw[hB,x1];unfold stG;rw[jk];rfl
def tr_mach{c:CT}{gs:List Grp}(hP:P.OK)(hG:P.G<=1000000)(hc:c.2.2.2.2.2.2.1=P.ties)(hcs:c.2.2.2.1=(P.seats:Int))(hgs:P.gs=gs)(hgk:∀g,g<P.G->(P.gs.getD g ([],0)).2=(P.k g:Int))(ht90:d90 gs=some (P.tot:Int))
  {rs rest:List Rd} (h:Tr P s rs rest):Mach (.inr (.inr (.inl (stG c gs P s rs)))) rest:=by
 induction h with
 | @fin s rs hR hf=>
  rcases d343_eq hP hR.inv hG hR.ok hc hcs hgs hgk ht90 with⟨_,k',e⟩|⟨h1,_⟩|⟨h1,_⟩
  ·refine .last (k':=.inr (.inr (.inl k'))) ?_;show(((d343 _).bind _).bind _).bind _=_;rw[e];rfl
  ·rw[hf]at h1;cases h1
  ·rw[hf]at h1;cases h1
 | @trans s rs rest hR hf hm _ ih=>
  rcases d343_eq hP hR.inv hG hR.ok hc hcs hgs hgk ht90 with⟨h1,_⟩|⟨_,_,e⟩|⟨_,h1,_⟩
  ·rw[hf]at h1;cases h1
  ·refine .next ?_ ih;show(((d343 _).bind _).bind _).bind _=_;rw[e];rfl
  ·rw[hm]at h1;cases h1
 | @excl s rs rest hR hf hm _ ih=>
  rcases d343_eq hP hR.inv hG hR.ok hc hcs hgs hgk ht90 with⟨h1,_⟩|⟨_,h1,_⟩|⟨_,_,e⟩
  ·rw[hf]at h1;cases h1
  ·rw[hm]at h1;cases h1
  ·refine .next ?_ ih;show(((d343 _).bind _).bind _).bind _=_;rw[e];rfl
end
def eL:Nat:=32*64
def eA:Nat:=17*31
def eL_ge{k:Nat}(h:k<=100):2^k<=2^eL:=xdy (by decide) (xay h (by decide))
def frac_nil(D:Nat):zaj 0 D=0:=by unfold zaj;rw[xfv];simp
def sz_of{k e:Nat}(he:e=32*k){q:Rat}(h:Bz e q):Sz k (rr q):=by subst he;exact Bz.sz h
def frac_nonneg(a b:Nat):0<=zaj a b:=by
 by_cases ha:a=0;·rw[ha,frac_nil];exact xhl
 ·by_cases hb:b=0;·rw[hb];unfold zaj;rw[xfv];simp
  ·exact xhz (zyw (by omega) (by omega))
def zig{a b:Nat}(ha:a<2^eL)(hb:b<2^eL):Nm (zaj a b):=by exact⟨frac_nonneg a b,sz_of (k:=64) (e:=eL) rfl (zhj ha hb (by decide))⟩
def zxs{a:Nat}(h:a<2^64):a<2^eL:=xav h (eL_ge (by decide))
def znq{a:Nat}(h:a<2^64):Nm (a:Rat):=by rw[<-zfw];exact zig (zxs h) (zxs (by decide))
def zfe(p:Nat->Bool)(n:Nat):zuq n (zaq p n):=⟨λx hx=>by obtain⟨i,rfl,h,_⟩:=zap.1 hx;omega,zbv p n⟩
def zzl{n x:Nat}(h:x<n):zuq n [(x:Int)]:=⟨λy hy=>by rw[xba.1 hy];omega,xgm _ _⟩
def zfr(n:Nat):zuq n []:=⟨λy hy=>by simp at hy,List.Pairwise.nil⟩
def asc_if{n:Nat}{p:Prop} [Decidable p]{a b:List Int}(ha:zuq n a)(hb:zuq n b):zuq n (if p then a else b):=by split<;>assumption
def zwe{f:Nat->Rat}{n:Nat}(h:∀i,i<n->Nm (f i)):∀q∈lst f n,Nm q:=λq hq=>by obtain⟨i,hi,rfl⟩:=zih.1 hq;exact h i hi
structure GoneOK(n:Nat)(st:Nat->Nat)(l:List Int):Prop where
 nodup:l.Nodup
 hop:∀c∈l,∃i:Nat,c=(i:Int)/\i<n/\st i=0
def GoneOK.app{n:Nat}{st st':Nat->Nat}{a b:List Int}(ha:GoneOK n st a)(hb:GoneOK n st' b)(h:∀i:Nat,i<n->st' i=0->st i=0/\(i:Int)∉a):GoneOK n st (a++b):=by
 refine⟨xdh.2 ⟨ha.nodup,hb.nodup,λx hx y hy e=>?_⟩,λc hc=>?_⟩;·subst e;obtain⟨i,rfl,hi,h0⟩:=hb.hop x hy;exact(h i hi h0).2 hx
 ·rcases xbp.1 hc with hc|hc
  ·exact ha.hop c hc
  ·obtain⟨i,rfl,hi,h0⟩:=hb.hop c hc;exact⟨i,rfl,hi,(h i hi h0).1⟩
def zjm{n:Nat}{st:Nat->Nat}{p:Nat->Bool}(h:∀i,p i=true->st i=0):GoneOK n st (zaq p n):=⟨zfm _ _,λc hc=>by obtain⟨i,rfl,hi,h0⟩:=zap.1 hc;exact⟨i,rfl,hi,h i h0⟩⟩
def zyv{n x:Nat}{st:Nat->Nat}(hx:x<n)(h:st x=0):GoneOK n st [(x:Int)]:=⟨xfb.2 ⟨by simp,xjc⟩,λc hc=>by rw[xba.1 hc];exact⟨x,rfl,hx,h⟩⟩
def gone_nil{n:Nat}{st:Nat->Nat}:GoneOK n st []:=⟨xjc,λc hc=>by simp at hc⟩
section
variable {P:GP} {s:GS}
def D_eL(hP:P.OK)(hI:GI P s){a:Nat}(h:a<=P.tot*s.D):a<2^eL:=by
 have h1:=ziu hP hI;have h2:=e2_c2 (P:=P) (s:=s);have h3:=hP.seats5;have h4:s.c2 P<=5:=by omega
 have h5:2^s.c2 P<=2^5:=xdy (by decide) h4;have h6:s.D<=2^eA:=xay hI.Db (xdy (by decide) (by have:2^s.c2 P<=32:=h5;show 17*(2^s.c2 P-1)<=17*31;omega))
 have h7:P.tot*s.D<=2^17*2^eA:=xcu (xay hP.tot5 (by decide)) h6;rw[<-xez]at h7;have h8:2^(17+eA)<2^eL:=xel (by decide) (by decide);omega
def D_eL0(hP:P.OK)(hI:GI P s):s.D<2^eL:=by
 have h1:=ziu hP hI;have h2:=e2_c2 (P:=P) (s:=s);have h3:=hP.seats5;have h4:s.c2 P<=5:=by omega
 have h5:2^s.c2 P<=2^5:=xdy (by decide) h4;have h6:s.D<=2^eA:=xay hI.Db (xdy (by decide) (by have:2^s.c2 P<=32:=h5;show 17*(2^s.c2 P-1)<=17*31;omega))
 have h8:2^eA<2^eL:=xel (by decide) (by decide);omega
def rdvG(hP:P.OK)(hI:GI P s)(hk:∀i,i<P.n->Nm (s.keep i)){el ex ti:List Int}(h1:zuq P.n el)(h2:zuq P.n ex)(h3:zuq P.n ti)(h4:ex.length<=1):RdV P.n {s.rd0 P with el:=el,ex:=ex,ti:=ti}:=by have hD:=D_eL0 hP hI;have hq:=hP.q5;exact⟨zad _ _,zad _ _,zwe λi hi=>zig (D_eL hP hI (zkk hP hI hi)) hD,zwe hk,znq (xdu hq (by decide)),zig (D_eL hP hI (Nat.sub_le _ _)) hD,zig (D_eL hP hI (sur_le hP hI)) hD,h1,h2,h3,h4⟩
def asc_tiedR:zuq P.n (s.tiedR P):=by unfold GS.tiedR;exact asc_if (zfr _) (zfe _ _)
def Tr.rdv(hP:P.OK){rs rest:List Rd}(h:Tr P s rs rest):(∀i,i<P.n->Nm (s.keep i))->∀r∈rest,RdV P.n r:=by
 induction h with
 | @fin s rs hR hf=>intro hk r hr;rw[xba]at hr;subst hr;exact rdvG hP hR.inv hk (el:=(s.done P).el) (ex:=[]) (ti:=[]) (asc_if (zfe _ _) (zfe _ _)) (zfr _) (zfr _) (by simp)
 | @trans s rs rest hR hf hm h ih=>
  intro hk r hr;have hI:=hR.inv;obtain⟨x,x1,x2,x3,x4⟩:=trans_st hP hI hf hm (rs.map Rd.votes);obtain⟨_,k2,k3⟩:=zko hI x1 x2;rcases xar.1 hr with rfl|hr
  ·exact rdvG hP hI hk (zfe _ _) (zfr _) asc_tiedR (xbx 1)
  ·refine ih (λi hi=>?_) r hr;rw[x4];show Nm (upd s.keep x _ i);unfold upd;split;·exact zig (D_eL hP hI (xay (Nat.sub_le _ _) (zkk hP hI x1))) (D_eL hP hI (zkk hP hI x1))
   ·exact hk i hi
 | @excl s rs rest hR hf hm h ih=>
  intro hk r hr;have hI:=hR.inv;obtain⟨x,x1,x2,x3,x4⟩:=excl_st hP hI hf hm (rs.map Rd.votes);rcases xar.1 hr with rfl|hr
  ·rw[x3];exact rdvG hP hI hk (zfe _ _) (zzl x1) asc_tiedR (xag 1)
  ·refine ih (λi hi=>?_) r hr;rw[x4];show Nm (upd s.keep x 0 i);unfold upd;split;·exact znq (a:=0) (by decide)
   ·exact hk i hi
def Tr.gone(hP:P.OK){rs rest:List Rd}(h:Tr P s rs rest):GoneOK P.n s.st (rest.flatMap zki):=by
 induction h with
 | @fin s rs hR hf=>
  have e:[s.done P].flatMap zki=(s.done P).el:=by show((s.done P).el++[])++[]=_;rw[xbn,xbn]
  rw[e];unfold GS.done;show GoneOK P.n s.st (if _ then _ else _);split
  ·refine zjm λi h=>?_;rcases zct (P:=P) (s:=s) i with⟨h0,h1,_⟩|⟨h0,h2⟩
   ·exact h1
   ·rw[h0,xbz,xak,h2]at h;exact h
  ·exact zjm λi h=>el1_hop h
 | @trans s rs rest hR hf hm h ih=>have hI:=hR.inv;obtain⟨x,x1,x2,x3,x4⟩:=trans_st hP hI hf hm (rs.map Rd.votes);rw[xdb];have e:zki {s.rd0 P with ti:=s.tiedR P}=zaq (s.el1 P) P.n:=xbn _;rw[e];refine GoneOK.app (zjm λi h=>el1_hop h) ih λi hi h0=>?_;rw[x4]at h0;obtain⟨a1,a2⟩:=next_hop (by decide) h0;refine⟨a1,λhm'=>?_⟩;obtain⟨k,e,_,hk⟩:=zap.1 hm';rw[<-xda.1 e,a2]at hk;cases hk
 | @excl s rs rest hR hf hm h ih=>
  have hI:=hR.inv;obtain⟨x,x1,x2,x3,x4⟩:=excl_st hP hI hf hm (rs.map Rd.votes);rw[xdb];have e:zki {s.rd0 P with ti:=s.tiedR P,ex:=[s.pick P (rs.map Rd.votes)]}=zaq (s.el1 P) P.n++[(x:Int)]:=by rw[x3];rfl
  rw[e];have he:s.el1 P x=false:=by
   rcases zct (P:=P) (s:=s) x with⟨h0,_,h2,_⟩|⟨h0,_⟩
   ·rw[x2]at h2;cases h2
   ·exact h0
  have hg:s.st x=0:=by
   rcases zct (P:=P) (s:=s) x with⟨h0,h1,h2,_⟩|⟨h0,h2⟩
   ·exact h1
   ·rw[<-h2];exact x2
  have hd:∀i:Nat,s.el1 P i=false->(i:Int)∉zaq (s.el1 P) P.n:=λi hi hm'=>by obtain⟨k,e,_,hk⟩:=zap.1 hm';rw[<-xda.1 e,hi]at hk;cases hk
  have hA:GoneOK P.n s.st (zaq (s.el1 P) P.n++[(x:Int)]):=by
   refine⟨xdh.2 ⟨zfm _ _,xfb.2 ⟨by simp,xjc⟩,λa ha b hb e=>?_⟩,λc hc=>?_⟩;·rw[xba.1 hb]at e;rw[e]at ha;exact hd x he ha
   ·rcases xbp.1 hc with hc|hc
    ·exact(zjm (n:=P.n) (p:=s.el1 P) (st:=s.st) λi h=>el1_hop h).hop c hc
    ·rw[xba.1 hc];exact⟨x,rfl,x1,hg⟩
  refine GoneOK.app hA ih λi hi h0=>?_;rw[x4]at h0;obtain⟨a1,a2⟩:=next_hop (by decide) h0;refine⟨a1,λhm'=>?_⟩;rcases xbp.1 hm' with hm'|hm'
  ·exact hd i a2 hm'
  ·have:i=x:=xda.1 (xba.1 hm');subst this;have h0:upd (s.st1 P) i 3 i=0:=h0;rw[zce]at h0;cases h0
end
section
variable {Q:MP} {s:MS}
def rdvM(hQ:Q.OK)(hI:MI Q s){el ex ti:List Int}(h1:zuq Q.P.n el)(h2:zuq Q.P.n ex)(h3:zuq Q.P.n ti)(h4:ex.length<=1):RdV Q.P.n {s.rd0 Q with el:=el,ex:=ex,ti:=ti}:=by
 have hd:=hQ.one6;have he:=MS.tot_le hQ;have hc:=MS.sum_le hQ hI;have hb:s.sur Q<=zaz (s.v Q) Q.P.n:=zdp λi _=>by split<;>omega
 have hq:=MS.quo_le hQ hI;have ha:∀a,a<=1000000000000->a<2^eL:=λa h=>zxs (xdu h (by decide));have hD:Q.one<2^eL:=ha _ (by omega);exact⟨zad _ _,zad _ _,zwe λi hi=>zig (ha _ (by have:=MS.v_le hQ hI hi;omega)) hD,zwe λi hi=>zig (ha _ (by have:=hI.kp1 i;omega)) hD,zig (ha _ (by omega)) hD,zig (ha _ (by omega)) hD,zig (ha _ (by omega)) hD,h1,h2,h3,h4⟩
def MTr.rdv(hQ:Q.OK){rs rest:List Rd}(h:MTr Q s rs rest):∀r∈rest,RdV Q.P.n r:=by
 induction h with
 | @fin s rs hR hf=>intro r hr;rw[xba]at hr;subst hr;exact rdvM hQ hR.inv (el:=(s.done Q).el) (ex:=[]) (ti:=[]) (asc_if (zfe _ _) (zfe _ _)) (zfr _) (zfr _) (by simp)
 | @excl s rs rest hR hf hc h ih=>
  intro r hr;rcases xar.1 hr with rfl|hr
  ·obtain⟨x,x1,x2,_⟩:=zht hR.inv (rs.map Rd.votes);unfold MS.exR;rw[x1];exact rdvM hQ hR.inv (zfe _ _) (zzl x2) (asc_if (zfr _) (zfe _ _)) (by simp)
  ·exact ih r hr
 | @redu s rs rest hR hf hc h ih=>
  intro r hr;rcases xar.1 hr with rfl|hr
  ·exact rdvM hQ hR.inv (zfe _ _) (zfr _) (zfr _) (xbx 1)
  ·exact ih r hr
def MTr.gone(hQ:Q.OK){rs rest:List Rd}(h:MTr Q s rs rest):GoneOK Q.P.n s.st (rest.flatMap zki):=by
 induction h with
 | @fin s rs hR hf=>
  have e:[s.done Q].flatMap zki=(s.done Q).el:=by show((s.done Q).el++[])++[]=_;rw[xbn,xbn]
  rw[e];unfold MS.done;show GoneOK Q.P.n s.st (if _ then _ else _);split;·exact zjm λi h=>elM_hop h
  ·refine zjm λi h=>?_;rcases zdo (Q:=Q) (s:=s) i with⟨h0,h1,_⟩|⟨h0,h2⟩
   ·exact h1
   ·rw[h0,xbz,xak,h2]at h;exact h
 | @excl s rs rest hR hf hc h ih=>
  obtain⟨x,x1,x2,x3⟩:=zht hR.inv (rs.map Rd.votes);rw[xdb];have e:zki (s.exR Q (rs.map Rd.votes))=[(x:Int)]:=by show zaq (s.el Q) Q.P.n++[s.pick Q (rs.map Rd.votes)]=_;rw[el_nil (cut_some1 hc),x1];rfl
  rw[e];refine GoneOK.app (zyv x2 x3) ih λi hi h0=>?_;have h0:upd s.st (s.pick Q (rs.map Rd.votes)).toNat 2 i=0:=h0;rw[x1,xam]at h0;by_cases hix:i=x;·subst hix;rw[zce]at h0;cases h0
  ·rw[zfg _ _ hix]at h0;exact⟨h0,λhm=>hix (xda.1 (xba.1 hm))⟩
 | @redu s rs rest hR hf hc h ih=>
  rw[xdb];have e:zki (s.rd0 Q)=zaq (s.el Q) Q.P.n:=xbn _;rw[e];refine GoneOK.app (zjm λi h=>elM_hop h) ih λi hi h0=>?_;have h0:s.st1 Q i=0:=h0;rcases zdo (Q:=Q) (s:=s) i with⟨_,_,h2,_⟩|⟨h1,h2⟩
  ·rw[h2]at h0;cases h0
  ·refine⟨by rw[<-h2];exact h0,λhm=>?_⟩;obtain⟨k,e,_,hk⟩:=zap.1 hm;rw[<-xda.1 e,h1]at hk;cases hk
end
section
variable {P:GP}
def rdvI(hP:P.OK)(st:Nat->Nat){el ex ti:List Int}(h1:zuq P.n el)(h2:zuq P.n ex)(h3:zuq P.n ti)(h4:ex.length<=1):RdV P.n {ird0 P st with el:=el,ex:=ex,ti:=ti}:=by
 have hb:=iv_exh hP st;have hc:=hP.tot5;have ha:∀a,a<=1000000000000->a<2^64:=λa h=>xdu h (by decide);exact⟨zad _ _,zad _ _,zwe λi hi=>znq (ha _ (by have:=iv_tot hP st hi;omega)),zwe λi hi=>by
  show Nm (if st i=0 then 1 else 0);split;·exact znq (a:=1) (by decide)
  ·exact znq (a:=0) (by decide),znq (ha _ (by unfold zlu;omega)),znq (ha _ (by omega)),znq (a:=0) (by decide),h1,h2,h3,h4⟩
def irun_ok(hP:P.OK):∀(k:Nat) {st:Nat->Nat} {rs:List Rd},0<(zcq P st).length->∃rest,zys P k rs st=rs++rest/\(∀r∈rest,RdV P.n r)/\GoneOK P.n st (rest.flatMap zki)
 | 0,st,rs,_=>⟨[],by rw[zys,xbn],by simp,gone_nil⟩
 |k+1,st,rs,hl=>by
  cases hw:iwin P st with
  |some x=>
   have hx:x<P.n/\st x=0:=by
    rcases zpi hP hl with⟨y,h1,h2,h3,_⟩|⟨h3,_⟩
    ·rw[hw]at h3;rw[xbi h3];exact⟨h1,h2⟩
    ·rw[hw]at h3;cases h3
   refine⟨[irdW P st x],by rw[zys,hw],λr hr=>?_,?_⟩;·rw[xba.1 hr];exact rdvI hP st (zzl hx.1) (zfr _) (zfr _) (xbx 1)
   ·exact zyv hx.1 hx.2
  |none=>
   obtain⟨x,x1,x2,x3⟩:=zyt (P:=P) (rs.map Rd.votes) hl;have ha:=zyo x2 x3;have hb:=iwin_two hP hl hw;obtain⟨rest,e,h1,h2⟩:=irun_ok hP k (st:=upd st x 3) (rs:=rs++[irdX P (rs.map Rd.votes) st]) (by omega);refine⟨irdX P (rs.map Rd.votes) st::rest,?_,λr hr=>?_,?_⟩;·rw[zys,hw];show zys _ k _ (upd st (zmr _ _ st).toNat 3)=_;rw[x1,xam,e,xbv];rfl
   ·rcases xar.1 hr with rfl|hr
    ·unfold irdX;rw[x1];exact rdvI hP st (zfr _) (zzl x2) (asc_if (zfr _) (zfe _ _)) (by simp)
    ·exact h1 r hr
   ·rw[xdb];have e:zki (irdX P (rs.map Rd.votes) st)=[(x:Int)]:=by show []++[zmr P (rs.map Rd.votes) st]=_;rw[x1];rfl
    rw[e];refine GoneOK.app (zyv x2 x3) h2 λi hi h0=>?_;by_cases hix:i=x;·subst hix;rw[zce]at h0;cases h0
    ·rw[zfg _ _ hix]at h0;exact⟨h0,λhm=>hix (xda.1 (xba.1 hm))⟩
end
def d39_eq{gs:List Grp}{p:List Int}{k:Int}(hl:gs.length<=1000000)(hp:p.length<=281474976710656)(hk:0<=k/\k<=1000000)(hg:∀g∈gs,g.1.length<=281474976710656/\0<=g.2/\g.2<=1000000):d39 gs p k=some (zmw gs p k):=by
 unfold d39;refine zaa (b:=(p,k,(if zoo gs p then gs else zmw gs p k),!zoo gs p)) (λi=>(gs,p,k,(if zoo (gs.take i) p then gs.take i else zmw (gs.take i) p k),!zoo (gs.take i) p,(i:Int))) gs.length rfl (λi hi=>?_) ?_ ?_
 ·have h1:(i:Int)<(gs.length:Int):=by omega
  have h3:(0:Int)<=(i:Int):=by omega
  have hw:w ((i:Int)+1)=((i+1:Nat):Int):=by rw[zqq (by omega) (by omega)];omega
  have hm:gs.getD i ([],0)∈gs:=by rw[zcj gs _ hi];exact xbf _
  obtain⟨g1,g2,g3⟩:=hg _ hm;have ht:=zgq gs ([],0) hi;have hd:w ((gs.getD i ([],0)).2+k)=(gs.getD i ([],0)).2+k:=zqq (by omega) (by omega);simp only[h1,h3,hw,zbl,xbh,xab,xai,xam];generalize gs.getD i ([],0)=g at *;have he:(gs.take i).length<=1000000:=by simp;omega
  have hf:=zzp (gs.take i) p k;have ha:∀(l:List Grp) (z:Grp),l.length<=1000002->((l.length:Int)+(([z]:List Grp).length:Int)<=LIM):=λl z h=>by rw[zia];simp;omega
  have hb:=addG_app (gs.take i) g p k;have hc:zoo (gs.take i++[g]) p=(zoo (gs.take i) p&&decide (g.1<p)):=by simp[zoo]
  rw[ht,hc,hb];generalize gs.take i=T at *;have e1:∀z,((T.length:Int)+(([z]:List Grp).length:Int)<=LIM):=λz=>ha T z (by omega);have e2:∀z,(((zmw T p k).length:Int)+(([z]:List Grp).length:Int)<=LIM):=λz=>ha _ z (by omega);have e3:∀z z',(((T++[z']).length:Int)+(([z]:List Grp).length:Int)<=LIM):=λz z'=>ha _ z (by simp;omega);simp only[d58_eq g1 hp,d26_eq g1 hp,xaa,hd];cases hT:zoo T p;·simp only[xbb,xcg,e2,xap,xat,xaf,xcn,xbh,xab]
  ·simp only[xat,xap,xab,xbu,if_true];by_cases c:g.1<p;·simp only[c,e1,xbh,xat,xaf,xab,if_true]
   ·by_cases c2:g.1=p;·subst c2;simp only[c,e1,xbh,xdc,xap,xab,zmw,if_true,xcg];simp
    ·simp only[c,c2,e1,e3,xbh,xdc,xap,xab,xaf,zmw,xcg];simp
 ·have h1:¬((gs.length:Int)<(gs.length:Int)):=by omega
  simp only[h1,xdc,xaf,xaz]
 ·cases hT:zoo gs p;·simp[zbl]
  ·have ha:((gs.length:Int)+(([(p,k)]:List Grp).length:Int)<=LIM):=by rw[zia];simp;omega
   simp only[xat,xap,xab,zbl,if_true,ha,xbh,addG_all k hT]
def PileOK.d39{n:Int}{gs:List Grp}{N:Int}(h:PileOK n gs N)(hn:n<=7){p:List Int}(hp:isB n p):d39 gs p 1=some (zmw gs p 1):=by have h1:=zye h.ballots;have h2:=h.total;have h3:=h.most;refine d39_eq (by omega) (by have:=zjk hp hn;omega) (by omega) λg hg=>?_;have h4:=zyf h.ballots g hg;have h5:=h.ballots g hg;have:=zjk h5.1 hn;omega
def d51_eq{n:Int}(h1:1<=n)(hn:n<=7){bs:List (List Int)}(hb:∀b∈bs,isB n b)(hl:bs.length<=100000):d51 n bs=some (zdk bs,0):=by
 unfold d51 zbl;have c1:¬n<1:=by omega
 have c2:¬7<n:=by omega
 have c3:¬(100000:Int)<(bs.length:Int):=by omega
 simp only[c1,c2,c3,xdc,xap,xab,xaf];refine zaa (b:=.inl (zdk bs)) (λi=>(n,bs,zdk (bs.take i),(i:Int))) bs.length rfl (λi hi=>?_) ?_ rfl
 ·have h2:(i:Int)<(bs.length:Int):=by omega
  have h3:(0:Int)<=(i:Int):=by omega
  have hc:w ((i:Int)+1)=((i+1:Nat):Int):=by rw[zqq (by omega) (by omega)];omega
  have hm:=hb (bs.getD i []) (by rw[zcj bs [] hi];exact xbf _);have he:=zjk hm hn;have ht:=zgq bs [] hi;have hp:=(zsp (bs.take i) (λb h=>hb b (xca h)) (by simp;omega)).1;simp only[h2,h3,hc,xbh,xab,xai,xam,ht,zmn];obtain⟨x,hd⟩:∃x,bs.getD i []=x:=⟨_,rfl⟩;simp only[hd]at hm he ⊢;have ha:(([]:List Int).length:Int)+(x.length:Int)<=LIM:=by rw[zia];simp;omega
  rw[d41_eq n (by omega),hp.d39 hn hm];simp only[hm,ha,xbh,xab,xat,xaf,xaa]
 ·have h1:¬((bs.length:Int)<(bs.length:Int)):=by omega
  simp only[h1,xdc,xaf,xaz]
def d61_eq{n:Int}(h1:1<=n)(hn:n<=7){l:List (List Int)}(hl:l.length<=281474976710656)(hw:∀x∈l,WT (.slice (.int .i64)) x){most:Nat}(hm:most<=100):d61 n l (most:Int)=some (zdk (bals n l most)):=by have ha:=bals_len (n:=n) (l:=l) (most:=most);unfold d61;rw[d60_eq (by omega) hn hl hw hm];simp only[xaa];rw[d51_eq h1 hn (bals_isB (by omega)) (by omega)];rfl
def zup(c:CT)(gs:List Grp)(lots:List Int):List Rd:=if c.2.2.1=1 then zfb (zbc c gs lots)else if c.2.2.1=2 then zmg (mqOf c gs lots)else zkz (zbc c gs lots)
def trR(c:CT)(gs:List Grp)(lots:List Int):TP:=(c.2.2.1,c.2.2.2.1,c.2.2.2.2.2.1,(c.2.1.length:Int),(zup c gs lots).map rdT,(zup c gs lots).flatMap Rd.el)
structure CntOK(n:Nat)(rs:List Rd):Prop where
 sm:∀r∈rs,r.Sm
 v:∀r∈rs,RdV n r
 gone:(rs.flatMap zki).Nodup
 len:rs.length<=600
 ne:rs≠ []
def zsw(P:GP)(h:1<=P.n):(zcq P λ_=>0).length=P.n:=by unfold zcq zcy;rw[xgn.2 (by simp),List.length_range]
def Tr.short{P:GP}(hP:P.OK){s:GS}{rs rest:List Rd}(h:Tr P s rs rest):rest.length<=s.meas P+1:=by
 induction h with
 |fin _ _=>simp
 | @trans s rs rest hR hf hm _ ih=>
  have:=zll hP hR.inv hf hm (rs.map Rd.votes);rw[xbd];omega
 | @excl s rs rest hR hf hm _ ih=>
  have:=zoh hP hR.inv hf hm (rs.map Rd.votes);rw[xbd];omega
def ztb{c:CT}{gs:List Grp}{lots:List Int}(h:zlc c.2.2.1 c gs lots=0):c.2.2.1=1\/c.2.2.1=2\/c.2.2.1=3:=by have:=zdy h;omega
def zuc{c:CT}{gs:List Grp}{lots:List Int}(h:zlc c.2.2.1 c gs lots=0):CntOK c.2.1.length (zup c gs lots):=by
 unfold zup;rcases ztb h with e|e|e
 ·rw[e]at h;have hP:=(zjl h).1;have hs:=icount_sm hP;rw[if_pos e];obtain⟨rest,e1,h1,h2⟩:=irun_ok hP (zbc c gs lots).n (st:=λ_=>0) (rs:=[]) (by rw[zsw _ hP.n1];exact hP.n1);have e2:zfb (zbc c gs lots)=rest:=by unfold zfb;rw[e1,xdp]
  refine⟨hs.1,?_,?_,by have:=hs.2.1;omega,icount_ne hP⟩;·rw[e2];exact h1
  ·rw[e2];exact h2.nodup
 ·rw[e]at h;have hQ:=zyj h;rw[if_neg (by omega),if_pos e];have ht:=zku hQ.ok;exact⟨mcount_sm hQ.ok,ht.rdv hQ.ok,(ht.gone hQ.ok).nodup,by have:=mcount_len hQ.ok;omega,mcount_ne hQ.ok⟩
 ·rw[e]at h;have hP:=(zjl h).1;rw[if_neg (by omega),if_neg (by omega)];have ht:=znx hP;have hl:=gcount_len hP;refine⟨gcount_sm hP,ht.rdv hP λi _=>znq (a:=1) (by decide),(ht.gone hP).nodup,?_,gcount_ne hP⟩;have h1:=ht.short hP;have h2:=meas_le (P:=zbc c gs lots) g0;have hn:=hP.n7;omega
def zrl{c:CT}{gs:List Grp}{lots:List Int}(h:zlc c.2.2.1 c gs lots=0)(hg:GsOK gs)(hl:lots.length<=281474976710656):d44 c gs lots=some (trR c gs lots,0):=by
 have hz:=zdy h;unfold d44 trR zup;rcases ztb h with e|e|e
 ·have h':=h;rw[e]at h';have z1:c.2.2.2.1=1:=hz.2.2.2.2.2.2.2.1 e;have z2:c.2.2.2.2.2.1=0:=hz.2.2.2.2.2.2.2.2.2.1 (by omega);rw[xah (by omega),xaf,xah (by omega),xaf,d48_eq hg hl,if_pos h',if_pos e,e,z1,z2];rfl
 ·have h':=h;rw[e]at h';have hQ:=zyj h';rw[xae e,xab,d49_eq hg hl,if_pos h',if_neg (by omega),if_pos e,e];show some (trM c (mqOf c gs lots),(0:Int))=_;unfold trM;rw[<-hQ.seats,<-hQ.n]
 ·have h':=h;rw[e]at h';have z2:c.2.2.2.2.2.1=0:=hz.2.2.2.2.2.2.2.2.2.1 (by omega);have ha:=(zyu h').2.2.1;rw[xah (by omega),xaf,xae e,xab,d50_eq hg hl,if_pos h',if_neg (by omega),if_neg (by omega),e,z2];show some (trT (zbc c gs lots),(0:Int))=_;unfold trT;rw[<-ha];rfl
def d137_eq{c:CT}(gs:List Grp)(lots:List Int)(hn:c.2.1.length<=1000):d137 c gs lots=some (c,gs,lots,lst (λ_=>true) c.2.1.length,lst (λ_=>false) c.2.1.length,0,[]):=by
 unfold d137 d201;rw[show(bif decide (([true]:List Bool).length=1)&&(decide (0<=(c.2.1.length:Int))&&decide ((c.2.1.length:Int)<=1000))then some (List.replicate (c.2.1.length:Int).toNat (([true]:List Bool).getD 0 false))else none)=some (List.replicate c.2.1.length true) by rw[xae (show([true]:List Bool).length=1 from rfl),zdt ((0:Int)<=(c.2.1.length:Int)),zdt ((c.2.1.length:Int)<=1000)];rfl]
 rw[xaa,xae rfl,zbp,zcg (show c.2.1.length<=4294967296 by omega)];simp only[xai,xab,xam,zii]
def rep_val{α:Type}(x:α)(n:Nat):lst (λ_=>x) n=List.replicate n x:=(zii x n).symm
def start_ok{c:CT}{gs:List Grp}{lots:List Int}(h:zlc c.2.2.1 c gs lots=0)(h12:gs.length<=12):∃k,d68 c gs lots=some k/\Mach k (zup c gs lots):=by
 have hz:=zdy h;have hw:c.2.1.length<=7:=hz.2.2.2.2.1;unfold d68 zup;rw[d137_eq gs lots (by omega),xaa];rcases ztb h with e|e|e
 ·rw[e]at h;have hP:=(zjl h).1;rw[xae e,xab,if_pos e];refine⟨_,rfl,?_⟩;obtain⟨rest,e1,hm⟩:=irun_mach h h12 (zbc c gs lots).n (st:=λ_=>0) (rs:=[]) (by simp) (by have:=hP.n7;simp;omega) (by rw[zsw _ hP.n1];exact hP.n1) (by rw[zsw _ hP.n1];exact xag _);have e2:zfb (zbc c gs lots)=rest:=by unfold zfb;rw[e1,xdp]
  rw[e2];exact hm
 ·rw[e]at h;have hQ:=zyj h;rw[xah (by omega),xaf,xae e,xab,if_neg (by omega),if_pos e];have hs:=hQ.d6;have hf:c.2.2.2.2.2.1=((c.2.2.2.2.2.1.toNat:Nat):Int):=hQ.dig;rw[show d138 c.2.2.2.2.2.1=some ((10^c.2.2.2.2.2.1.toNat:Nat):Int) by rw[hf];exact d138_eq hs,xaa];have hk:d88 [((10^c.2.2.2.2.2.1.toNat:Nat):Int)] (c.2.1.length:Int)=some (lst (λ_=>((10^c.2.2.2.2.2.1.toNat:Nat):Int)) c.2.1.length):=by unfold d88;rw[zdt ((c.2.1.length:Int)<=1000),zbp,rep_val];rfl
  rw[hk,xaa];refine⟨_,rfl,?_⟩;have hm:=mtr_mach hQ (zku hQ.ok) (su:=0) (λb hb=>by cases hb);have ht:(mqOf c gs lots).s0.fl (mqOf c gs lots)=0:=by
   have:zbu (λ_=>false) (mqOf c gs lots).P.n=0:=xff λh=>by obtain⟨i,_,h2⟩:=zjv.1 h;cases h2
   exact this
  unfold stMr at hm;rw[ht]at hm;exact hm
 ·have h':=h;rw[e]at h';obtain⟨hP,hG,he,hp,hl,hv⟩:=zyu h';have ha:=hz.2.2.2.2.2.2.2.2.2.2.2.2.1;obtain⟨_,hq⟩:=pile_k ha c lots;have hx:=hP.q5;have hy:=hP.seats5;rw[xah (by omega),xaf,xah (by omega),xaf,if_neg (by omega),if_neg (by omega),hl,xaa,he];have hn:w (((zbc c gs lots).seats:Int)+1)=(((zbc c gs lots).seats+1:Nat):Int):=zmh (by omega);have hc:=zgo ha.ballots (f:=zat) (λp=>by unfold zat;split<;>omega);have hr:=ha.most;have hu:w (w (Int.tdiv (zbi zat gs) (((zbc c gs lots).seats+1:Nat):Int))+1)=((zbc c gs lots).q:Int):=by
   have h1:Int.tdiv (zbi zat gs) (((zbc c gs lots).seats+1:Nat):Int)=zbi zat gs/(c.2.2.2.1+1):=by rw[xdt hc.1,he];rfl
   have h2:0<=zbi zat gs/(c.2.2.2.1+1):=Int.ediv_nonneg hc.1 (by omega);have h3:zbi zat gs/(c.2.2.2.1+1)<=zbi zat gs:=Int.ediv_le_self _ hc.1;rw[h1];show _=(((zbi zat gs/(c.2.2.2.1+1)+1).toNat:Nat):Int);generalize zbi zat gs/(c.2.2.2.1+1)=z at h2 h3 ⊢;rw[zbq (n:=z) (by omega) (by omega),zbq (by omega) (by omega)];omega
  have d1:d93 1=some (rr 1):=zcm (n:=1) (by omega);simp only[hn,zdf ((((zbc c gs lots).seats+1:Nat):Int)=0),xap,xab,hu,xbh,zbp,zcg (show c.2.1.length<=4294967296 by omega),xai,xam,zii,d1,xaa];obtain⟨A,hA⟩:∃A:ST,((c,gs,lots,lst (λ_=>true) c.2.1.length,lst (λ_=>false) c.2.1.length,0,[]):ST)=A:=⟨_,rfl⟩;obtain⟨f0,hh⟩:∃f0:List Bool,lst (λ_=>false) c.2.1.length=f0:=⟨_,rfl⟩;have hd:∃k:TS,k=(A,((zbc c gs lots).q:Int),f0,f0,lst (λ_=>rr 1) c.2.1.length,gs.map (λg=>g.1),gs.map λ_=>rr 1):=⟨_,rfl⟩;obtain⟨k0,hg⟩:=hd;refine⟨.inr (.inr (.inl k0)),?_,?_⟩
  ·rw[hA];simp only[hh];refine zaa (λi=>(gs,(A,((zbc c gs lots).q:Int),f0,f0,lst (λ_=>rr 1) i,[],[]),(c.2.1.length:Int),(i:Int))) c.2.1.length rfl (λi hi=>?_) (b:=(gs,(A,((zbc c gs lots).q:Int),f0,f0,lst (λ_=>rr 1) c.2.1.length,[],[]))) ?_ ?_;·simp only[dlt hi,xab,zad,wsx i];rw[zkw (show i+1<=4294967296 by omega),xab,zcz]
   ·simp only[nlt (xag c.2.1.length),xaf]
   ·simp only[];refine zaa (λi=>((A,((zbc c gs lots).q:Int),f0,f0,lst (λ_=>rr 1) c.2.1.length,(gs.take i).map (λg=>g.1),(gs.take i).map λ_=>rr 1),gs,(gs.length:Int),(i:Int))) gs.length rfl (λi hi=>?_) (b:=(A,((zbc c gs lots).q:Int),f0,f0,lst (λ_=>rr 1) c.2.1.length,gs.map (λg=>g.1),gs.map λ_=>rr 1)) ?_ ?_
    ·have ho:gs.take (i+1)=gs.take i++[gs.getD i ([],0)]:=zgq gs ([],0) hi;have hj:(gs.take i).length=i:=by rw[xax];omega
     simp only[dlt hi,zbp,xai,xab,tn,xao,hj,ho,xcc,xdo,xfa,wsx i];rw[zkw (show i+1<=4294967296 by omega),xab,zkw (show i+1<=4294967296 by omega),xab]
    ·simp only[nlt (xag gs.length),xaf,xaz]
    ·rw[hg]
  ·have hm:=tr_mach (c:=c) (gs:=gs) hP hG rfl he rfl hq hp (znx hP);have e1:k0=stG c gs (zbc c gs lots) g0 []:=by
    rw[hg,<-hA,<-hh];unfold stG;have c1:zbu (λi=>decide (g0.st i=1)) (zbc c gs lots).n=0:=xff λh=>by obtain⟨i,_,h2⟩:=zjv.1 h;cases h2
    have c2:zbu (λi=>decide (g0.st i=2)) (zbc c gs lots).n=0:=xff λh=>by obtain⟨i,_,h2⟩:=zjv.1 h;cases h2
    have c3:gs.map (λg=>g.1)=lst (rst (zbc c gs lots) g0) (zbc c gs lots).G:=by
     have:∀g,rst (zbc c gs lots) g0 g=(gs.getD g ([],0)).1:=λg=>rfl;rw[show rst (zbc c gs lots) g0=λg=>(gs.getD g ([],0)).1 from funext this];show _=lst _ gs.length;conv=>lhs;rw[<-znu gs ([],0)]
     rw[zgj]
    have c4:gs.map (λ_=>rr 1)=lst (wgt g0) (zbc c gs lots).G:=by
     have:∀g,wgt g0 g=rr 1:=λg=>by show rr (zaj 1 1)=rr 1;rw[zfw];rfl
     rw[show wgt g0=λ_=>rr 1 from funext this];show _=lst _ gs.length;conv=>lhs;rw[<-znu gs ([],0)]
     rw[zgj]
    rw[c1,c2,c3,c4];rfl
   rw[e1];exact hm
def zro{c:CT}{gs:List Grp}{lots:List Int}(h:zlc c.2.2.1 c gs lots=0)(h12:gs.length<=12)(hg:GsOK gs)(hl:lots.length<=281474976710656){ts:List Rd}(ht:CntOK c.2.1.length ts) :
  d34 c gs lots (c.2.2.1,c.2.2.2.1,c.2.2.2.2.2.1,(c.2.1.length:Int),ts.map rdT,ts.flatMap Rd.el)=some (chkR ts.length (zup c gs lots) ts 0):=by
 have hz:=zdy h;obtain⟨k,hk,hm⟩:=start_ok h h12;have ha:=ht.len;have hb:0<=c.2.2.2.2.2.1/\c.2.2.2.2.2.1<=6:=by
  by_cases e:c.2.2.1=2;·have:=hz.2.2.2.2.2.2.2.2.1 e;omega
  ·have:=hz.2.2.2.2.2.2.2.2.2.1 e;omega
 refine d34_eq hg hl h (d67_eq ⟨by omega,by omega⟩ ⟨hz.2.2.2.2.2.1,hz.2.2.2.2.2.2.1⟩ hb ⟨hz.2.2.2.1,hz.2.2.2.2.1⟩ ⟨xcr.2 ht.ne,ha⟩ ht.v ht.gone) rfl rfl rfl rfl ht.sm (by omega) hk hm (zuc h).sm
def el_bound{n:Nat}{rs:List Rd}(h:CntOK n rs)(hn:n<=7):(rs.flatMap Rd.el).length<=281474976710656:=by have:=zms hn h.v;have:=h.len;omega
def equal_eq{c:CT}{gs gs':List Grp}{lots lots':List Int}(h:zlc c.2.2.1 c gs lots=0)(h':zlc c.2.2.1 c gs' lots'=0):d22 (trR c gs lots) (trR c gs' lots')=some (decide (zup c gs lots=zup c gs' lots')):=by
 have k:=zuc h;have k':=zuc h';have hn:c.2.1.length<=7:=(zdy h).2.2.2.2.1;unfold trR;rw[d22_gen ⟨rfl,rfl,rfl,rfl⟩ k.sm k'.sm (by have:=k.len;omega) (el_bound k hn) (el_bound k' hn)];by_cases e:zup c gs lots=zup c gs' lots';·rw[xae e,e,xae rfl];rfl
 ·rw[xah e];rfl
def pileOf_len(bs:List (List Int)):(zdk bs).length<=bs.length:=by
 have key:∀k,k<=bs.length->(zdk (bs.take k)).length<=k:=by
  intro k;induction k with
  |zero=>intro _;simp[zdk]
  |succ k ih=>intro hk;rw[zgq bs [] (by omega),zmn];have h1:=zzp (zdk (bs.take k)) (bs.getD k []) 1;have h2:=ih (by omega);omega
 have:=key bs.length (xag _);rwa[xaz]at this
def clip(b:List (List Int)):List (List Int):=(b.take 12).map λx=>x.take 8
def clip_wt{b:List (List Int)}(h:∀x∈b,WT (.slice (.int .i64)) x):∀x∈clip b,WT (.slice (.int .i64)) x:=λx hx=>by obtain⟨y,hy,rfl⟩:=xdx.1 hx;exact wt_part (h y (xca hy)) 8
structure MadeOK(c:CT)(n:Nat)(lots:List Int):Prop where
 con:ConOK c n c.2.2.1
 m1:1<=c.2.2.1
 m3:c.2.2.1<=3
 n1:1<=n
 n7:n<=7
 len:lots.length=n
 lots:isB (n:Int) lots
def d31_eq{a1 a2 a3 a4 a5 a6:Int}{rest:Int×(Int×(Int×Int))}(h1:WT (.int .i64) a1)(h2:WT (.int .i64) a2)(h3:WT (.int .i64) a3)(h4:WT (.int .i64) a4)(h5:WT (.int .i64) a5)(h6:WT (.int .i64) a6) :
  ∃c n lots,MadeOK c n lots/\∀(bl:List (List Int)),bl.length<=281474976710656->(∀x∈bl,WT (.slice (.int .i64)) x)->d31 (a1,a2,a3,a4,a5,a6,bl,rest)=some (c,zdk (bals (n:Int) (clip bl) 12),lots):=by
 have b1:=zip a1 (n:=7) (by omega);have b2:=zip a4 (n:=3) (by omega);obtain⟨n,hn⟩:∃n:Nat,1+a1%7=(n:Int):=⟨(1+a1%7).toNat,by omega⟩;have hc:w (1+a1%7)=(n:Int):=by rw[zbq (by omega) (by omega),hn]
 obtain⟨c,c1,c2,c3,c4⟩:=d17_eq (n:=n) (by omega) h2 h3 (show WT (.int .i64) (a4%3)from zbq (by omega) (by omega)) h5;obtain⟨lots,l1,l2,l3⟩:=d18_eq (n:=n) (by omega) h6;have b3:=zip a2 (n:=3) (by omega);have hm:=c2.method;refine⟨c,n,lots,⟨by rw[hm];exact c2,by omega,by omega,by omega,by omega,l2,l3⟩,λbl hbl hbw=>?_⟩;unfold d31;simp only[zqm h1 (show(0:Int)<7 by omega) (by omega),zqm h4 (show(0:Int)<3 by omega) (by omega),xaa,hc,c1];refine zaa (λi=>((a1,a2,a3,a4,a5,a6,bl,rest),([],[],0,0,0,0,0,0,0),(n:Int),c,(bl.take i).map (λx=>x.take 8),(i:Int))) (min bl.length 12) rfl (λi hi=>?_) (b:=((a1,a2,a3,a4,a5,a6,bl,rest),([],[],0,0,0,0,0,0,0),(n:Int),c,clip bl)) ?_ ?_
 ·have ha:i<bl.length:=by omega
  have hx:=hbw _ (zba (d:=([]:List Int)) ha);have hd:=wt_len hx;have he:bl.take (i+1)=bl.take i++[bl.getD i []]:=zgq bl [] ha;have hb:(bl.take i).length=i:=by rw[xax];omega
  simp only[zal,dlt ha,zdt ((i:Int)<12),xab,zbp,xai,tn,he,xcc,xdo,xfa,wsx i];obtain⟨x,ex⟩:∃x,bl.getD i []=x:=⟨_,rfl⟩;simp only[ex]at hx hd ⊢;have hk:∃k:Nat,(bif decide (8<(x.length:Int))then 8 else(x.length:Int))=(k:Int)/\k<=x.length/\x.take k=x.take 8:=by
   by_cases h8:8<x.length;·exact⟨8,by rw[zdt ((8:Int)<(x.length:Int))];rfl,by omega,rfl⟩
   ·exact⟨x.length,by rw[zdf ((8:Int)<(x.length:Int))];rfl,xag _,by rw[xaz,xbg (by omega)]⟩
  obtain⟨k,k1,k2,k3⟩:=hk;simp only[k1,zlx k2,xab,tn,xhi,k3,xao,hb];rw[zkw (show i+1<=4294967296 by omega),xab]
 ·simp only[zal];by_cases h12:12<=bl.length
  ·rw[Nat.min_eq_right h12];by_cases h13:12<bl.length;·rw[dlt h13,xab,zdf (((12:Nat):Int)<12),xaf];rfl
   ·rw[nlt (by omega),xaf,xaf];rfl
  ·rw[xfm (by omega),nlt (xag _),xaf,xaf];unfold clip;rw[xaz,xbg (by omega)]
 ·show(d61 (n:Int) (clip bl) ((12:Nat):Int)).bind _=_;rw[d61_eq (n:=(n:Int)) (by omega) (by omega) (by unfold clip;rw[xao,xax];omega) (clip_wt hbw) (by omega),xaa,l1];rfl
def znt{c:CT}{n:Nat}{lots:List Int}(h:MadeOK c n lots)(bl:List (List Int)):zlc c.2.2.1 c (zdk (bals (n:Int) bl 12)) lots=0/\(zdk (bals (n:Int) bl 12)).length<=12/\GsOK (zdk (bals (n:Int) bl 12)):=by have h1:=h.n1;have ha:=@bals_len (n:Int) bl 12;have hb:=zsp (n:=(n:Int)) (bals (n:Int) bl 12) (bals_isB (n:=(n:Int)) (by omega) (l:=bl) (most:=12)) (by omega);exact⟨ztc h.con h.m1 h.m3 h.n1 h.n7 hb.1 h.len h.lots,xay (pileOf_len _) ha,gs_of h.n7 hb.1⟩
def awR:GP:={gs:=[([0,1],2),([1],2),([2,1],1)],n:=3,seats:=1,q:=3,tot:=5,ties:=1,lots:=[0,1,2]}
def awR_pile:zdk [[0,1],[0,1],[1],[1],[2,1]]=[([0,1],2),([1],2),([2,1],1)]:=by decide +kernel
def awR_count:(zfb awR).map (λr=>r.el)=[[],[1]]:=by decide +kernel
def awR_gp{c:CT}(h1:c.2.1.length=3)(h2:c.2.2.2.1=1)(h3:c.2.2.2.2.2.2.1=1):zbc c [([0,1],2),([1],2),([2,1],1)] [0,1,2]=awR:=by
 unfold zbc awR;rw[h1,h2,h3];have e1:(zbi zat [([0,1],2),([1],2),([2,1],1)]/(1+1)+1).toNat=3:=by decide +kernel
 have e2:(zbi (λ_=>1) [([0,1],2),([1],2),([2,1],1)]).toNat=5:=by decide +kernel
 rw[e1,e2];rfl
def d36_eq:d36=some true:=by
 have k0:WT (.int .i64) 0:=zbq (by omega) (by omega);obtain⟨c,c1,c2,c3,c4⟩:=d17_eq (n:=3) (by omega) k0 k0 k0 k0;have c1':d17 0 3 0 0 0=some c:=c1;have hn:∀b∈[[0,1],[0,1],[1],[1],[2,1]],isB ((3:Nat):Int) b:=by decide
 have ho:=zsp (n:=((3:Nat):Int)) [[0,1],[0,1],[1],[1],[2,1]] hn (by decide);have hm:d51 3 [[0,1],[0,1],[1],[1],[2,1]]=some (zdk [[0,1],[0,1],[1],[1],[2,1]],0):=d51_eq (n:=3) (by decide) (by decide) hn (by decide);have hp:c.2.2.1=1:=c2.method;have hf:zlc 1 c _ _=0:=ztc (lots:=[0,1,2]) c2 (by decide) (by decide) (by omega) (by omega) ho.1 rfl (by decide);have hg:=gs_of (n:=3) (by omega) ho.1;rw[awR_pile]at hm hf hg;have ha:zlc c.2.2.1 c [([0,1],2),([1],2),([2,1],1)] [0,1,2]=0:=by rw[hp];exact hf
 have hb:zup c [([0,1],2),([1],2),([2,1],1)] [0,1,2]=zfb awR:=by unfold zup;rw[if_pos hp,awR_gp c2.names (by rw[c3];decide) (by rw[c4];decide)]
 have hd:=zuc ha;have hc:=zrl ha hg (by decide);unfold d44 at hc;rw[xah (by omega),xaf,xah (by omega),xaf]at hc;have hk:d48 c [([0,1],2),([1],2),([2,1],1)] [0,1,2]=some (trR c [([0,1],2),([1],2),([2,1],1)] [0,1,2],0):=by
  cases hh:d48 c [([0,1],2),([1],2),([2,1],1)] [0,1,2]with
  |none=>rw[hh]at hc;cases hc
  |some p=>rw[hh]at hc;exact hc
 have hl:(zfb awR).length=2:=by have:=xbr List.length awR_count;rwa[xao]at this
 obtain⟨r1,r2,he⟩:∃r1 r2,zfb awR=[r1,r2]:=by
  match h:zfb awR,hl with
  | [a,b],_=>exact⟨a,b,rfl⟩
 have hi:r1.el=[]:=by have:=awR_count;rw[he]at this;simp at this;exact this.1
 rw[hb,he]at hd;have hj:CntOK c.2.1.length [r1]:=⟨λr hr=>hd.sm r (by simp at hr;simp[hr]),λr hr=>hd.v r (by simp at hr;simp[hr]),by have:=hd.gone;rw[xdb]at this;rw[xdb,xhj,xbn];exact(xdh.1 this).1,by simp,by simp⟩
 have k1:=zro ha (by decide) hg (by decide) (ts:=[r1,r2]) hd;have k2:=zro ha (by decide) hg (by decide) (ts:=[r1]) hj;rw[hb,he,zug (by simp)]at k1;have e2:chkR [r1].length [r1,r2] [r1] 0=(((1:Nat):Int),14):=by unfold chkR;rw[if_pos rfl,if_neg (by simp)];rfl
 rw[hb,he,e2]at k2;unfold d36;simp only[hm,xaa,c1',hk,zal];have et:trR c [([0,1],2),([1],2),([2,1],1)] [0,1,2]=(c.2.2.1,c.2.2.2.1,c.2.2.2.2.2.1,(c.2.1.length:Int),[r1,r2].map rdT,[r1,r2].flatMap Rd.el):=by unfold trR;rw[hb,he]
 have ef:[r1].flatMap Rd.el=[]:=by rw[xdb,xhj,hi];rfl
 rw[ef]at k2;rw[et];simp only[xbh,xat,xap,xab,xao,xbd,xee];rw[k1];have ecut:List.drop 0 (List.take 1 ([r1,r2].map rdT))=[r1].map rdT:=rfl;rw[ecut,k2];rfl
def d11_true{a1 a2 a3 a4 a5 a6:Int}{bl:List (List Int)}{rest:Int×(Int×(Int×Int))}(h1:WT (.int .i64) a1)(h2:WT (.int .i64) a2)(h3:WT (.int .i64) a3)(h4:WT (.int .i64) a4)(h5:WT (.int .i64) a5)(h6:WT (.int .i64) a6)(hl:bl.length<=281474976710656)(hw:∀x∈bl,WT (.slice (.int .i64)) x):d11 (a1,a2,a3,a4,a5,a6,bl,rest)=some true:=by
 obtain⟨c,n,lots,hm,hd⟩:=d31_eq (rest:=rest) h1 h2 h3 h4 h5 h6;obtain⟨f1,f2,f3⟩:=znt hm (clip bl);have hb:lots.length<=281474976710656:=by have:=hm.len;have:=hm.n7;omega
 have ha:=zuc f1;have hc:=zro f1 f2 f3 hb ha;rw[zug ha.ne]at hc;have he:=xcr.2 ha.ne;unfold d11;rw[hd bl hl hw,xaa,zrl f1 f3 hb,xaa];have ht:trR c (zdk (bals (n:Int) (clip bl) 12)) lots=(c.2.2.1,c.2.2.2.1,c.2.2.2.2.2.1,(c.2.1.length:Int),(zup c (zdk (bals (n:Int) (clip bl) 12)) lots).map rdT,(zup c (zdk (bals (n:Int) (clip bl) 12)) lots).flatMap Rd.el):=rfl;rw[ht,hc,xaa,d36_eq];simp only[xaa,xab,xbh,xao];rw[xae (show(0:Int)<((zup c (zdk (bals (n:Int) (clip bl) 12)) lots).length:Int) by omega)]
def zwd{c:CT}{gs gs':List Grp}{lots lots':List Int}(h:zlc c.2.2.1 c gs lots=0)(h':zlc c.2.2.1 c gs' lots'=0)(h12:gs'.length<=12)(hg:GsOK gs)(hg':GsOK gs')(hl:lots.length<=281474976710656)(hl':lots'.length<=281474976710656) :
  ∃z,d44 c gs lots=some (trR c gs lots,0)/\d44 c gs' lots'=some (trR c gs' lots',0)/\d34 c gs' lots' (trR c gs lots)=some z/\∃b,d22 (trR c gs lots) (trR c gs' lots')=some b/\(decide (z.2=0) == b)=true:=by
 have hb:=zuc h;have ha:=zuc h';refine⟨_,zrl h hg hl,zrl h' hg' hl',zro h' h12 hg' hl' hb,_,equal_eq h h',?_⟩;have hz:=chkR_zero (len:=(zup c gs lots).length) (rest:=zup c gs' lots') (ts:=zup c gs lots) (i:=0) ha.ne;by_cases e:zup c gs lots=zup c gs' lots';·rw[xae e,xae (hz.2 e.symm)];rfl
 ·rw[xah e,xah (λh=>e (hz.1 h).symm)];rfl
def d12_true{a1 a2 a3 a4 a5 a6:Int}{bl p1:List (List Int)}{rest:Int×(Int×(Int×Int))}(h1:WT (.int .i64) a1)(h2:WT (.int .i64) a2)(h3:WT (.int .i64) a3)(h4:WT (.int .i64) a4)(h5:WT (.int .i64) a5)(h6:WT (.int .i64) a6)(hl:bl.length<=281474976710656)(hw:∀x∈bl,WT (.slice (.int .i64)) x)(hl':p1.length<=281474976710656)(hw':∀x∈p1,WT (.slice (.int .i64)) x):d12 (a1,a2,a3,a4,a5,a6,bl,rest) p1=some true:=by
 obtain⟨c,n,lots,hm,hd⟩:=d31_eq (rest:=rest) h1 h2 h3 h4 h5 h6;obtain⟨f1,f2,f3⟩:=znt hm (clip bl);obtain⟨g1,g2,g3⟩:=znt hm (clip p1);have ha:lots.length<=281474976710656:=by have:=hm.len;have:=hm.n7;omega
 obtain⟨z,e1,e2,e3,b,e4,e5⟩:=zwd f1 g1 g2 f3 g3 ha ha;unfold d12;simp only[hd bl hl hw,hd p1 hl' hw',xaa,e1,e2,e3,d36_eq,xab,xbh,e4,e5]
def d13_true{a1 a2 a3 a4 a5 a6 code:Int}{bl:List (List Int)}{rest:Int×(Int×(Int×Int))}(h1:WT (.int .i64) a1)(h2:WT (.int .i64) a2)(h3:WT (.int .i64) a3)(h4:WT (.int .i64) a4)(h5:WT (.int .i64) a5)(h6:WT (.int .i64) a6)(hl:bl.length<=281474976710656)(hw:∀x∈bl,WT (.slice (.int .i64)) x)(hc:WT (.int .i64) code):d13 (a1,a2,a3,a4,a5,a6,bl,rest) code=some true:=by
 obtain⟨c,n,lots,hm,hd⟩:=d31_eq (rest:=rest) h1 h2 h3 h4 h5 h6;obtain⟨lots',l1,l2,l3⟩:=d18_eq (n:=n) (by have:=hm.n7;omega) hc;have hb:MadeOK c n lots':=⟨hm.con,hm.m1,hm.m3,hm.n1,hm.n7,l2,l3⟩;obtain⟨f1,f2,f3⟩:=znt hm (clip bl);obtain⟨g1,g2,g3⟩:=znt hb (clip bl);have he:lots.length<=281474976710656:=by have:=hm.len;have:=hm.n7;omega
 have ha:lots'.length<=281474976710656:=by have:=hm.n7;omega
 obtain⟨z,e1,e2,e3,b,e4,e5⟩:=zwd f1 g1 g2 f3 g3 he ha;unfold d13;simp only[hd bl hl hw,xaa,hm.len,l1,e1,e2,e3,d36_eq,xab,xbh,e4,e5]
end Go.Proofs.YtamgmpngdmnadaaGreat
