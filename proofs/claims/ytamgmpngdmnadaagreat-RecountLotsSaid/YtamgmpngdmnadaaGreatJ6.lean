/- A part of the proof. -/
import Derived.Carry
import Derived.SizedLaws
import Derived.DataShut
import Derived.OpenShut
import Derived.Test.YtamgmpngdmnadaaGreatJ5
set_option linter.defProp false
set_option linter.unusedSimpArgs false
set_option linter.unusedVariables false
namespace Go.X
open Go Go.RowKit
def mname(P:Program)(t:TypeId)(f:FuncId):String:=
 match P.info? t with
 |some i=>match i.methods.find? (λm=>match m.func with | some (g,_)=>g == f | none=>false)with
  |some m=>m.name
  |none=>default
 |none=>default
end Go.X
namespace Go.X
open Go Go.RowKit Go.ChangeShapes
def fitsL(fit:TypeId->Ty->Bool)(cells:TypeId->Nat):Nat->List Field->Ty->Bool
 |_,[],_=>false
 |o,[f],u=>decide (f.offset=o)&&decide (cells f.type=u.size)&&fit f.type u
 |o,f::g::fs,.pair a b=>decide (f.offset=o)&&decide (cells f.type=a.size)&&fit f.type a&&fitsL fit cells (o+a.size) (g::fs) b
 |_,_::_::_,_=>false
def fitsS(fit:TypeId->Ty->Bool)(cells:TypeId->Nat):List Field->Ty->Bool
 | [],_=>false
 | [f],u=>match u with
  | .pair a .unit=>decide (f.offset=0)&&decide (cells f.type=a.size)&&fit f.type a
  |_=>false
 |f::g::fs,u=>fitsL fit cells 0 (f::g::fs) u
def fits(P:Program):Nat->TypeId->Ty->Bool
 | 0,_,_=>false
 |n+1,t,u=>match P.underlying t with
  |some (.int k)=>match u with | .int k'=>decide (k=k') | _=>false
  |some .bool=>match u with | .bool=>true | _=>false
  |some .string=>match u with | .str=>true | _=>false
  |some (.slice e)=>match u with | .slice s=>decide (P.cellsOf e=s.size)&&(decide (0<s.size)&&(decide (1<=P.bytesOf e)&&fits P n e s)) | _=>false
  |some (.array m e)=>match u with | .arr m' s=>decide (m=m')&&(decide (P.cellsOf e=s.size)&&(decide (P.cellsOf t=u.size)&&fits P n e s)) | _=>false
  |some (.struct fs)=>decide (P.cellsOf t=u.size)&&fitsS (fits P n) P.cellsOf fs.toList u
  |_=>false
def S0(w:World):St:=⟨w,λb=>b<w.heap.size,λ_=>False,λ_=>none,λ_=>.nilIface⟩
def S0_WF(w:World):(S0 w).WF:=⟨λ_ h=>⟨rfl,h⟩,λ_ h=>h.elim,λ_ _ h=>by cases h⟩
def zrc{α β:Type}{f:α->Option β}:∀{l:List α} {r:List β},l.mapM f=some r->∀x∈l,∃y,f x=some y
 | [],_,_,x,hx=>by cases hx
 |a::l,r,h,x,hx=>by
  simp only[xhh,xhm,xik]at h;cases ha:f a with
  |none=>simp[ha]at h
  |some b=>
   cases hl:l.mapM f with
   |none=>simp[ha,hl]at h
   |some rest=>
    rcases xar.1 hx with rfl|hx
    ·exact⟨b,ha⟩
    ·exact zrc hl x hx
def mapM_each{H:Type}{P:Program}{α:Type}{f:α->Option (DataW H×List MemPlace)}{g:α->TypeId}:∀{l:List α} {r:List (DataW H×List MemPlace)},l.mapM f=some r->(∀n∈DataW.weightsEach P (l.map g) (r.map (·.1)),n<=reachBytes) ->
  ∀x∈l,∃y,f x=some y/\∀n∈y.1.weights P (g x),n<=reachBytes
 | [],_,_,_,x,hx=>by cases hx
 |a::l,r,h,hw,x,hx=>by
  simp only[xhh,xhm,xik]at h;cases ha:f a with
  |none=>simp[ha]at h
  |some b=>
   cases hl:l.mapM f with
   |none=>simp[ha,hl]at h
   |some rest=>
    simp[ha,hl]at h;subst h;simp only[xdo,DataW.weightsEach,xbp]at hw;rcases xar.1 hx with rfl|hx
    ·exact⟨b,ha,λn hn=>hw n (.inl hn)⟩
    ·exact mapM_each hl (λn hn=>hw n (.inr hn)) x hx
def zsq{H:Type}{P:Program}{α:Type}{f:α->Option (DataW H×List MemPlace)}{e:TypeId}:∀{l:List α} {r:List (DataW H×List MemPlace)},l.mapM f=some r->(∀n∈DataW.weightsAll P e (r.map (·.1)),n<=reachBytes) ->
  ∀x∈l,∃y,f x=some y/\∀n∈y.1.weights P e,n<=reachBytes
 | [],_,_,_,x,hx=>by cases hx
 |a::l,r,h,hw,x,hx=>by
  simp only[xhh,xhm,xik]at h;cases ha:f a with
  |none=>simp[ha]at h
  |some b=>
   cases hl:l.mapM f with
   |none=>simp[ha,hl]at h
   |some rest=>
    simp[ha,hl]at h;subst h;simp only[xdo,DataW.weightsAll,xbp]at hw;rcases xar.1 hx with rfl|hx
    ·exact⟨b,ha,λn hn=>hw n (.inl hn)⟩
    ·exact zsq hl (λn hn=>hw n (.inr hn)) x hx
def wrap_of_wf{k:IntKind}{n:Int}(h:(Lit.int k n).wf=true):k.wrap n=n:=by have:=(Lit.wf_int_iff k n).1 h;exact zib k this.1 this.2
section
variable {H:Type} {enc:TypeId×Value->H} {P:Program} {w:World} {sp:Nat->Bool} {held:Bool}
def zxr(cs:List Value)(o n i:Nat)(h:i<n):((cs.drop o).take n)[i]?=cs[o+i]?:=by rw[xjg h,xix]
def trod_rel(hsp:∀b,sp b=true):∀{n:Nat} {t:TypeId} {u:Ty},fits P n t u=true->∀{fuel:Nat} {cs:List Value} {y:DataW H×List MemPlace},DataW.trod enc P w 0 sp held fuel t cs=some y->cs.length=u.size->(∀n∈y.1.weights P t,n<=reachBytes)->∃x:u.den,∀p,Rel P u (S0 w) .sh p x (λi=>cs[i]?):=by
 intro n;induction n with
 |zero=>intro t u h;cases h
 |succ n ih=>
  intro t u hf fuel cs y hy he hw;have hL:∀(fuel:Nat) (fs:List Field) (v:Ty) (o:Nat),fitsL (fits P n) P.cellsOf o fs v=true->(∀f∈fs,∃y,DataW.trod enc P w 0 sp held fuel f.type ((cs.drop f.offset).take (P.cellsOf f.type))=some y/\∀n∈y.1.weights P f.type,n<=reachBytes)->o+v.size<=cs.length->∃x:v.den,∀p,Rel P v (S0 w) .sh p x (λi=>cs[o+i]?):=by
   intro fuel fs;induction fs with
   |nil=>intro v o h;cases h
   |cons f fs ihf=>
    intro v o h hb jf;cases fs with
    |nil=>simp only[fitsL,xal,xak]at h;obtain⟨y,hy,hg⟩:=hb f (by simp);rw[h.1.1,h.1.2]at hy;obtain⟨x,hx⟩:=ih h.2 hy (by simp;omega) hg;exact⟨x,λp=>(hx p).cong λi hi=>by rw[zxr _ _ _ _ hi]⟩
    |cons g fs=>
     cases v with
     |pair a b=>simp only[fitsL,xal,xak]at h;simp only[Ty.size]at jf;obtain⟨y,hy,hg⟩:=hb f (by simp);rw[h.1.1.1,h.1.1.2]at hy;obtain⟨x,hx⟩:=ih h.1.2 hy (by simp;omega) hg;obtain⟨z,hz⟩:=ihf b (o+a.size) h.2 (λf' hf'=>hb f' (xan _ hf')) (by omega);exact⟨(x,z),λp=>⟨(hx _).cong λi hi=>by rw[zxr _ _ _ _ hi],(hz _).cong λi _=>by rw[xdk]⟩⟩
     |_=>simp[fitsL]at h
  cases fuel with
  |zero=>simp[DataW.trod]at hy
  |succ fuel=>
   unfold fits at hf;unfold DataW.trod at hy;have one:cs.length=1->∃v,cs=[v]:=λh1=>by
    match cs,h1 with
    | [c],_=>exact⟨c,rfl⟩
   split at hf
   ·rename_i k hu;cases u<;>try (simp at hf;done)
    have:=xbc hf;subst this;obtain⟨v,rfl⟩:=one he;cases v<;>try (simp[hu]at hy;done)
    rename_i k' m;simp only[hu]at hy;split at hy;case isFalse=>cases hy
    rename_i hc;obtain⟨rfl,hw⟩:=hc;refine⟨m,λp=>⟨rfl,?_⟩⟩;exact wrap_of_wf hw
   ·rename_i hu;cases u<;>try (simp at hf;done)
    obtain⟨v,rfl⟩:=one he;cases v<;>try (simp[hu]at hy;done)
    exact⟨_,λp=>rfl⟩
   ·rename_i hu;cases u<;>try (simp at hf;done)
    obtain⟨v,rfl⟩:=one he;cases v<;>try (simp[hu]at hy;done)
    rename_i s;simp only[hu]at hy;split at hy;case isFalse=>cases hy
    rename_i hs;cases hy;refine⟨s.data.toList.map λc=>(c.toNat:Int),λp=>⟨s,rfl,rfl,?_⟩⟩;have:=hw s.data.toList.length (by simp[DataW.weights]);rw[xao];unfold zpf;unfold reachBytes at this;omega
   ·rename_i e hu;cases u<;>try (simp at hf;done)
    rename_i s;simp only[xal,xak]at hf;obtain⟨h1,h2,jd,h4⟩:=hf;obtain⟨v,rfl⟩:=one he;cases v<;>try (simp[hu]at hy;done)
    rename_i a len cap;cases a with
    |none=>
     have:len=0/\cap=0:=by
      match len,cap with
      | 0,0=>exact⟨rfl,rfl⟩
      | 0,c+1=>simp[hu]at hy
      |l+1,c=>simp[hu]at hy
     obtain⟨rfl,rfl⟩:=this;exact⟨[],λp=>⟨xbx _,h2,none,0,0,rfl,rfl,xag _,.inl ⟨rfl,rfl⟩⟩⟩
    |some a=>
     simp only[hu]at hy;split at hy;case isFalse=>cases hy
     rename_i hc;obtain⟨_,je,jh⟩:=hc;simp only[xbk,xac]at hy;obtain⟨elems,hr,rest,hm,rfl⟩:=hy;simp only[DataW.weights,hu,xar,xbp]at hw;have ht:=hw _ (.inl rfl);have h9:∀n∈DataW.weightsAll P e (elems.map (·.1)),n<=reachBytes:=λn hn=>hw n (.inr (.inl hn));have ja:elems.length=len:=by simpa using mapM_some_length hr
     have hp:len<=reachBytes:=by simp only[xao,ja]at ht;have:(len+rest.length)*1<=(len+rest.length)*P.bytesOf e:=xcy _ jd;omega
     rcases xdf cap with hc0|hc0
     ·have hv:len=0:=by omega
      subst hv;exact⟨[],λp=>⟨xbx _,h2,some a,0,cap,rfl,rfl,xbx _,.inl ⟨rfl,hc0⟩⟩⟩
     have hh:a.spot=none:=by
      have read:∀(z:Nat) (y:DataW H×List MemPlace),z=0->(w.cells? 0 (a.add (z*P.cellsOf e)) (P.cellsOf e)).bind (DataW.trod enc P w 0 sp held fuel e)=some y->a.spot=none:=λz y hz hy=>by
       subst hz;simp only[xbk]at hy;obtain⟨cs',hq,_⟩:=hy;obtain⟨_,hl,hd⟩:=World.cells?_some hq;have h0:=hd 0 (by omega);have jc:(a.add (0*P.cellsOf e)).add 0=a:=by rw[xfr];rfl
       rw[jc]at h0;have ha:(w.cell? a).isSome=true:=by rw[h0];simp[hl,h1,h2]
       unfold World.cell? at ha;cases hs:a.spot with
       |none=>rfl
       |some x=>rw[hs]at ha;split at ha<;>simp at ha
      rcases xdf len with hv|hv
      ·rw[if_pos (hsp _)]at hm;obtain⟨y,hy⟩:=zrc hm 0 (by simp;omega);exact read _ y (by omega) hy
      ·obtain⟨y,hy⟩:=zrc hr 0 (by simp;omega);exact read _ y rfl hy
     obtain⟨b,o,spot⟩:=a;simp only at hh;subst hh;have h8:∀i,i<len->b<w.heap.size:=λi hi=>by
      obtain⟨y,hy⟩:=zrc hr i (by simpa using hi);simp only[xbk]at hy;obtain⟨cs',hq,_⟩:=hy;obtain⟨_,hl,hd⟩:=World.cells?_some hq;have h0:=hd 0 (by omega);rw[zff,zff]at h0;have ha:(w.cell? ⟨b,o+i*P.cellsOf e+0,none⟩).isSome=true:=by rw[h0];simp[hl,h1,h2]
      unfold World.cell? at ha;rcases xeo b w.heap.size with h|h
      ·exact h
      ·simp[xfz h]at ha
     have each:∀i,i<len->∃x:s.den,∀p,Rel P s (S0 w) .sh p x (blk w b (o+i*s.size)):=λi hi=>by obtain⟨y,hy,hg⟩:=zsq hr h9 i (by simpa using hi);simp only[xbk]at hy;obtain⟨cs',hq,hy⟩:=hy;obtain⟨_,hl,hd⟩:=World.cells?_some hq;rw[h1]at hl hd;obtain⟨x,hx⟩:=ih h4 hy hl hg;refine⟨x,λp=>(hx p).cong λj hj=>?_⟩;rw[<-hd j hj,zff,zff];rfl
     let xs:List s.den:=(List.range len).map λi=>if h:i<len then Classical.choose (each i h)else s.dflt
     have h7:xs.length=len:=by simp[xs]
     refine⟨xs,λp=>⟨?_,h2,some ⟨b,o,none⟩,len,cap,rfl,h7.symm,je,.inr ⟨b,o,rfl,λhne=>?_,λi hi=>?_⟩⟩⟩;·rw[h7];unfold zpf;unfold reachBytes at hp;omega
     ·have:0<len:=by rw[<-h7];exact xcr.2 hne
      exact .inl (h8 0 this)
     ·have ho:i<len:=by omega
      have:xs[i]=Classical.choose (each i ho):=by simp[xs,ho]
      rw[this];exact xdw (each i ho) _
   ·rename_i m e hu;cases u<;>try (simp at hf;done)
    rename_i m' s;simp only[xal,xak]at hf;obtain⟨rfl,h1,h2,h3⟩:=hf;simp only[hu]at hy;split at hy;case isFalse=>cases hy
    simp only[xac]at hy;obtain⟨xs,h5,rfl⟩:=hy;simp only[DataW.weights,hu]at hw;simp only[Ty.size]at he;have each:∀i,i<m->∃x:s.den,∀p,Rel P s (S0 w) .sh p x (λj=>cs[i*s.size+j]?):=λi hi=>by obtain⟨y,hy,hg⟩:=zsq h5 hw i (by simpa using hi);rw[h1]at hy;have h6:(i+1)*s.size<=m*s.size:=xau _ hi;rw[xco]at h6;obtain⟨x,hx⟩:=ih h3 hy (by simp;omega) hg;exact⟨x,λp=>(hx p).cong λj hj=>by rw[zxr _ _ _ _ hj]⟩
    let zs:List s.den:=(List.range m).map λi=>if h:i<m then Classical.choose (each i h)else s.dflt
    have jg:zs.length=m:=by simp[zs]
    refine⟨zs,λp=>⟨jg,λi hi=>?_⟩⟩;have ho:i<m:=by omega
    have:zs[i]=Classical.choose (each i ho):=by simp[zs,ho]
    rw[this];exact xdw (each i ho) _
   ·rename_i fs hu;simp only[xal,xak]at hf;simp only[hu]at hy;split at hy;case isFalse=>cases hy
    simp only[xac]at hy;obtain⟨xs,h5,rfl⟩:=hy;simp only[DataW.weights,hu]at hw;have hb:=λf hf=>mapM_each (g:=λf=>f.type) h5 hw f hf;obtain⟨jb,hk⟩:=hf;clear jb;generalize fs.toList=l at *;cases l with
    |nil=>simp[fitsS]at hk
    |cons f l=>
     cases l with
     |nil=>
      obtain⟨a,rfl⟩:∃a,u=.pair a .unit:=by
       cases u<;>try (simp[fitsS]at hk;done)
       rename_i a b;cases b<;>first | (simp[fitsS]at hk;done) | exact⟨a,rfl⟩
      simp only[fitsS,xal,xak]at hk;obtain⟨y,hy,hg⟩:=hb f (by simp);rw[hk.1.1,hk.1.2]at hy;simp only[Ty.size]at he;obtain⟨x,hx⟩:=ih hk.2 hy (by simp;omega) hg;exact⟨(x,()),λp=>⟨(hx _).cong λi hi=>by rw[zxr _ _ _ _ hi,xck],trivial⟩⟩
     |cons g l=>
      obtain⟨x,hx⟩:=hL fuel _ u 0 hk hb (by omega);exact⟨x,λp=>(hx p).cong λi _=>by rw[xck]⟩
   ·cases hf
end
section
variable {H:Type} {enc:TypeId×Value->H} {P:Program} {w:World} {sp:Nat->Bool} {held:Bool} {base:Nat}
def okCell_one{t:TypeId}{v:Value}(h:Cell.okWide P w .any base t v):v.cells=#[v]:=by unfold Cell.okWide at h;split at h<;>first | rfl | (unfold Cell.ok at h;split at h<;>first | rfl | exact h.elim)
def arg_rel(hsp:∀b,sp b=true){n:Nat}{t:TypeId}{u:Ty}{v:Value}{d:DataW H}{ps:List MemPlace}(hf:fits P n t u=true)(hv:Value.okWide P w .any base t v)(h:DataW.Trod enc P w 0 sp held t v d ps)(hw:∀n∈d.weights P t,n<=reachBytes) :
  ∃x:u.den,∀p,SR P u (S0 w) .sh p x v:=by
 obtain⟨fuel,h⟩:=h;cases n with
 |zero=>cases hf
 |succ n=>
  have ha:=hf;unfold fits at hf;have scal:u.agg=false->u.size=1->Cell.okWide P w .any base t v->∃x:u.den,∀p,SR P u (S0 w) .sh p x v:=λhag hsz hc=>by
   have h1:=okCell_one hc;obtain⟨x,hx⟩:=trod_rel hsp ha h (by rw[h1,hsz];rfl) hw;refine⟨x,λp=>⟨(hx p).cong λi hi=>?_,λh=>by rw[hag]at h;cases h⟩⟩;have:i=0:=by omega
   subst this;rw[h1];unfold zab;rw[hag];rfl
  have aggr:u.agg=true->P.cellsOf t=u.size->(∃cs,v=.agg cs/\cs.size=P.cellsOf t/\Row.okWide P w .any base t cs)->∃x:u.den,∀p,SR P u (S0 w) .sh p x v:=λhag hsz hc=>by obtain⟨cs,rfl,h1,ts,_,_,h2⟩:=hc;obtain⟨x,hx⟩:=trod_rel hsp ha h (by show cs.toList.length=_;rw[xcj,h1,hsz]) hw;refine⟨x,λp=>⟨(hx p).cong λi hi=>?_,λ_=>⟨cs,rfl,by rw[h1,hsz]⟩⟩⟩;unfold zab;rw[hag];show cs[i]?=cs.toList[i]?;rw[xbe]
  unfold Value.okWide at hv;split at hf;·rename_i k hu;simp only[hu]at hv;cases u<;>first | (simp at hf;done) | exact scal rfl rfl hv
  ·rename_i hu;simp only[hu]at hv;cases u<;>first | (simp at hf;done) | exact scal rfl rfl hv
  ·rename_i hu;simp only[hu]at hv;cases u<;>first | (simp at hf;done) | exact scal rfl rfl hv
  ·rename_i e hu;simp only[hu]at hv;cases u<;>first | (simp at hf;done) | exact scal rfl rfl hv
  ·rename_i m e hu;simp only[hu]at hv;cases u<;>first | (simp at hf;done) | skip
   simp only[xal,xak]at hf;exact aggr rfl hf.2.2.1 hv
  ·rename_i fs hu;simp only[hu]at hv;simp only[xal,xak]at hf;refine aggr ?_ hf.1 hv;have hS:=hf.2;generalize fs.toList=l at hS;match l,hS with
   | [f],hS=>cases u<;>first | rfl | (simp[fitsS]at hS)
   |f::g::l,hS=>cases u<;>first | rfl | (simp[fitsS,fitsL]at hS)
  ·cases hf
def zpk(P:Program)(n:Nat):List TypeId->List (Ty×PM)->Bool
 | [],[]=>true
 |t::ts,(u,pm)::ps=>(match pm with | .sh=>true | .bw=>true | _=>false)&&(fits P n t u&&zpk P n ts ps)
 |_,_=>false
def WTs:(ps:List (Ty×PM))->zek (zft ps)->Prop
 | [],_=>True
 |(t,_)::ps,x=>WT t x.1/\WTs ps x.2
def args_rel(hsp:∀b,sp b=true){n:Nat}:∀{ps:List (Ty×PM)} {ts:List TypeId} {vs:List Value} {ds:List (DataW H)} {p:List MemPlace},zpk P n ts ps=true->DataW.TrodAll enc P w 0 sp held ts vs ds p ->
  (∀(j:Nat) (t:TypeId) (v:Value),ts[j]?=some t->vs[j]?=some v->Value.okWide P w .any base t v)->(∀n∈DataW.weightsEach P ts ds,n<=reachBytes) ->
  ∃xs:zek (zft ps),WTs ps xs/\vs.length=(zkg ps xs).length/\∀(i:Nat) (e:TM),(zkg ps xs)[i]?=some e->∃v,vs[i]?=some v/\∀q,SR P e.t (S0 w) e.m q e.x v
 | [],[],[],[],_,_,_,_,_=>⟨(),trivial,rfl,λi e h=>by simp[zkg]at h⟩
 | [],[],_::_,_,_,_,h,_,_=>h.elim
 | [],[],[],_::_,_,_,h,_,_=>h.elim
 |(u,pm)::ps,t::ts,[],_,_,_,h,_,_=>by cases h
 |(u,pm)::ps,t::ts,_::_,[],_,_,h,_,_=>by cases h
 |(u,pm)::ps,t::ts,v::vs,d::ds,p,hf,h,hv,hw=>by
  obtain⟨p1,p2,h1,h2,_⟩:=h;simp only[zpk,xal]at hf;obtain⟨ha,hc,hd⟩:=hf;simp only[DataW.weightsEach,xbp]at hw;obtain⟨x,hx⟩:=arg_rel hsp hc (hv 0 t v rfl rfl) h1 λn hn=>hw n (.inl hn);obtain⟨xs,hb,h3,h4⟩:=args_rel hsp hd h2 (λj t v ht hv'=>hv (j+1) t v ht hv') λn hn=>hw n (.inr hn);refine⟨(x,xs),⟨(hx (0,[])).1.wt (zdm (.inl rfl) _),hb⟩,by simp[zkg,h3],λi e hi=>?_⟩;cases i with
  |succ i=>exact h4 i e hi
  |zero=>
   cases hi;refine⟨v,rfl,λq=>?_⟩;cases pm with
   |sh=>exact hx q
   |bw=>exact⟨(hx q).1.weaken (leM_sh (.inr rfl) _),(hx q).2⟩
   |give m=>simp at ha
   |io m=>simp at ha
 | [],_::_,_,_,_,hf,_,_,_=>by simp[zpk]at hf
 |_::_,[],_,_,_,hf,_,_,_=>by simp[zpk]at hf
def zsv(hsp:∀b,sp b=true){n:Nat}{f:FuncId}{sg:Sig}{den:Arr (zft sg.ps) (Option (Ret sg.res))}(hs:Sim P f sg den)(htrue:∀xs,WTs sg.ps xs->∃y,app _ den xs=some y/\sg.resTM y=[⟨.bool,.sh,true⟩])
  {ts:List TypeId} {args:Array Value} {ds:List (DataW H)} {p:List MemPlace} (hf:zpk P n ts sg.ps=true) (h:DataW.TrodAll enc P w 0 sp held ts args.toList ds p)
  (hv:∀(j:Nat) (t:TypeId) (v:Value),ts[j]?=some t->args.toList[j]?=some v->Value.okWide P w .any base t v) (hw:∀n∈DataW.weightsEach P ts ds,n<=reachBytes) :
  Calls P f args w λe w'=>e=.returned (.bool true)/\Below w.heap.size w w':=by
 obtain⟨xs,hg,h1,h2⟩:=args_rel (base:=base) hsp hf h hv hw;obtain⟨y,hy,he⟩:=htrue xs hg;have hc:=hs.2 xs y hy (S0 w) (S0_WF w) args.toList h1 λi e hi=>by obtain⟨v,h3,h4⟩:=h2 i e hi;exact⟨v,h3,h4 _⟩
 have ha:args.toList.toArray=args:=by simp
 rw[ha]at hc;refine Calls.mono hc λe w' hR=>?_;obtain⟨v,S',rfl,rfl,hd,hr,_⟩:=hR;rw[he]at hr;have hb:=SR.bool_inv (show SR P .bool S' .sh (0,[0]) true v from hr) (by simp);subst hb;exact⟨rfl,hd.os,hd.tape,hd.output,hd.size,λk hk=>hd.kept k hk rfl⟩
def zna(hl:laidOutB P=true){w':World}(hb:Below w.heap.size w w'):∀{ts:List TypeId} {vs:List Value} {ds:List (DataW H)} {p:List MemPlace},(ts.all λt=>P.readableRec t&&decide (t<P.types.size))=true ->
  DataW.TrodAll enc P w 0 (λ_=>true) true ts vs ds p->(∀x∈p,x.block<w.heap.size)->DataW.TrodAll enc P w' 0 (λb=>decide (b<w.heap.size)) true ts vs ds p
 | [],[],[],_,_,h,_=>h
 | [],_::_,_,_,_,h,_=>h.elim
 | [],[],_::_,_,_,h,_=>h.elim
 |_::_,[],_,_,_,h,_=>by cases h
 |_::_,_::_,[],_,_,h,_=>by cases h
 |t::ts,v::vs,d::ds,p,hr,h,hlt=>by obtain⟨p1,p2,h1,h2,rfl⟩:=h;simp only[xkg,xal,xak]at hr;exact⟨p1,p2,Below.trod hl hr.1.1 hr.1.2 h1 hb λx hx=>hlt x (xdq _ hx),zna hl hb (by simpa using hr.2) h2 λx hx=>hlt x (xic _ hx),rfl⟩
def zrw:∀{ts:List TypeId} {vs:List Value} {ds:List (DataW H)} {p:List MemPlace},DataW.TrodAll enc P w 0 sp held ts vs ds p->ds.length=ts.length
 | [],[],[],_,_=>rfl
 | [],_::_,_,_,h=>h.elim
 | [],[],_::_,_,h=>h.elim
 |_::_,[],_,_,h=>by cases h
 |_::_,_::_,[],_,h=>by cases h
 |t::ts,v::vs,d::ds,p,h=>by obtain⟨p1,p2,_,h2,_⟩:=h;simp[zrw h2]
def zyq{f:Func}{s:ChangeSpec}{apart fresh handsOn:Bool}{w':World}{args:Array Value}{ds gs:List (DataW H)}{before:List MemPlace}{t:TypeId}(hl:laidOutB P=true)(hp:(f.params.toList.all λt=>P.readableRec t&&decide (t<P.types.size))=true)
  (hvars:s.vars=[]) (hW:DataW.Whole enc P f.params.toList s.vars apart w args.toList ds gs before) (hb:Below w.heap.size w w') (hr:f.resultTypes=#[t]) (ht:P.underlying t=some .bool)
  (hfn:∀ds:List (DataW H),ds.length=f.params.toList.length->s.fn H (ds++[])={results:=[.lit (.bool true)],args:=ds}):s.post enc P f apart fresh handsOn false w args (.bool true) w':=by
 have hc:=hW;obtain⟨p,q,hA,hV,rfl,hf,he⟩:=hW;rw[hvars]at hV;obtain⟨rfl,rfl⟩:=trodVars_none hV;have hd:=hc.lt;have ha:=zrw hA;refine⟨ds,[],p++[],[],p,[],hc,?_,?_,?_,hb.frame _,λh=>by cases h⟩;·rw[hfn ds ha,hr];exact trodAll_cons_mk (shut_bool ht _) trodAll_mk0
 ·rw[hfn ds ha];exact zna hl hb hp hA λx hx=>hd x (xdq _ hx)
 ·rw[hfn ds ha,hvars];rfl
end
end Go.X
namespace Go.X
open Go Go.RowKit
section
variable {α β R:Type}
end
section
variable {P:Program}
def frm_refl{S:St}(h:S.WF){w':World}(hw:Ext S.w w'):Frm S {S with w:=w'}:=
 ⟨λ_ h=>h,rfl,λb hb=>⟨(h.shared b hb).1,xav (h.shared b hb).2 hw.size,.inl hb⟩,λb hb=>(h.borrowed b hb).1,λb p hb=>⟨xav (h.owned b p hb) hw.size,.inr (by rw[hb];simp)⟩,hw.os,hw.tape,hw.output,hw.size,λb hb _=>hw.block b hb⟩
def sim_int1{f:FuncId}{k k':IntKind}{g:Int->Int}(he:zdn P f)(h:∀(x:Int) (w:World),k.wrap x=x->Calls P f #[.int k x] w λe w'=>e=.returned (.int k' (g x))/\w'=w)(hg:∀x:Int,k.wrap x=x->k'.wrap (g x)=g x) :
  Sim P f ⟨[(.int k,.sh)],[(.int k',.sh)]⟩ (λ(x:Int)=>some (g x)):=by
 refine⟨he,λxs y hy S hS vs hvs hargs=>?_⟩;have hb:y=g xs.1:=by have:some (g xs.1)=some y:=hy;exact(xbi this).symm
 subst hb;obtain⟨v,hv,hr⟩:=hargs 0 ⟨.int k,.sh,xs.1⟩ rfl;have hl:vs.length=1:=hvs;obtain⟨v',rfl⟩:∃v',vs=[v']:=xcw.1 hl;have ha:v'=v:=by simpa using hv
 subst ha;dsimp only at hr;have h0:zab (.int k) v' 0=some v':=by simp[zab,Ty.agg]
 obtain⟨h1,h2⟩:=hr.1;rw[h0]at h1;cases h1;refine Calls.mono (h xs.1 S.w h2) λe w' ⟨e1,e2⟩=>?_;subst e1 e2;refine⟨_,{S with w:=S.w},rfl,rfl,frm_refl hS (.refl _),⟨⟨by simp[zab,Ty.agg];rfl,hg _ h2⟩,λh=>by cases h⟩,λk e hk=>by cases hk⟩
def sim_clone{f:FuncId}{k:IntKind}{et:TypeId}(he:zdn P f)
  (hs:∀(b off n c:Nat) (news:List Value) (w:World),news.length=n->n<=4294967296->(∀(j:Nat) (u:Value),news[j]?=some u->w.cell? ⟨b,off+j,none⟩=some u)->(∀u∈news,u.oneCell'=true) ->
   Calls P f #[.slice (some ⟨b,off,none⟩) n c] w λe w'=>∃v',e=.returned v'/\w'.ownsRow w.heap.size et 1 v' n news/\Below w.heap.size w w')
  (hz:∀(A:Addr) (c:Nat) (w:World),Calls P f #[.slice (some A) 0 c] w λe w'=>∃v',e=.returned v'/\w'.ownsRow w.heap.size et 1 v' 0 []/\Below w.heap.size w w')
  (hn:∀(n c:Nat) (w:World),Calls P f #[.slice none n c] w λe w'=>e=.returned (.slice none 0 0)/\w'=w) :
  Sim P f ⟨[(.slice (.int k),.bw)],[(.slice (.int k),.own et .sh)]⟩ (λ(xs:List Int)=>bif decide ((xs.length:Int)<=LIM)then some xs else none):=by
 refine⟨he,λxs y hy S hS vs hvs hargs=>?_⟩;have hd:(bif decide (((xs.1:List Int).length:Int)<=LIM)then some (xs.1:List Int)else none)=some y:=hy;obtain⟨xs,u⟩:=xs;simp only at hd;obtain⟨hg,hw⟩:(xs:List Int).length<=4294967296/\(xs:List Int)=y:=by
  cases hq:decide (((xs:List Int).length:Int)<=LIM)with
  |false=>rw[hq]at hd;cases hd
  |true=>rw[hq]at hd;have:=xbc hq;rw[zia]at this;exact⟨by omega,xbi hd⟩
 subst hw;obtain⟨v,hv,hr⟩:=hargs 0 ⟨.slice (.int k),.bw,xs⟩ rfl;have hl:vs.length=1:=hvs;obtain⟨v',rfl⟩:∃v',vs=[v']:=xcw.1 hl;have jb:v'=v:=by simpa using hv
 subst jb;dsimp only at hr;obtain⟨h8,_,A,len,cap,h0,rfl,ht,h3⟩:=hr.1;have ja:v'=.slice A (xs:List Int).length cap:=by simpa[zab,Ty.agg]using h0
 subst ja;have h9:∀n∈(xs:List Int),k.wrap n=n:=by
  intro n hn;obtain⟨i,hi,rfl⟩:=xdi hn;rcases h3 with⟨h3,_⟩|⟨b',o2,_,_,h4⟩
  ·rw[h3]at hi;simp at hi
  ·exact(h4 i hi).2
 have fin:∀(w':World) (r:Value),Below S.w.heap.size S.w w'->w'.ownsRow S.w.heap.size et 1 r (xs:List Int).length ((xs:List Int).map (Value.int k)) ->
   ∃v S',Ending.returned r=.returned v/\S'.w=w'/\Frm S S'/\ResOK P S' (Sig.resTM ⟨[(.slice (.int k),.bw)],[(.slice (.int k),.own et .sh)]⟩ xs) v /\
    ∀(q:Nat) (e:TM),(q,e)∈Sig.outTM ⟨[(.slice (.int k),.bw)],[(.slice (.int k),.own et .sh)]⟩ xs->∃u,[Value.slice A (xs:List Int).length cap][q]?=some u/\SR P e.t S' e.m (q+1,[]) e.x u:=λw' r hb ho=>by
  obtain⟨jd,hm⟩:=ho;let S':St:={S with w:=w',own:=λb=>if r.ownBlock=some b then some (0,[0])else S.own b,hv:=λz=>if z=(0,[0])then r else S.hv z};have hp:S'.hv (0,[0])=r:=by show(if((0,[0]):Place)=(0,[0])then r else S.hv (0,[0]))=r;simp
  have ha:∀b,r.ownBlock=some b->S.w.heap.size<=b/\b<w'.heap.size:=λb hbb=>by
   rcases hm with⟨h1,_⟩|⟨g,c,cur,h1,h2,h3,_⟩
   ·rw[h1]at hbb;cases hbb
   ·rw[h1]at hbb;cases hbb;exact⟨h2,(xbm.1 h3).1⟩
  have hc:∀b,b<S.w.heap.size->S'.own b=S.own b:=λb hlt=>if_neg λhh=>absurd (ha b hh).1 (by omega);have hx:Frm S S':=by
   refine⟨λ_ h=>h,rfl,λb hb'=>?_,λb hb'=>?_,λb p hb'=>?_,hb.os,hb.tape,hb.output,hb.size,λb hlt _=>hb.block b hlt⟩;·exact⟨(hc b (hS.shared b hb').2).trans (hS.shared b hb').1,xav (hS.shared b hb').2 hb.size,.inl hb'⟩
   ·exact(hc b (hS.borrowed b hb').2).trans (hS.borrowed b hb').1
   ·have hf:(if r.ownBlock=some b then some (0,[0])else S.own b)=some p:=hb';split at hf;·rename_i hh;exact⟨(ha b hh).2,.inl (ha b hh).1⟩
    ·exact⟨xav (hS.owned b p hf) hb.size,.inr (by rw[hf];simp)⟩
  refine⟨r,S',rfl,rfl,hx,⟨⟨h8,by simp[Ty.size],?_,?_⟩,λh=>by cases h⟩,λq e hq=>by cases hq⟩;·rw[hp];simp[zab,Ty.agg]
  ·rw[hp];rcases hm with⟨h1,h2⟩|⟨g,c,cur,h1,h2,h3,h4,h5,h6,h7⟩
   ·exact .inl ⟨h1,xef h2⟩
   ·refine .inr ⟨g,c,cur,h1,if_pos (by rw[h1];rfl),h3,h4,h5,by simpa[Ty.size]using h6,λi hi=>⟨?_,h9 _ (xbf hi)⟩⟩;have hk:i<(xs:List Int).length:=hi;have:=xbr (λl=>l[i]?) h7;simp only[xea,xdv,hk,if_true,xci,xaj hk,xch,xbe]at this;have e0:i*Ty.size (.int k)+0=i:=by simp[Ty.size]
    show cur[i*Ty.size (.int k)+0]?=_;rw[e0];exact this
 rcases h3 with⟨hnil,hcap0⟩|⟨b,o,rfl,_,h4⟩
 ·rw[hnil]at fin ⊢;cases A with
  |none=>refine Calls.mono (hn _ _ S.w) λe w' ⟨e1,e2⟩=>?_;subst e1 e2;exact fin S.w (.slice none 0 0) (.refl _ _) (World.ownsRow_nil _ _ _ _)
  |some A=>refine Calls.mono (hz A cap S.w) λe w' ⟨v',e1,h1,h2⟩=>?_;subst e1;exact fin w' v' h2 h1
 ·refine Calls.mono (hs b o (xs:List Int).length cap ((xs:List Int).map (Value.int k)) S.w (by simp) hg (λj u hu=>?_) (λu hu=>?_)) λe w' ⟨v',e1,h1,h2⟩=>?_;·rw[xci]at hu;obtain⟨n,jc,rfl⟩:=xac.1 hu;obtain⟨hj,rfl⟩:=xei.1 jc;have:=(h4 j hj).1;simpa[blk,Ty.size]using this
  ·obtain⟨n,_,rfl⟩:=xdx.1 hu;rfl
  ·subst e1;exact fin w' v' h2 h1
def sim_sort{f:FuncId}{et:TypeId}(he:zdn P f)
  (hs:∀(g cap:Nat) (zs:List Int) (cur:Array Value) (w:World),w.heap[g]?=some (.cells cur et (0,0))->zs.length<=cap->cap<=maxLen->cur.size=cap->cur.toList.take zs.length=zs.map (Value.int .i64)->zs.length<=4294967296 ->
   Calls P f #[.slice (some ⟨g,0,none⟩) zs.length cap] w λx w'=>x=.returned (.tuple #[])/\w.grownBy w' (some g)/\w'.ownsRow 0 et 1 (.slice (some ⟨g,0,none⟩) zs.length cap) zs.length ((zcf zs).map (Value.int .i64)))
  (hn:∀(w:World),Calls P f #[.slice none 0 0] w λx w'=>x=.returned (.tuple #[])/\w'=w) :
  Sim P f ⟨[(.slice (.int .i64),.io (.own et .sh))],[]⟩ (λ(xs:List Int)=>bif decide ((xs.length:Int)<=LIM)then some (zcf xs)else none):=by
 refine⟨he,λxs y hy S hS vs hvs hargs=>?_⟩;have hc:(bif decide (((xs.1:List Int).length:Int)<=LIM)then some (zcf (xs.1:List Int))else none)=some y:=hy;obtain⟨xs,u⟩:=xs;simp only at hc;obtain⟨ht,h7⟩:(xs:List Int).length<=4294967296/\zcf (xs:List Int)=y:=by
  cases hq:decide (((xs:List Int).length:Int)<=LIM)with
  |false=>rw[hq]at hc;cases hc
  |true=>rw[hq]at hc;have:=xbc hq;rw[zia]at this;exact⟨by omega,xbi hc⟩
 subst h7;obtain⟨v,hv,hr⟩:=hargs 0 ⟨.slice (.int .i64),.own et .sh,xs⟩ rfl;have hl:vs.length=1:=hvs;obtain⟨v',rfl⟩:∃v',vs=[v']:=xcw.1 hl;have h9:v'=v:=by simpa using hv
 subst h9;dsimp only at hr;obtain⟨hu,_,h0,h3⟩:=hr.1;have hf:v'=S.hv (0,[]):=by
  have:zab (.slice (.int .i64)) v' 0=some v':=by simp[zab,Ty.agg]
  rw[this]at h0;exact xbi h0
 have hd:=sortI_length (xs:List Int);rcases h3 with⟨q1,q2⟩|⟨g,cap,cur,q1,q2,q3,q4,q5,q6,q7⟩
 ·rw[q1]at hf;subst hf;refine Calls.mono (hn S.w) λe w' ⟨e1,e2⟩=>?_;subst e1 e2;let S':St:={S with hv:=λz=>if z=(1,[])then .slice none 0 0 else S.hv z};have ha:S'.hv (1,[])=.slice none 0 0:=by show(if((1,[]):Place)=(1,[])then Value.slice none 0 0 else S.hv (1,[]))=_;simp
  refine⟨_,S',rfl,rfl,⟨λ_ h=>h,rfl,λb hb=>⟨(hS.shared b hb).1,(hS.shared b hb).2,.inl hb⟩,λb hb=>(hS.borrowed b hb).1,λb p hb=>⟨hS.owned b p hb,.inr (by rw[show S.own b=some p from hb];simp)⟩,rfl,rfl,rfl,xag _,λb _ _=>rfl⟩,⟨#[],rfl,rfl,λk e hk=>by cases hk⟩,λq e hq=>?_⟩;have hm:(q,e)=(0,(⟨.slice (.int .i64),.own et .sh,zcf (xs:List Int)⟩:TM)):=by
   rcases xar.1 hq with h|h
   ·exact h
   ·cases h
  cases hm;exact⟨_,rfl,⟨by rw[hd];exact hu,by simp[Ty.size],by rw[ha];simp[zab,Ty.agg],.inl ⟨ha,by rw[q2];simp[zcf]⟩⟩,λh=>by cases h⟩
 ·rw[q1]at hf;subst hf;have h8:∀n∈(xs:List Int),IntKind.i64.wrap n=n:=by intro n hn;obtain⟨i,hi,rfl⟩:=xdi hn;exact(q7 i hi).2
  refine Calls.mono (hs g cap (xs:List Int) cur S.w q3 q4 q5 (by simpa[Ty.size]using q6) ?_ ht) λe w' ⟨e1,hg,ho⟩=>?_
  ·apply xhx;intro i;rw[xdv,xci];by_cases hi:i<(xs:List Int).length;·have:=(q7 i hi).1;rw[if_pos hi,xaj hi,xbe];simpa[Ty.size]using this
   ·rw[if_neg hi,xdm (by omega)];rfl
  ·subst e1;have hj:∀b,S.own b=none->b≠g:=λb hb h=>by rw[h,q2]at hb;cases hb
   let S':St:={S with w:=w',own:=λb=>if b=g then some (1,[])else S.own b,hv:=λz=>if z=(1,[])then .slice (some ⟨g,0,none⟩) (xs:List Int).length cap else S.hv z};have ha:S'.hv (1,[])=.slice (some ⟨g,0,none⟩) (xs:List Int).length cap:=by show(if((1,[]):Place)=(1,[])then Value.slice (some ⟨g,0,none⟩) (xs:List Int).length cap else S.hv (1,[]))=_;simp
   have hp:∀b,b<S.w.heap.size->S.own b=none->w'.heap[b]?=S.w.heap[b]?:=λb hb hn=>hg.block b hb λe=>hj b hn (xbi e);refine⟨_,S',rfl,rfl,⟨λ_ h=>h,rfl,λb hb=>⟨?_,xav (hS.shared b hb).2 hg.size,.inl hb⟩,λb hb=>?_,λb p hb=>?_,hg.os,hg.tape,hg.output,hg.size,hp⟩,⟨#[],rfl,rfl,λk e hk=>by cases hk⟩,λq e hq=>?_⟩;·exact(if_neg (hj b (hS.shared b hb).1)).trans (hS.shared b hb).1
   ·exact(if_neg (hj b (hS.borrowed b hb).1)).trans (hS.borrowed b hb).1
   ·have hh:(if b=g then some (1,[])else S.own b)=some p:=hb;split at hh;·rename_i hx;subst hx;exact⟨xav (hS.owned b _ q2) hg.size,.inr (by rw[q2];simp)⟩
    ·exact⟨xav (hS.owned b p hh) hg.size,.inr (by rw[hh];simp)⟩
   ·have hm:(q,e)=(0,(⟨.slice (.int .i64),.own et .sh,zcf (xs:List Int)⟩:TM)):=by
     rcases xar.1 hq with h|h
     ·exact h
     ·cases h
    cases hm;refine⟨_,rfl,⟨by rw[hd];exact hu,by simp[Ty.size],by rw[ha];simp[zab,Ty.agg],?_⟩,λh=>by cases h⟩;obtain⟨_,hz⟩:=ho;rcases hz with⟨h1,_⟩|⟨g',c',cur',h1,_,h2,h3,h4,h5,h6⟩
    ·cases h1
    ·cases h1;rw[ha];refine .inr ⟨g,cap,cur',by rw[hd],if_pos rfl,h2,by rw[hd];exact h3,h4,by simpa[Ty.size]using h5,λi hi=>⟨?_,h8 _ (sortI_mem.1 (xbf hi))⟩⟩;have hw:i<(xs:List Int).length:=by rw[hd]at hi;exact hi
     have:=xbr (λl=>l[i]?) h6;simp only[xea,xdv,hw,if_true,xci,xaj hi,xch,xbe]at this;simpa[Ty.size]using this
end
end Go.X
