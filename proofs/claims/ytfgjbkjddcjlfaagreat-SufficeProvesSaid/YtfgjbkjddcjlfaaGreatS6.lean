/- Part 6 of what stands below the statement. -/
import Derived.Carry
import Derived.SizedLaws
import Derived.DataShut
import Derived.OpenShut
import Derived.Test.YtfgjbkjddcjlfaaGreatS5
set_option linter.defProp false
set_option linter.unusedSimpArgs false
set_option linter.unusedVariables false
namespace Go.X
open Go Go.RowKit
end Go.X
namespace Go.X
open Go Go.RowKit Go.ChangeShapes
def fitsL(fit:TypeId→Ty→Bool)(cells:TypeId→Nat):Nat→List Field→Ty→Bool
 |_,[],_=>false
 |o,[f],u=>decide (f.offset=o)&&decide (cells f.type=u.size)&&fit f.type u
 |o,f::g::fs,.pair a b=>decide (f.offset=o)&&decide (cells f.type=a.size)&&fit f.type a&&fitsL fit cells (o+a.size) (g::fs) b
 |_,_::_::_,_=>false
def fitsS(fit:TypeId→Ty→Bool)(cells:TypeId→Nat):List Field→Ty→Bool
 | [],_=>false
 | [f],u=>match u with
  | .pair a .unit=>decide (f.offset=0)&&decide (cells f.type=a.size)&&fit f.type a
  |_=>false
 |f::g::fs,u=>fitsL fit cells 0 (f::g::fs) u
def fits(P:Program):Nat→TypeId→Ty→Bool
 | 0,_,_=>false
 |n+1,t,u=>match P.underlying t with
  |some (.int k)=>match u with | .int k'=>decide (k=k') | _=>false
  |some .bool=>match u with | .bool=>true | _=>false
  |some .string=>match u with | .str=>true | _=>false
  |some (.slice e)=>match u with | .slice s=>decide (P.cellsOf e=s.size)&&(decide (0<s.size)&&(decide (1≤P.bytesOf e)&&fits P n e s)) | _=>false
  |some (.array m e)=>match u with | .arr m' s=>decide (m=m')&&(decide (P.cellsOf e=s.size)&&(decide (P.cellsOf t=u.size)&&fits P n e s)) | _=>false
  |some (.struct fs)=>decide (P.cellsOf t=u.size)&&fitsS (fits P n) P.cellsOf fs.toList u
  |_=>false
def S0(w:World):St:=⟨w,fun b=>b<w.heap.size,fun _=>False,fun _=>none,fun _=>.nilIface⟩
def S0_WF(w:World):(S0 w).WF:=⟨fun _ h=>⟨rfl,h⟩,fun _ h=>h.elim,fun _ _ h=>by cases h⟩
def zqa{α β:Type}{f:α→Option β}:∀{l:List α} {r:List β},l.mapM f=some r→∀x∈l,∃y,f x=some y
 | [],_,_,x,hx=>by cases hx
 |a::l,r,h,x,hx=>by
  simp only[xhf,xhk,xim]at h
  cases ha:f a with
  |none=>simp[ha]at h
  |some b=>
   cases hl:l.mapM f with
   |none=>simp[ha,hl]at h
   |some rest=>
    rcases xbd.1 hx with rfl|hx
    ·exact⟨b,ha⟩
    ·exact zqa hl x hx
def mapM_each{H:Type}{P:Program}{α:Type}{f:α→Option (DataW H×List MemPlace)}{g:α→TypeId}:∀{l:List α} {r:List (DataW H×List MemPlace)},l.mapM f=some r→(∀n∈DataW.weightsEach P (l.map g) (r.map (·.1)),n≤reachBytes) →
  ∀x∈l,∃y,f x=some y∧∀n∈y.1.weights P (g x),n≤reachBytes
 | [],_,_,_,x,hx=>by cases hx
 |a::l,r,h,hw,x,hx=>by
  simp only[xhf,xhk,xim]at h
  cases ha:f a with
  |none=>simp[ha]at h
  |some b=>
   cases hl:l.mapM f with
   |none=>simp[ha,hl]at h
   |some rest=>
    simp[ha,hl]at h
    subst h
    simp only[xen,DataW.weightsEach,xbq]at hw
    rcases xbd.1 hx with rfl|hx
    ·exact⟨b,ha,fun n hn=>hw n (.inl hn)⟩
    ·exact mapM_each hl (fun n hn=>hw n (.inr hn)) x hx
def zrx{H:Type}{P:Program}{α:Type}{f:α→Option (DataW H×List MemPlace)}{e:TypeId}:∀{l:List α} {r:List (DataW H×List MemPlace)},l.mapM f=some r→(∀n∈DataW.weightsAll P e (r.map (·.1)),n≤reachBytes) →
  ∀x∈l,∃y,f x=some y∧∀n∈y.1.weights P e,n≤reachBytes
 | [],_,_,_,x,hx=>by cases hx
 |a::l,r,h,hw,x,hx=>by
  simp only[xhf,xhk,xim]at h
  cases ha:f a with
  |none=>simp[ha]at h
  |some b=>
   cases hl:l.mapM f with
   |none=>simp[ha,hl]at h
   |some rest=>
    simp[ha,hl]at h
    subst h
    simp only[xen,DataW.weightsAll,xbq]at hw
    rcases xbd.1 hx with rfl|hx
    ·exact⟨b,ha,fun n hn=>hw n (.inl hn)⟩
    ·exact zrx hl (fun n hn=>hw n (.inr hn)) x hx
def wrap_of_wf{k:IntKind}{n:Int}(h:(Lit.int k n).wf=true):k.wrap n=n:=by
 have:=(Lit.wf_int_iff k n).1 h
 exact zhg k this.1 this.2
section
variable {H:Type} {enc:TypeId×Value→H} {P:Program} {w:World} {sp:Nat→Bool} {held:Bool}
def zvi(cs:List Value)(o n i:Nat)(h:i<n):((cs.drop o).take n)[i]?=cs[o+i]?:=by
 rw[xjk h,xkr]
def trod_rel(hsp:∀b,sp b=true):∀{n:Nat} {t:TypeId} {u:Ty},fits P n t u=true→∀{fuel:Nat} {cs:List Value} {y:DataW H×List MemPlace},DataW.trod enc P w 0 sp held fuel t cs=some y→cs.length=u.size→(∀n∈y.1.weights P t,n≤reachBytes)→∃x:u.den,∀p,Rel P u (S0 w) .sh p x (fun i=>cs[i]?):=by
 intro n
 induction n with
 |zero=>intro t u h;cases h
 |succ n ih=>
  intro t u hf fuel cs y hy hlen hw
  have hL:∀(fuel:Nat) (fs:List Field) (v:Ty) (o:Nat),fitsL (fits P n) P.cellsOf o fs v=true→(∀f∈fs,∃y,DataW.trod enc P w 0 sp held fuel f.type ((cs.drop f.offset).take (P.cellsOf f.type))=some y∧∀n∈y.1.weights P f.type,n≤reachBytes)→o+v.size≤cs.length→∃x:v.den,∀p,Rel P v (S0 w) .sh p x (fun i=>cs[o+i]?):=by
   intro fuel fs
   induction fs with
   |nil=>intro v o h;cases h
   |cons f fs ihf=>
    intro v o h hall hle
    cases fs with
    |nil=>
     simp only[fitsL,xan,xam]at h
     obtain⟨y,hy,hyw⟩:=hall f (by simp)
     rw[h.1.1,h.1.2]at hy
     obtain⟨x,hx⟩:=ih h.2 hy (by simp;omega) hyw
     exact⟨x,fun p=>(hx p).cong fun i hi=>by rw[zvi _ _ _ _ hi]⟩
    |cons g fs=>
     cases v with
     |pair a b=>
      simp only[fitsL,xan,xam]at h
      simp only[Ty.size]at hle
      obtain⟨y,hy,hyw⟩:=hall f (by simp)
      rw[h.1.1.1,h.1.1.2]at hy
      obtain⟨x,hx⟩:=ih h.1.2 hy (by simp;omega) hyw
      obtain⟨z,hz⟩:=ihf b (o+a.size) h.2 (fun f' hf'=>hall f' (xap _ hf')) (by omega)
      exact⟨(x,z),fun p=>⟨(hx _).cong fun i hi=>by rw[zvi _ _ _ _ hi],(hz _).cong fun i _=>by rw[xdm]⟩⟩
     |_=>simp[fitsL]at h
  cases fuel with
  |zero=>simp[DataW.trod]at hy
  |succ fuel=>
   unfold fits at hf
   unfold DataW.trod at hy
   have one:cs.length=1→∃v,cs=[v]:=fun h1=>by
    match cs,h1 with
    | [c],_=>exact⟨c,rfl⟩
   split at hf
   ·rename_i k hu
    cases u<;>try (simp at hf;done)
    have:=xbl hf
    subst this
    obtain⟨v,rfl⟩:=one hlen
    cases v<;>try (simp[hu]at hy;done)
    rename_i k' m
    simp only[hu]at hy
    split at hy
    case isFalse=>cases hy
    rename_i hc
    obtain⟨rfl,hw⟩:=hc
    refine⟨m,fun p=>⟨rfl,?_⟩⟩
    exact wrap_of_wf hw
   ·rename_i hu
    cases u<;>try (simp at hf;done)
    obtain⟨v,rfl⟩:=one hlen
    cases v<;>try (simp[hu]at hy;done)
    exact⟨_,fun p=>rfl⟩
   ·rename_i hu
    cases u<;>try (simp at hf;done)
    obtain⟨v,rfl⟩:=one hlen
    cases v<;>try (simp[hu]at hy;done)
    rename_i s
    simp only[hu]at hy
    split at hy
    case isFalse=>cases hy
    rename_i hs
    cases hy
    refine⟨s.data.toList.map fun c=>(c.toNat:Int),fun p=>⟨s,rfl,rfl,?_⟩⟩
    have:=hw s.data.toList.length (by simp[DataW.weights])
    rw[xbw]
    unfold maxL
    unfold reachBytes at this
    omega
   ·rename_i e hu
    cases u<;>try (simp at hf;done)
    rename_i s
    simp only[xan,xam]at hf
    obtain⟨h1,h2,hby,h4⟩:=hf
    obtain⟨v,rfl⟩:=one hlen
    cases v<;>try (simp[hu]at hy;done)
    rename_i a len cap
    cases a with
    |none=>
     have:len=0∧cap=0:=by
      match len,cap with
      | 0,0=>exact⟨rfl,rfl⟩
      | 0,c+1=>simp[hu]at hy
      |l+1,c=>simp[hu]at hy
     obtain⟨rfl,rfl⟩:=this
     exact⟨[],fun p=>⟨xbz _,h2,none,0,0,rfl,rfl,xak _,.inl ⟨rfl,rfl⟩⟩⟩
    |some a=>
     simp only[hu]at hy
     split at hy
     case isFalse=>cases hy
     rename_i hc
     obtain⟨_,hlc,hcm⟩:=hc
     simp only[xcb,xad]at hy
     obtain⟨elems,hel,rest,hrest,rfl⟩:=hy
     simp only[DataW.weights,hu,xbd,xbq]at hw
     have hcap:=hw _ (.inl rfl)
     have helw:∀n∈DataW.weightsAll P e (elems.map (·.1)),n≤reachBytes:=fun n hn=>hw n (.inr (.inl hn))
     have hell:elems.length=len:=by simpa using mapM_some_length hel
     have hlen48:len≤reachBytes:=by
      simp only[xbw,hell]at hcap
      have:(len+rest.length)*1≤(len+rest.length)*P.bytesOf e:=xdk _ hby
      omega
     rcases xda cap with hc0|hc0
     ·have hl0:len=0:=by omega
      subst hl0
      exact⟨[],fun p=>⟨xbz _,h2,some a,0,cap,rfl,rfl,xbz _,.inl ⟨rfl,hc0⟩⟩⟩
     have hspot:a.spot=none:=by
      have read:∀(z:Nat) (y:DataW H×List MemPlace),z=0→(w.cells? 0 (a.add (z*P.cellsOf e)) (P.cellsOf e)).bind (DataW.trod enc P w 0 sp held fuel e)=some y→a.spot=none:=fun z y hz hy=>by
       subst hz
       simp only[xcb]at hy
       obtain⟨cs',hcs,_⟩:=hy
       obtain⟨_,hl,hget⟩:=World.cells?_some hcs
       have h0:=hget 0 (by omega)
       have ha0:(a.add (0*P.cellsOf e)).add 0=a:=by rw[xfl];rfl
       rw[ha0]at h0
       have hsome:(w.cell? a).isSome=true:=by rw[h0];simp[hl,h1,h2]
       unfold World.cell? at hsome
       cases hs:a.spot with
       |none=>rfl
       |some x=>rw[hs]at hsome;split at hsome<;>simp at hsome
      rcases xda len with hl0|hl0
      ·rw[if_pos (hsp _)]at hrest
       obtain⟨y,hy⟩:=zqa hrest 0 (by simp;omega)
       exact read _ y (by omega) hy
      ·obtain⟨y,hy⟩:=zqa hel 0 (by simp;omega)
       exact read _ y rfl hy
     obtain⟨b,o,spot⟩:=a
     simp only at hspot
     subst hspot
     have hblk:∀i,i<len→b<w.heap.size:=fun i hi=>by
      obtain⟨y,hy⟩:=zqa hel i (by simpa using hi)
      simp only[xcb]at hy
      obtain⟨cs',hcs,_⟩:=hy
      obtain⟨_,hl,hget⟩:=World.cells?_some hcs
      have h0:=hget 0 (by omega)
      rw[zel,zel]at h0
      have hsome:(w.cell? ⟨b,o+i*P.cellsOf e+0,none⟩).isSome=true:=by rw[h0];simp[hl,h1,h2]
      unfold World.cell? at hsome
      rcases xcy b w.heap.size with h|h
      ·exact h
      ·simp[xga h]at hsome
     have each:∀i,i<len→∃x:s.den,∀p,Rel P s (S0 w) .sh p x (blk w b (o+i*s.size)):=fun i hi=>by
      obtain⟨y,hy,hyw⟩:=zrx hel helw i (by simpa using hi)
      simp only[xcb]at hy
      obtain⟨cs',hcs,hy⟩:=hy
      obtain⟨_,hl,hget⟩:=World.cells?_some hcs
      rw[h1]at hl hget
      obtain⟨x,hx⟩:=ih h4 hy hl hyw
      refine⟨x,fun p=>(hx p).cong fun j hj=>?_⟩
      rw[←hget j hj,zel,zel]
      rfl
     let xs:List s.den:=(List.range len).map fun i=>if h:i<len then Classical.choose (each i h)else s.dflt
     have hxl:xs.length=len:=by simp[xs]
     refine⟨xs,fun p=>⟨?_,h2,some ⟨b,o,none⟩,len,cap,rfl,hxl.symm,hlc,.inr ⟨b,o,rfl,fun hne=>?_,fun i hi=>?_⟩⟩⟩
     ·rw[hxl];unfold maxL;unfold reachBytes at hlen48;omega
     ·have:0<len:=by rw[←hxl];exact xcr.2 hne
      exact .inl (hblk 0 this)
     ·have hi':i<len:=by omega
      have:xs[i]=Classical.choose (each i hi'):=by simp[xs,hi']
      rw[this]
      exact xdy (each i hi') _
   ·rename_i m e hu
    cases u<;>try (simp at hf;done)
    rename_i m' s
    simp only[xan,xam]at hf
    obtain⟨rfl,h1,h2,h3⟩:=hf
    simp only[hu]at hy
    split at hy
    case isFalse=>cases hy
    simp only[xad]at hy
    obtain⟨xs,hxs,rfl⟩:=hy
    simp only[DataW.weights,hu]at hw
    simp only[Ty.size]at hlen
    have each:∀i,i<m→∃x:s.den,∀p,Rel P s (S0 w) .sh p x (fun j=>cs[i*s.size+j]?):=fun i hi=>by
     obtain⟨y,hy,hyw⟩:=zrx hxs hw i (by simpa using hi)
     rw[h1]at hy
     have hbnd:(i+1)*s.size≤m*s.size:=xav _ hi
     rw[xcl]at hbnd
     obtain⟨x,hx⟩:=ih h3 hy (by simp;omega) hyw
     exact⟨x,fun p=>(hx p).cong fun j hj=>by rw[zvi _ _ _ _ hj]⟩
    let zs:List s.den:=(List.range m).map fun i=>if h:i<m then Classical.choose (each i h)else s.dflt
    have hzl:zs.length=m:=by simp[zs]
    refine⟨zs,fun p=>⟨hzl,fun i hi=>?_⟩⟩
    have hi':i<m:=by omega
    have:zs[i]=Classical.choose (each i hi'):=by simp[zs,hi']
    rw[this]
    exact xdy (each i hi') _
   ·rename_i fs hu
    simp only[xan,xam]at hf
    simp only[hu]at hy
    split at hy
    case isFalse=>cases hy
    simp only[xad]at hy
    obtain⟨xs,hxs,rfl⟩:=hy
    simp only[DataW.weights,hu]at hw
    have hall:=fun f hf=>mapM_each (g:=fun f=>f.type) hxs hw f hf
    obtain⟨hsz0,hfS⟩:=hf
    clear hsz0
    generalize fs.toList=l at *
    cases l with
    |nil=>simp[fitsS]at hfS
    |cons f l=>
     cases l with
     |nil=>
      obtain⟨a,rfl⟩:∃a,u=.pair a .unit:=by
       cases u<;>try (simp[fitsS]at hfS;done)
       rename_i a b
       cases b<;>first | (simp[fitsS]at hfS;done) | exact⟨a,rfl⟩
      simp only[fitsS,xan,xam]at hfS
      obtain⟨y,hy,hyw⟩:=hall f (by simp)
      rw[hfS.1.1,hfS.1.2]at hy
      simp only[Ty.size]at hlen
      obtain⟨x,hx⟩:=ih hfS.2 hy (by simp;omega) hyw
      exact⟨(x,()),fun p=>⟨(hx _).cong fun i hi=>by rw[zvi _ _ _ _ hi,xdc],trivial⟩⟩
     |cons g l=>
      obtain⟨x,hx⟩:=hL fuel _ u 0 hfS hall (by omega)
      exact⟨x,fun p=>(hx p).cong fun i _=>by rw[xdc]⟩
   ·cases hf
end
section
variable {H:Type} {enc:TypeId×Value→H} {P:Program} {w:World} {sp:Nat→Bool} {held:Bool} {base:Nat}
def okCell_one{t:TypeId}{v:Value}(h:Cell.okWide P w .any base t v):v.cells=#[v]:=by
 unfold Cell.okWide at h
 split at h<;>first | rfl | (unfold Cell.ok at h;split at h<;>first | rfl | exact h.elim)
def arg_rel(hsp:∀b,sp b=true){n:Nat}{t:TypeId}{u:Ty}{v:Value}{d:DataW H}{ps:List MemPlace}(hf:fits P n t u=true)(hv:Value.okWide P w .any base t v)(h:DataW.Trod enc P w 0 sp held t v d ps)(hw:∀n∈d.weights P t,n≤reachBytes) :
  ∃x:u.den,∀p,SR P u (S0 w) .sh p x v:=by
 obtain⟨fuel,h⟩:=h
 cases n with
 |zero=>cases hf
 |succ n=>
  have hf0:=hf
  unfold fits at hf
  have scal:u.agg=false→u.size=1→Cell.okWide P w .any base t v→∃x:u.den,∀p,SR P u (S0 w) .sh p x v:=fun hag hsz hc=>by
   have h1:=okCell_one hc
   obtain⟨x,hx⟩:=trod_rel hsp hf0 h (by rw[h1,hsz];rfl) hw
   refine⟨x,fun p=>⟨(hx p).cong fun i hi=>?_,fun h=>by rw[hag]at h;cases h⟩⟩
   have:i=0:=by omega
   subst this
   rw[h1]
   unfold zab
   rw[hag]
   rfl
  have aggr:u.agg=true→P.cellsOf t=u.size→(∃cs,v=.agg cs∧cs.size=P.cellsOf t∧Row.okWide P w .any base t cs)→∃x:u.den,∀p,SR P u (S0 w) .sh p x v:=fun hag hsz hc=>by
   obtain⟨cs,rfl,h1,ts,_,_,h2⟩:=hc
   obtain⟨x,hx⟩:=trod_rel hsp hf0 h (by show cs.toList.length=_;rw[xcc,h1,hsz]) hw
   refine⟨x,fun p=>⟨(hx p).cong fun i hi=>?_,fun _=>⟨cs,rfl,by rw[h1,hsz]⟩⟩⟩
   unfold zab
   rw[hag]
   show cs[i]?=cs.toList[i]?
   rw[xbm]
  unfold Value.okWide at hv
  split at hf
  ·rename_i k hu
   simp only[hu]at hv
   cases u<;>first | (simp at hf;done) | exact scal rfl rfl hv
  ·rename_i hu
   simp only[hu]at hv
   cases u<;>first | (simp at hf;done) | exact scal rfl rfl hv
  ·rename_i hu
   simp only[hu]at hv
   cases u<;>first | (simp at hf;done) | exact scal rfl rfl hv
  ·rename_i e hu
   simp only[hu]at hv
   cases u<;>first | (simp at hf;done) | exact scal rfl rfl hv
  ·rename_i m e hu
   simp only[hu]at hv
   cases u<;>first | (simp at hf;done) | skip
   simp only[xan,xam]at hf
   exact aggr rfl hf.2.2.1 hv
  ·rename_i fs hu
   simp only[hu]at hv
   simp only[xan,xam]at hf
   refine aggr ?_ hf.1 hv
   have hS:=hf.2
   generalize fs.toList=l at hS
   match l,hS with
   | [f],hS=>cases u<;>first | rfl | (simp[fitsS]at hS)
   |f::g::l,hS=>cases u<;>first | rfl | (simp[fitsS,fitsL]at hS)
  ·cases hf
def zog(P:Program)(n:Nat):List TypeId→List (Ty×PM)→Bool
 | [],[]=>true
 |t::ts,(u,pm)::ps=>(match pm with | .sh=>true | .bw=>true | _=>false)&&(fits P n t u&&zog P n ts ps)
 |_,_=>false
def WTs:(ps:List (Ty×PM))→Vals (ptys ps)→Prop
 | [],_=>True
 |(t,_)::ps,x=>WT t x.1∧WTs ps x.2
def args_rel(hsp:∀b,sp b=true){n:Nat}:∀{ps:List (Ty×PM)} {ts:List TypeId} {vs:List Value} {ds:List (DataW H)} {p:List MemPlace},zog P n ts ps=true→DataW.TrodAll enc P w 0 sp held ts vs ds p →
  (∀(j:Nat) (t:TypeId) (v:Value),ts[j]?=some t→vs[j]?=some v→Value.okWide P w .any base t v)→(∀n∈DataW.weightsEach P ts ds,n≤reachBytes) →
  ∃xs:Vals (ptys ps),WTs ps xs∧vs.length=(ptms ps xs).length∧∀(i:Nat) (e:TM),(ptms ps xs)[i]?=some e→∃v,vs[i]?=some v∧∀q,SR P e.t (S0 w) e.m q e.x v
 | [],[],[],[],_,_,_,_,_=>⟨(),trivial,rfl,fun i e h=>by simp[ptms]at h⟩
 | [],[],_::_,_,_,_,h,_,_=>h.elim
 | [],[],[],_::_,_,_,h,_,_=>h.elim
 |(u,pm)::ps,t::ts,[],_,_,_,h,_,_=>by cases h
 |(u,pm)::ps,t::ts,_::_,[],_,_,h,_,_=>by cases h
 |(u,pm)::ps,t::ts,v::vs,d::ds,p,hf,h,hv,hw=>by
  obtain⟨p1,p2,h1,h2,_⟩:=h
  simp only[zog,xan]at hf
  obtain⟨hpm,hf1,hf2⟩:=hf
  simp only[DataW.weightsEach,xbq]at hw
  obtain⟨x,hx⟩:=arg_rel hsp hf1 (hv 0 t v rfl rfl) h1 fun n hn=>hw n (.inl hn)
  obtain⟨xs,hwt,h3,h4⟩:=args_rel hsp hf2 h2 (fun j t v ht hv'=>hv (j+1) t v ht hv') fun n hn=>hw n (.inr hn)
  refine⟨(x,xs),⟨(hx (0,[])).1.wt (zdd (.inl rfl) _),hwt⟩,by simp[ptms,h3],fun i e hi=>?_⟩
  cases i with
  |succ i=>exact h4 i e hi
  |zero=>
   cases hi
   refine⟨v,rfl,fun q=>?_⟩
   cases pm with
   |sh=>exact hx q
   |bw=>exact⟨(hx q).1.weaken (leM_sh (.inr rfl) _),(hx q).2⟩
   |give m=>simp at hpm
   |io m=>simp at hpm
 | [],_::_,_,_,_,hf,_,_,_=>by simp[zog]at hf
 |_::_,[],_,_,_,hf,_,_,_=>by simp[zog]at hf
def law_calls(hsp:∀b,sp b=true){n:Nat}{f:FuncId}{sg:Sig}{den:Arr (ptys sg.ps) (Option (Ret sg.res))}(hs:Sim P f sg den)(htrue:∀xs,WTs sg.ps xs→∃y,app _ den xs=some y∧sg.resTM y=[⟨.bool,.sh,true⟩])
  {ts:List TypeId} {args:Array Value} {ds:List (DataW H)} {p:List MemPlace} (hf:zog P n ts sg.ps=true) (h:DataW.TrodAll enc P w 0 sp held ts args.toList ds p)
  (hv:∀(j:Nat) (t:TypeId) (v:Value),ts[j]?=some t→args.toList[j]?=some v→Value.okWide P w .any base t v) (hw:∀n∈DataW.weightsEach P ts ds,n≤reachBytes) :
  Calls P f args w fun e w'=>e=.returned (.bool true)∧Below w.heap.size w w':=by
 obtain⟨xs,hwt,h1,h2⟩:=args_rel (base:=base) hsp hf h hv hw
 obtain⟨y,hy,hres⟩:=htrue xs hwt
 have hcall:=hs.2 xs y hy (S0 w) (S0_WF w) args.toList h1 fun i e hi=>by
  obtain⟨v,h3,h4⟩:=h2 i e hi
  exact⟨v,h3,h4 _⟩
 have ha:args.toList.toArray=args:=by simp
 rw[ha]at hcall
 refine Calls.mono hcall fun e w' hR=>?_
 obtain⟨v,S',rfl,rfl,hfr,hr,_⟩:=hR
 rw[hres]at hr
 have hb:=SR.bool_inv (show SR P .bool S' .sh (0,[0]) true v from hr) (by simp)
 subst hb
 exact⟨rfl,hfr.os,hfr.tape,hfr.output,hfr.size,fun k hk=>hfr.kept k hk rfl⟩
def zly(hl:laidOutB P=true){w':World}(hb:Below w.heap.size w w'):∀{ts:List TypeId} {vs:List Value} {ds:List (DataW H)} {p:List MemPlace},(ts.all fun t=>P.readableRec t&&decide (t<P.types.size))=true →
  DataW.TrodAll enc P w 0 (fun _=>true) true ts vs ds p→(∀x∈p,x.block<w.heap.size)→DataW.TrodAll enc P w' 0 (fun b=>decide (b<w.heap.size)) true ts vs ds p
 | [],[],[],_,_,h,_=>h
 | [],_::_,_,_,_,h,_=>h.elim
 | [],[],_::_,_,_,h,_=>h.elim
 |_::_,[],_,_,_,h,_=>by cases h
 |_::_,_::_,[],_,_,h,_=>by cases h
 |t::ts,v::vs,d::ds,p,hr,h,hlt=>by
  obtain⟨p1,p2,h1,h2,rfl⟩:=h
  simp only[xkt,xan,xam]at hr
  exact⟨p1,p2,Below.trod hl hr.1.1 hr.1.2 h1 hb fun x hx=>hlt x (xel _ hx),zly hl hb (by simpa using hr.2) h2 fun x hx=>hlt x (xic _ hx),rfl⟩
def zqs:∀{ts:List TypeId} {vs:List Value} {ds:List (DataW H)} {p:List MemPlace},DataW.TrodAll enc P w 0 sp held ts vs ds p→ds.length=ts.length
 | [],[],[],_,_=>rfl
 | [],_::_,_,_,h=>h.elim
 | [],[],_::_,_,h=>h.elim
 |_::_,[],_,_,h=>by cases h
 |_::_,_::_,[],_,h=>by cases h
 |t::ts,v::vs,d::ds,p,h=>by
  obtain⟨p1,p2,_,h2,_⟩:=h
  simp[zqs h2]
def law_post{f:Func}{s:ChangeSpec}{apart fresh handsOn:Bool}{w':World}{args:Array Value}{ds gs:List (DataW H)}{before:List MemPlace}{t:TypeId}(hl:laidOutB P=true)(hp:(f.params.toList.all fun t=>P.readableRec t&&decide (t<P.types.size))=true)
  (hvars:s.vars=[]) (hW:DataW.Whole enc P f.params.toList s.vars apart w args.toList ds gs before) (hb:Below w.heap.size w w') (hr:f.resultTypes=#[t]) (ht:P.underlying t=some .bool)
  (hfn:∀ds:List (DataW H),ds.length=f.params.toList.length→s.fn H (ds++[])={results:=[.lit (.bool true)],args:=ds}):s.post enc P f apart fresh handsOn false w args (.bool true) w':=by
 have hW':=hW
 obtain⟨p,q,hA,hV,rfl,hfz,hnd⟩:=hW
 rw[hvars]at hV
 obtain⟨rfl,rfl⟩:=trodVars_none hV
 have hlt:=hW'.lt
 have hlen:=zqs hA
 refine⟨ds,[],p++[],[],p,[],hW',?_,?_,?_,hb.frame _,fun h=>by cases h⟩
 ·rw[hfn ds hlen,hr]
  exact trodAll_cons_mk (shut_bool ht _) trodAll_mk0
 ·rw[hfn ds hlen]
  exact zly hl hb hp hA fun x hx=>hlt x (xel _ hx)
 ·rw[hfn ds hlen,hvars]
  rfl
end
end Go.X
namespace Go.X
open Go Go.RowKit
section
variable {α β R:Type}
end
section
variable {P:Program}
def frm_refl{S:St}(h:S.WF){w':World}(hw:Ext S.w w'):Frm S {S with w:=w'}:=
 ⟨fun _ h=>h,rfl,fun b hb=>⟨(h.shared b hb).1,xau (h.shared b hb).2 hw.size,.inl hb⟩,fun b hb=>(h.borrowed b hb).1,fun b p hb=>⟨xau (h.owned b p hb) hw.size,.inr (by rw[hb];simp)⟩,hw.os,hw.tape,hw.output,hw.size,fun b hb _=>hw.block b hb⟩
def sim_int1{f:FuncId}{k k':IntKind}{g:Int→Int}(he:zcf P f)(h:∀(x:Int) (w:World),k.wrap x=x→Calls P f #[.int k x] w fun e w'=>e=.returned (.int k' (g x))∧w'=w)(hg:∀x:Int,k.wrap x=x→k'.wrap (g x)=g x) :
  Sim P f ⟨[(.int k,.sh)],[(.int k',.sh)]⟩ (fun(x:Int)=>some (g x)):=by
 refine⟨he,fun xs y hy S hS vs hvs hargs=>?_⟩
 have hy':y=g xs.1:=by have:some (g xs.1)=some y:=hy;exact(xbo this).symm
 subst hy'
 obtain⟨v,hv,hr⟩:=hargs 0 ⟨.int k,.sh,xs.1⟩ rfl
 have hl:vs.length=1:=hvs
 obtain⟨v',rfl⟩:∃v',vs=[v']:=xem.1 hl
 have hv2:v'=v:=by simpa using hv
 subst hv2
 dsimp only at hr
 have h0:zab (.int k) v' 0=some v':=by simp[zab,Ty.agg]
 obtain⟨h1,h2⟩:=hr.1
 rw[h0]at h1
 cases h1
 refine Calls.mono (h xs.1 S.w h2) fun e w' ⟨e1,e2⟩=>?_
 subst e1 e2
 refine⟨_,{S with w:=S.w},rfl,rfl,frm_refl hS (.refl _),⟨⟨by simp[zab,Ty.agg];rfl,hg _ h2⟩,fun h=>by cases h⟩,fun k e hk=>by cases hk⟩
def sim_clone{f:FuncId}{k:IntKind}{et:TypeId}(he:zcf P f)
  (hs:∀(b off n c:Nat) (news:List Value) (w:World),news.length=n→n≤4294967296→(∀(j:Nat) (u:Value),news[j]?=some u→w.cell? ⟨b,off+j,none⟩=some u)→(∀u∈news,u.oneCell'=true) →
   Calls P f #[.slice (some ⟨b,off,none⟩) n c] w fun e w'=>∃v',e=.returned v'∧w'.ownsRow w.heap.size et 1 v' n news∧Below w.heap.size w w')
  (hz:∀(A:Addr) (c:Nat) (w:World),Calls P f #[.slice (some A) 0 c] w fun e w'=>∃v',e=.returned v'∧w'.ownsRow w.heap.size et 1 v' 0 []∧Below w.heap.size w w')
  (hn:∀(n c:Nat) (w:World),Calls P f #[.slice none n c] w fun e w'=>e=.returned (.slice none 0 0)∧w'=w) :
  Sim P f ⟨[(.slice (.int k),.bw)],[(.slice (.int k),.own et .sh)]⟩ (fun(xs:List Int)=>bif decide ((xs.length:Int)≤LIM)then some xs else none):=by
 refine⟨he,fun xs y hy S hS vs hvs hargs=>?_⟩
 have hy0:(bif decide (((xs.1:List Int).length:Int)≤LIM)then some (xs.1:List Int)else none)=some y:=hy
 obtain⟨xs,u⟩:=xs
 simp only at hy0
 obtain⟨hlim,hy'⟩:(xs:List Int).length≤4294967296∧(xs:List Int)=y:=by
  cases hq:decide (((xs:List Int).length:Int)≤LIM)with
  |false=>rw[hq]at hy0;cases hy0
  |true=>
   rw[hq]at hy0
   have:=xbl hq
   rw[zbv]at this
   exact⟨by omega,xbo hy0⟩
 subst hy'
 obtain⟨v,hv,hr⟩:=hargs 0 ⟨.slice (.int k),.bw,xs⟩ rfl
 have hl:vs.length=1:=hvs
 obtain⟨v',rfl⟩:∃v',vs=[v']:=xem.1 hl
 have hv2:v'=v:=by simpa using hv
 subst hv2
 dsimp only at hr
 obtain⟨hxl,_,A,len,cap,h0,rfl,hcap,h3⟩:=hr.1
 have hv0:v'=.slice A (xs:List Int).length cap:=by simpa[zab,Ty.agg]using h0
 subst hv0
 have hwr:∀n∈(xs:List Int),k.wrap n=n:=by
  intro n hn
  obtain⟨i,hi,rfl⟩:=xcm hn
  rcases h3 with⟨h3,_⟩|⟨b',o2,_,_,h4⟩
  ·rw[h3]at hi;simp at hi
  ·exact(h4 i hi).2
 have fin:∀(w':World) (r:Value),Below S.w.heap.size S.w w'→w'.ownsRow S.w.heap.size et 1 r (xs:List Int).length ((xs:List Int).map (Value.int k)) →
   ∃v S',Ending.returned r=.returned v∧S'.w=w'∧Frm S S'∧zxb P S' (Sig.resTM ⟨[(.slice (.int k),.bw)],[(.slice (.int k),.own et .sh)]⟩ xs) v ∧
    ∀(q:Nat) (e:TM),(q,e)∈Sig.outTM ⟨[(.slice (.int k),.bw)],[(.slice (.int k),.own et .sh)]⟩ xs→∃u,[Value.slice A (xs:List Int).length cap][q]?=some u∧SR P e.t S' e.m (q+1,[]) e.x u:=fun w' r hb ho=>by
  obtain⟨ho1,ho2⟩:=ho
  let S':St:={S with w:=w',own:=fun b=>if r.ownBlock=some b then some (0,[0])else S.own b,hv:=fun z=>if z=(0,[0])then r else S.hv z}
  have hhv:S'.hv (0,[0])=r:=by
   show(if((0,[0]):Place)=(0,[0])then r else S.hv (0,[0]))=r
   simp
  have hbig:∀b,r.ownBlock=some b→S.w.heap.size≤b∧b<w'.heap.size:=fun b hbb=>by
   rcases ho2 with⟨h1,_⟩|⟨g,c,cur,h1,h2,h3,_⟩
   ·rw[h1]at hbb;cases hbb
   ·rw[h1]at hbb;cases hbb;exact⟨h2,(xbg.1 h3).1⟩
  have hold:∀b,b<S.w.heap.size→S'.own b=S.own b:=fun b hlt=>if_neg fun hh=>absurd (hbig b hh).1 (by omega)
  have hfr:Frm S S':=by
   refine⟨fun _ h=>h,rfl,fun b hb'=>?_,fun b hb'=>?_,fun b p hb'=>?_,hb.os,hb.tape,hb.output,hb.size,fun b hlt _=>hb.block b hlt⟩
   ·exact⟨(hold b (hS.shared b hb').2).trans (hS.shared b hb').1,xau (hS.shared b hb').2 hb.size,.inl hb'⟩
   ·exact(hold b (hS.borrowed b hb').2).trans (hS.borrowed b hb').1
   ·have hb2:(if r.ownBlock=some b then some (0,[0])else S.own b)=some p:=hb'
    split at hb2
    ·rename_i hh
     exact⟨(hbig b hh).2,.inl (hbig b hh).1⟩
    ·exact⟨xau (hS.owned b p hb2) hb.size,.inr (by rw[hb2];simp)⟩
  refine⟨r,S',rfl,rfl,hfr,⟨⟨hxl,by simp[Ty.size],?_,?_⟩,fun h=>by cases h⟩,fun q e hq=>by cases hq⟩
  ·rw[hhv];simp[zab,Ty.agg]
  ·rw[hhv]
   rcases ho2 with⟨h1,h2⟩|⟨g,c,cur,h1,h2,h3,h4,h5,h6,h7⟩
   ·exact .inl ⟨h1,xcf h2⟩
   ·refine .inr ⟨g,c,cur,h1,if_pos (by rw[h1];rfl),h3,h4,h5,by simpa[Ty.size]using h6,fun i hi=>⟨?_,hwr _ (xbc hi)⟩⟩
    have hi':i<(xs:List Int).length:=hi
    have:=xbx (fun l=>l[i]?) h7
    simp only[xdu,xdt,hi',if_true,xcv,xar hi',xcn,xbm]at this
    have e0:i*Ty.size (.int k)+0=i:=by simp[Ty.size]
    show cur[i*Ty.size (.int k)+0]?=_
    rw[e0]
    exact this
 rcases h3 with⟨hnil,hcap0⟩|⟨b,o,rfl,_,h4⟩
 ·rw[hnil]at fin ⊢
  cases A with
  |none=>
   refine Calls.mono (hn _ _ S.w) fun e w' ⟨e1,e2⟩=>?_
   subst e1 e2
   exact fin S.w (.slice none 0 0) (.refl _ _) (World.ownsRow_nil _ _ _ _)
  |some A=>
   refine Calls.mono (hz A cap S.w) fun e w' ⟨v',e1,h1,h2⟩=>?_
   subst e1
   exact fin w' v' h2 h1
 ·refine Calls.mono (hs b o (xs:List Int).length cap ((xs:List Int).map (Value.int k)) S.w (by simp) hlim (fun j u hu=>?_) (fun u hu=>?_)) fun e w' ⟨v',e1,h1,h2⟩=>?_
  ·rw[xcv]at hu
   obtain⟨n,hn1,rfl⟩:=xad.1 hu
   obtain⟨hj,rfl⟩:=xew.1 hn1
   have:=(h4 j hj).1
   simpa[blk,Ty.size]using this
  ·obtain⟨n,_,rfl⟩:=xdg.1 hu
   rfl
  ·subst e1
   exact fin w' v' h2 h1
def sim_sort{f:FuncId}{et:TypeId}(he:zcf P f)
  (hs:∀(g cap:Nat) (zs:List Int) (cur:Array Value) (w:World),w.heap[g]?=some (.cells cur et (0,0))→zs.length≤cap→cap≤maxLen→cur.size=cap→cur.toList.take zs.length=zs.map (Value.int .i64)→zs.length≤4294967296 →
   Calls P f #[.slice (some ⟨g,0,none⟩) zs.length cap] w fun x w'=>x=.returned (.tuple #[])∧w.grownBy w' (some g)∧w'.ownsRow 0 et 1 (.slice (some ⟨g,0,none⟩) zs.length cap) zs.length ((zdq zs).map (Value.int .i64)))
  (hn:∀(w:World),Calls P f #[.slice none 0 0] w fun x w'=>x=.returned (.tuple #[])∧w'=w) :
  Sim P f ⟨[(.slice (.int .i64),.io (.own et .sh))],[]⟩ (fun(xs:List Int)=>bif decide ((xs.length:Int)≤LIM)then some (zdq xs)else none):=by
 refine⟨he,fun xs y hy S hS vs hvs hargs=>?_⟩
 have hy0:(bif decide (((xs.1:List Int).length:Int)≤LIM)then some (zdq (xs.1:List Int))else none)=some y:=hy
 obtain⟨xs,u⟩:=xs
 simp only at hy0
 obtain⟨hlim,hy'⟩:(xs:List Int).length≤4294967296∧zdq (xs:List Int)=y:=by
  cases hq:decide (((xs:List Int).length:Int)≤LIM)with
  |false=>rw[hq]at hy0;cases hy0
  |true=>
   rw[hq]at hy0
   have:=xbl hq
   rw[zbv]at this
   exact⟨by omega,xbo hy0⟩
 subst hy'
 obtain⟨v,hv,hr⟩:=hargs 0 ⟨.slice (.int .i64),.own et .sh,xs⟩ rfl
 have hl:vs.length=1:=hvs
 obtain⟨v',rfl⟩:∃v',vs=[v']:=xem.1 hl
 have hv2:v'=v:=by simpa using hv
 subst hv2
 dsimp only at hr
 obtain⟨hxl,_,h0,h3⟩:=hr.1
 have hv0:v'=S.hv (0,[]):=by
  have:zab (.slice (.int .i64)) v' 0=some v':=by simp[zab,Ty.agg]
  rw[this]at h0
  exact xbo h0
 have hsl:=zeq (xs:List Int)
 rcases h3 with⟨q1,q2⟩|⟨g,cap,cur,q1,q2,q3,q4,q5,q6,q7⟩
 ·rw[q1]at hv0
  subst hv0
  refine Calls.mono (hn S.w) fun e w' ⟨e1,e2⟩=>?_
  subst e1 e2
  let S':St:={S with hv:=fun z=>if z=(1,[])then .slice none 0 0 else S.hv z}
  have hhv:S'.hv (1,[])=.slice none 0 0:=by
   show(if((1,[]):Place)=(1,[])then Value.slice none 0 0 else S.hv (1,[]))=_
   simp
  refine⟨_,S',rfl,rfl,⟨fun _ h=>h,rfl,fun b hb=>⟨(hS.shared b hb).1,(hS.shared b hb).2,.inl hb⟩,fun b hb=>(hS.borrowed b hb).1,fun b p hb=>⟨hS.owned b p hb,.inr (by rw[show S.own b=some p from hb];simp)⟩,rfl,rfl,rfl,xak _,fun b _ _=>rfl⟩,⟨#[],rfl,rfl,fun k e hk=>by cases hk⟩,fun q e hq=>?_⟩
  have hq':(q,e)=(0,(⟨.slice (.int .i64),.own et .sh,zdq (xs:List Int)⟩:TM)):=by
   rcases xbd.1 hq with h|h
   ·exact h
   ·cases h
  cases hq'
  exact⟨_,rfl,⟨by rw[hsl];exact hxl,by simp[Ty.size],by rw[hhv];simp[zab,Ty.agg],.inl ⟨hhv,by rw[q2];simp[zdq]⟩⟩,fun h=>by cases h⟩
 ·rw[q1]at hv0
  subst hv0
  have hwr:∀n∈(xs:List Int),IntKind.i64.wrap n=n:=by
   intro n hn
   obtain⟨i,hi,rfl⟩:=xcm hn
   exact(q7 i hi).2
  refine Calls.mono (hs g cap (xs:List Int) cur S.w q3 q4 q5 (by simpa[Ty.size]using q6) ?_ hlim) fun e w' ⟨e1,hg,ho⟩=>?_
  ·apply xjl
   intro i
   rw[xdt,xcv]
   by_cases hi:i<(xs:List Int).length
   ·have:=(q7 i hi).1
    rw[if_pos hi,xar hi,xbm]
    simpa[Ty.size]using this
   ·rw[if_neg hi,xdh (by omega)]
    rfl
  ·subst e1
   have hne:∀b,S.own b=none→b≠g:=fun b hb h=>by rw[h,q2]at hb;cases hb
   let S':St:={S with w:=w',own:=fun b=>if b=g then some (1,[])else S.own b,hv:=fun z=>if z=(1,[])then .slice (some ⟨g,0,none⟩) (xs:List Int).length cap else S.hv z}
   have hhv:S'.hv (1,[])=.slice (some ⟨g,0,none⟩) (xs:List Int).length cap:=by
    show(if((1,[]):Place)=(1,[])then Value.slice (some ⟨g,0,none⟩) (xs:List Int).length cap else S.hv (1,[]))=_
    simp
   have hblk:∀b,b<S.w.heap.size→S.own b=none→w'.heap[b]?=S.w.heap[b]?:=fun b hb hn=>hg.block b hb fun e=>hne b hn (xbo e)
   refine⟨_,S',rfl,rfl,⟨fun _ h=>h,rfl,fun b hb=>⟨?_,xau (hS.shared b hb).2 hg.size,.inl hb⟩,fun b hb=>?_,fun b p hb=>?_,hg.os,hg.tape,hg.output,hg.size,hblk⟩,⟨#[],rfl,rfl,fun k e hk=>by cases hk⟩,fun q e hq=>?_⟩
   ·exact(if_neg (hne b (hS.shared b hb).1)).trans (hS.shared b hb).1
   ·exact(if_neg (hne b (hS.borrowed b hb).1)).trans (hS.borrowed b hb).1
   ·have hb2:(if b=g then some (1,[])else S.own b)=some p:=hb
    split at hb2
    ·rename_i hbg
     subst hbg
     exact⟨xau (hS.owned b _ q2) hg.size,.inr (by rw[q2];simp)⟩
    ·exact⟨xau (hS.owned b p hb2) hg.size,.inr (by rw[hb2];simp)⟩
   ·have hq':(q,e)=(0,(⟨.slice (.int .i64),.own et .sh,zdq (xs:List Int)⟩:TM)):=by
     rcases xbd.1 hq with h|h
     ·exact h
     ·cases h
    cases hq'
    refine⟨_,rfl,⟨by rw[hsl];exact hxl,by simp[Ty.size],by rw[hhv];simp[zab,Ty.agg],?_⟩,fun h=>by cases h⟩
    obtain⟨_,ho2⟩:=ho
    rcases ho2 with⟨h1,_⟩|⟨g',c',cur',h1,_,h2,h3,h4,h5,h6⟩
    ·cases h1
    ·cases h1
     rw[hhv]
     refine .inr ⟨g,cap,cur',by rw[hsl],if_pos rfl,h2,by rw[hsl];exact h3,h4,by simpa[Ty.size]using h5,fun i hi=>⟨?_,hwr _ (zrb.1 (xbc hi))⟩⟩
     have hi':i<(xs:List Int).length:=by rw[hsl]at hi;exact hi
     have:=xbx (fun l=>l[i]?) h6
     simp only[xdu,xdt,hi',if_true,xcv,xar hi,xcn,xbm]at this
     simpa[Ty.size]using this
end
end Go.X
