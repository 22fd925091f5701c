/- Part 16 of what stands below the statement. -/
import Derived.Test.YtfgjbkjddcjlfaaGreatS15
set_option linter.defProp false
set_option linter.unusedSimpArgs false
set_option linter.unusedVariables false
namespace Go.Proofs.YtfgjbkjddcjlfaaGreat
open Go Go.Proofs Go.X
def zor{α β γ:Type}{f:α→Option (α⊕β)}{k:β→Option γ}{a0:α}{r:Option γ}(st:Nat→α)(p:Nat→Bool)(n:Nat)(bx:Nat→β)(e:β)(h0:st 0=a0)
  (hs:∀i,i<n→(∀j,j<i→p j=false)→f (st i)=if p i then some (.inr (bx i))else some (.inl (st (i+1)))) (he:(∀j,j<n→p j=false)→f (st n)=some (.inr e))
  (h1:∀i,i<n→p i=true→(∀j,j<i→p j=false)→k (bx i)=r) (h2:(∀i,i<n→p i=false)→k e=r):(zad f a0).bind k=r:=by
 have hle:=zdw p n
 by_cases h:zbr p n<n
 ·refine zaa (b:=bx (zbr p n)) st (zbr p n) h0 (fun i hi=>?_) ?_ (h1 _ h (zeh p n h) (zcv p n))
  ·have:=hs i (by omega) (fun j hj=>zcv p n j (by omega))
   rw[zcv p n i hi]at this
   exact this
  ·have:=hs _ h (zcv p n)
   rw[zeh p n h]at this
   exact this
 ·have hall:=(zhw p n).1 h
  refine zaa (b:=e) st n h0 (fun i hi=>?_) (he hall) (h2 hall)
  have:=hs i hi (fun j hj=>hall j (by omega))
  rw[hall i hi]at this
  exact this
def lt_at:∀(i:Nat) (a b:List Int),i<a.length→i<b.length→(∀j,j<i→a.getD j 0=b.getD j 0)→a.getD i 0≠b.getD i 0→(a<b↔a.getD i 0<b.getD i 0)
 |_,[],_,h,_,_,_=>by simp at h
 |_,_::_,[],_,h,_,_=>by simp at h
 | 0,x::a,y::b,_,_,_,hne=>by
  rw[xgd]
  simp only[xef]at hne ⊢
  constructor
  ·rintro(h|⟨h,_⟩)
   ·exact h
   ·exact absurd h hne
  ·exact .inl
 |i+1,x::a,y::b,h1,h2,h3,hne=>by
  rw[xgd]
  have h0:=h3 0 (by omega)
  simp only[xef]at h0
  subst h0
  simp only[xhm]at hne ⊢
  have:=lt_at i a b (by simp at h1;omega) (by simp at h2;omega) (fun j hj=>by have:=h3 (j+1) (by omega);simpa using this) hne
  constructor
  ·rintro(h|⟨_,h⟩)
   ·omega
   ·exact this.1 h
  ·exact fun h=>.inr ⟨by first | rfl | trivial,this.2 h⟩
def lt_end:∀(a b:List Int),(∀j,j<a.length→j<b.length→a.getD j 0=b.getD j 0)→(a<b↔a.length<b.length)
 | [],[],_=>by simp
 | [],y::b,_=>by simp
 |x::a,[],_=>by simp
 |x::a,y::b,h=>by
  have h0:=h 0 (by simp) (by simp)
  simp only[xef]at h0
  subst h0
  have:=lt_end a b fun j h1 h2=>by have:=h (j+1) (by simp;omega) (by simp;omega);simpa using this
  rw[xgd]
  simp only[xaz,Nat.add_lt_add_iff_right]
  rw[←this]
  constructor
  ·rintro(h|⟨_,h⟩)
   ·omega
   ·exact h
  ·exact fun h=>.inr ⟨by first | rfl | trivial,h⟩
def ziq:∀(a b:List Int),a<b∨a=b∨b<a
 | [],[]=>.inr (.inl rfl)
 | [],y::b=>.inl (by simp)
 |x::a,[]=>.inr (.inr (by simp))
 |x::a,y::b=>by
  simp only[xgd]
  rcases xjm x y with h|h|h
  ·exact .inl (.inl h)
  ·subst h
   rcases ziq a b with h|h|h
   ·exact .inl (.inr ⟨rfl,h⟩)
   ·subst h;exact .inr (.inl rfl)
   ·exact .inr (.inr (.inr ⟨rfl,h⟩))
  ·exact .inr (.inr (.inl h))
def zbm:∀(a:List Int),¬a<a
 | []=>by simp
 |x::a=>by
  rw[xgd]
  rintro(h|⟨_,h⟩)
  ·omega
  ·exact zbm a h
def zgw:∀{a b c:List Int},a<b→b<c→a<c
 | [],_,[],_,h=>by simp at h
 | [],_,z::c,_,_=>by simp
 |x::a,[],_,h,_=>by simp at h
 |x::a,y::b,[],_,h=>by simp at h
 |x::a,y::b,z::c,h1,h2=>by
  rw[xgd]at *
  rcases h1 with h1|⟨h1,h3⟩
  ·rcases h2 with h2|⟨h2,_⟩
   ·exact .inl (by omega)
   ·exact .inl (by omega)
  ·rcases h2 with h2|⟨h2,h4⟩
   ·exact .inl (by omega)
   ·exact .inr ⟨by omega,zgw h3 h4⟩
def zgx{a b:List Int}(h:a<b):¬b<a:=fun h'=>zbm a (zgw h h')
def zpg{a b:List Int}(ha:a.length≤281474976710656)(hb:b.length≤281474976710656):d58 a b=some (decide (a<b)):=by
 unfold d58
 refine zaw (fun i=>(a,b,(i:Int))) (fun i=>!decide (a.getD i 0=b.getD i 0)) (min a.length b.length) (fun i=>.inr (decide (a.getD i 0<b.getD i 0))) (.inl (a,b)) rfl (fun i hi=>?_) ?_ (fun i hi hp hj=>?_) (fun hall=>?_)
 ·have h1:(i:Int)<(a.length:Int):=by omega
  have h2:(i:Int)<(b.length:Int):=by omega
  have h3:(0:Int)≤(i:Int):=by omega
  have hw:w ((i:Int)+1)=((i+1:Nat):Int):=by rw[w_id (by omega) (by omega)];omega
  simp only[h1,h2,h3,hw,letJ,xah,xab,xai,xaf]
  by_cases c:a.getD i 0=b.getD i 0
  ·simp only[c];rfl
  ·simp only[c];rfl
 ·simp only[letJ]
  by_cases c:a.length≤b.length
  ·have h1:¬((min a.length b.length:Nat):Int)<(a.length:Int):=by omega
   simp only[h1,xal,xac]
  ·have h1:((min a.length b.length:Nat):Int)<(a.length:Int):=by omega
   have h2:¬((min a.length b.length:Nat):Int)<(b.length:Int):=by omega
   simp only[h1,h2,xah,xal,xab,xac]
 ·have hne:a.getD i 0≠b.getD i 0:=by simpa using hp
  have:=lt_at i a b (by omega) (by omega) (fun j hj'=>by have:=hj j hj';simpa using this) hne
  simp[this]
 ·have:=lt_end a b fun j h1 h2=>by have:=hall j (by omega);simpa using this
  have e:((a.length:Int)<(b.length:Int))↔a<b:=by rw[this];omega
  simp[e]
def d19_eq{a b:List Int}(ha:a.length≤281474976710656)(hb:b.length≤281474976710656):d19 a b=some (decide (a=b)):=by
 unfold d19
 rw[zpg ha hb,zpg hb ha]
 simp only[xaa]
 rcases ziq a b with h|h|h
 ·have:a≠b:=fun e=>zbm a (by rw[←e]at h;exact h)
  simp[h,this]
 ·subst h
  simp[zbm a]
 ·have:a≠b:=fun e=>zbm a (by rw[←e]at h;exact h)
  have h':=zgx h
  simp[h,h',this]
def d71_eq(x y:Int):d71 x y=some (if x<y then -1 else if y<x then 1 else 0):=by
 unfold d71 d119
 by_cases h:x<y
 ·simp[h]
 ·by_cases h':y<x
  ·simp[h,h']
  ·simp[h,h']
def cmpL(a b:List Int):Int:=if a<b then -1 else if b<a then 1 else 0
def d68_eq{a b:List Int}(ha:a.length≤281474976710656)(hb:b.length≤281474976710656):d68 a b=some (cmpL a b):=by
 unfold d68 cmpL
 refine zaw (fun i=>(a,b,a,(a.length:Int),(i:Int))) (fun i=>decide (b.length≤i)|| !decide (a.getD i 0=b.getD i 0)) a.length (fun i=>.inr (if b.length≤i then 1 else if a.getD i 0<b.getD i 0 then -1 else 1)) (.inl (a,b)) rfl (fun i hi=>?_) ?_ (fun i hi hp hj=>?_) (fun hall=>?_)
 ·have h1:(i:Int)<(a.length:Int):=by omega
  have h3:(0:Int)≤(i:Int):=by omega
  have hw:w ((i:Int)+1)=((i+1:Nat):Int):=by rw[w_id (by omega) (by omega)];omega
  simp only[h1,h3,hw,xah,xab,xai,xaf,d71_eq,xaa]
  by_cases c0:b.length≤i
  ·have h2:(b.length:Int)≤(i:Int):=by omega
   simp[h2,c0]
  ·have h2:¬(b.length:Int)≤(i:Int):=by omega
   have h4:(i:Int)<(b.length:Int):=by omega
   simp only[h2,h4,c0,xah,xal,xab,xac,xbf,xbp]
   rcases xjm (a.getD i 0) (b.getD i 0)with h|h|h
   ·have h5:¬a.getD i 0=b.getD i 0:=by omega
    simp only[h,h5,if_true];rfl
   ·have h5:¬a.getD i 0<b.getD i 0:=by omega
    have h6:¬b.getD i 0<a.getD i 0:=by omega
    simp only[h,xbf];simp
   ·have h5:¬a.getD i 0=b.getD i 0:=by omega
    have h6:¬a.getD i 0<b.getD i 0:=by omega
    simp only[h,h5,h6,if_true,xbf];rfl
 ·simp
 ·simp only[xat]
  by_cases c0:b.length≤i
  ·have h1:=lt_end b a fun j h1 h2=>by
    have:=hj j (by omega)
    simp only[xcj,xay,xgv,xam]at this
    exact this.2.symm
   have h2:b<a:=h1.2 (by omega)
   simp[c0,h2,zgx h2]
  ·have heq:∀j,j<i→a.getD j 0=b.getD j 0:=fun j hj'=>by
    have:=hj j hj'
    simp only[xcj,xay,xgv,xam]at this
    exact this.2
   have hne:a.getD i 0≠b.getD i 0:=by simpa[c0]using hp
   have h1:=lt_at i a b hi (by omega) heq hne
   have h2:=lt_at i b a (by omega) hi (fun j hj'=>(heq j hj').symm) (Ne.symm hne)
   simp only[c0,xbf,h1,h2]
   by_cases c:a.getD i 0<b.getD i 0
   ·simp only[c,if_true]
   ·have:b.getD i 0<a.getD i 0:=by omega
    simp only[c,this,if_true,xbf]
 ·have key:∀j,j<a.length→j<b.length∧a.getD j 0=b.getD j 0:=fun j h1=>by
   have:=hall j h1
   simp only[xcj,xay,xgv,xam]at this
   omega
  have h1:=lt_end a b fun j h1 h2=>(key j h1).2
  have h2:=lt_end b a fun j h1 h2=>(key j h2).2.symm
  have h3:a.length≤b.length:=by
   rcases xda a.length with h|h
   ·omega
   ·have:=(key (a.length-1) (by omega)).1;omega
  have h4:¬b<a:=by rw[h2];omega
  simp only[h4,xbf]
  by_cases c:a<b
  ·have:(a.length:Int)<(b.length:Int):=by have:=h1.1 c;omega
   simp[c,this]
  ·have:¬(a.length:Int)<(b.length:Int):=by rw[h1]at c;omega
   simp[c,this]
abbrev Grp:=List Int×Int
def addG:List Grp→List Int→Int→List Grp
 | [],p,k=>[(p,k)]
 |g::gs,p,k=>if g.1<p then g::addG gs p k else if g.1=p then(g.1,g.2+k)::gs else(p,k)::g::gs
def znf(gs:List Grp)(p:List Int):Bool:=gs.all fun g=>decide (g.1<p)
def addG_app:∀(gs:List Grp) (g:Grp) (p:List Int) (k:Int),addG (gs++[g]) p k=if znf gs p then gs++addG [g] p k else addG gs p k++[g]
 | [],g,p,k=>by simp[znf]
 |h::gs,g,p,k=>by
  have ih:=addG_app gs g p k
  unfold znf at ih ⊢
  rw[xca]
  unfold addG
  by_cases c:h.1<p
  ·simp only[c,if_true,ih,xkt,xah,xax]
   by_cases c2:(gs.all fun g=>decide (g.1<p))=true
   ·rw[if_pos c2,if_pos c2]
    simp[addG]
   ·rw[if_neg c2,if_neg c2]
    simp
  ·by_cases c2:h.1=p
   ·have:¬h.1<h.1:=zbm _
    subst c2
    simp[this]
   ·simp[c,c2]
def addG_all{gs:List Grp}{p:List Int}(k:Int)(h:znf gs p=true):addG gs p k=gs++[(p,k)]:=by
 induction gs with
 |nil=>rfl
 |cons g gs ih=>
  unfold znf at h ih
  simp only[xkt,xan,xam]at h
  unfold addG
  simp only[h.1,if_true,ih h.2,xca]
def zdx{α:Type}(l:List α)(d:α){i:Nat}(h:i<l.length):l.take (i+1)=l.take i++[l.getD i d]:=by
 rw[xhb,xar h,zag l d h]
 rfl
def addG_len:∀(gs:List Grp) (p:List Int) (k:Int),(addG gs p k).length≤gs.length+1
 | [],p,k=>by simp[addG]
 |g::gs,p,k=>by
  have:=addG_len gs p k
  unfold addG
  split
  ·simp;omega
  ·split<;>simp
def d60_eq{gs:List Grp}{p:List Int}{k:Int}(hl:gs.length≤1000000)(hp:p.length≤281474976710656)(hk:0≤k∧k≤1000000)(hg:∀g∈gs,g.1.length≤281474976710656∧0≤g.2∧g.2≤1000000):d60 gs p k=some (addG gs p k):=by
 unfold d60
 refine zaa (b:=(p,k,(if znf gs p then gs else addG gs p k),!znf gs p)) (fun i=>(gs,p,k,(if znf (gs.take i) p then gs.take i else addG (gs.take i) p k),!znf (gs.take i) p,(i:Int))) gs.length rfl (fun i hi=>?_) ?_ ?_
 ·have h1:(i:Int)<(gs.length:Int):=by omega
  have h3:(0:Int)≤(i:Int):=by omega
  have hw:w ((i:Int)+1)=((i+1:Nat):Int):=by rw[w_id (by omega) (by omega)];omega
  have hm:gs.getD i ([],0)∈gs:=by rw[zag gs _ hi];exact xbc _
  obtain⟨g1,g2,g3⟩:=hg _ hm
  have ht:=zdx gs ([],0) hi
  have hw2:w ((gs.getD i ([],0)).2+k)=(gs.getD i ([],0)).2+k:=w_id (by omega) (by omega)
  simp only[h1,h3,hw,letJ,xah,xab,xai,xaf]
  generalize gs.getD i ([],0)=g at *
  have hl1:(gs.take i).length≤1000000:=by simp;omega
  have hl2:=addG_len (gs.take i) p k
  have hlim:∀(l:List Grp) (z:Grp),l.length≤1000002→((l.length:Int)+(([z]:List Grp).length:Int)≤LIM):=fun l z h=>by rw[zbv];simp;omega
  have happ:=addG_app (gs.take i) g p k
  have hall:znf (gs.take i++[g]) p=(znf (gs.take i) p&&decide (g.1<p)):=by simp[znf]
  rw[ht,hall,happ]
  generalize gs.take i=T at *
  have e1:∀z,((T.length:Int)+(([z]:List Grp).length:Int)≤LIM):=fun z=>hlim T z (by omega)
  have e2:∀z,(((addG T p k).length:Int)+(([z]:List Grp).length:Int)≤LIM):=fun z=>hlim _ z (by omega)
  have e3:∀z z',(((T++[z']).length:Int)+(([z]:List Grp).length:Int)≤LIM):=fun z z'=>hlim _ z (by simp;omega)
  simp only[zpg g1 hp,d19_eq g1 hp,xaa,hw2]
  cases hT:znf T p
  ·simp only[xaw,xbf,e2,xao,xaq,xac,xbe,xah,xab]
  ·simp only[xaq,xao,xab,xax,if_true]
   by_cases c:g.1<p
   ·simp only[c,e1,xah,xaq,xac,xab,if_true]
   ·by_cases c2:g.1=p
    ·subst c2
     simp only[c,e1,xah,xal,xao,xab,addG,if_true,xbf]
     simp
    ·simp only[c,c2,e1,e3,xah,xal,xao,xab,xac,addG,xbf]
     simp
 ·have h1:¬((gs.length:Int)<(gs.length:Int)):=by omega
  simp only[h1,xal,xac,xbh]
 ·cases hT:znf gs p
  ·simp[letJ]
  ·have hlim:((gs.length:Int)+(([(p,k)]:List Grp).length:Int)≤LIM):=by rw[zbv];simp;omega
   simp only[xaq,xao,xab,letJ,if_true,hlim,xah,addG_all k hT]
def wsum(f:List Int→Int):List Grp→Int
 | []=>0
 |g::gs=>g.2*f g.1+wsum f gs
def zpr(f:List Int→Int):∀(a b:List Grp),wsum f (a++b)=wsum f a+wsum f b
 | [],b=>by simp[wsum]
 |g::a,b=>by
  have:=zpr f a b
  simp only[xca,wsum,this]
  omega
def zql(f:List Int→Int):∀(gs:List Grp) (p:List Int) (k:Int),wsum f (addG gs p k)=wsum f gs+k*f p
 | [],p,k=>by simp[addG,wsum]
 |g::gs,p,k=>by
  have ih:=zql f gs p k
  unfold addG
  split
  ·simp only[wsum,ih];omega
  ·split
   ·rename_i h
    simp only[wsum,h,Int.add_mul];omega
   ·simp only[wsum];omega
def zxa:∀{gs:List Grp} {p:List Int} {k:Int} {g:Grp},g∈addG gs p k→(g.1=p∧(g.2=k∨∃h∈gs,h.1=p∧g.2=h.2+k))∨g∈gs
 | [],p,k,g,h=>by
  simp[addG]at h
  exact .inl ⟨by rw[h],.inl (by rw[h])⟩
 |a::gs,p,k,g,h=>by
  unfold addG at h
  split at h
  ·rcases xbd.1 h with h|h
   ·exact .inr (by simp[h])
   ·rcases zxa h with⟨h1,h2⟩|h1
    ·refine .inl ⟨h1,h2.imp id fun⟨x,h3,h4⟩=>⟨x,xap _ h3,h4⟩⟩
    ·exact .inr (xap _ h1)
  ·split at h
   ·rename_i hp
    rcases xbd.1 h with h|h
    ·exact .inl ⟨by rw[h];exact hp,.inr ⟨a,by simp,hp,by rw[h]⟩⟩
    ·exact .inr (xap _ h)
   ·rcases xbd.1 h with h|h
    ·exact .inl ⟨by rw[h],.inl (by rw[h])⟩
    ·exact .inr h
def zns(gs:List Grp):Prop:=gs.Pairwise fun g h=>g.1<h.1
def ztd:∀{gs:List Grp} (p:List Int) (k:Int),zns gs→zns (addG gs p k)
 | [],p,k,_=>by simp[addG,zns]
 |a::gs,p,k,h=>by
  unfold zns at h
  rw[xdr]at h
  unfold addG
  split
  ·rename_i hlt
   refine xdr.2 ⟨fun g hg=>?_,ztd p k h.2⟩
   rcases zxa hg with⟨h1,_⟩|h1
   ·rw[h1];exact hlt
   ·exact h.1 g h1
  ·rename_i hlt
   split
   ·exact xdr.2 ⟨fun g hg=>h.1 g hg,h.2⟩
   ·rename_i hne
    have hp:p<a.1:=by
     rcases ziq a.1 p with h|h|h
     ·exact absurd h hlt
     ·exact absurd h hne
     ·exact h
    refine xdr.2 ⟨fun g hg=>?_,xdr.2 h⟩
    rcases xbd.1 hg with rfl|hg
    ·exact hp
    ·exact zgw hp (h.1 g hg)
structure PileOK(n:Int)(gs:List Grp)(N:Int):Prop where
 ballots:∀g∈gs,isB n g.1∧1≤g.2
 sorted:zns gs
 total:wsum (fun _=>1) gs=N
 most:N≤100000
def zga{n:Int}:∀{gs:List Grp},(∀g∈gs,isB n g.1∧1≤g.2)→∀{f:List Int→Int},(∀p,0≤f p∧f p≤1)→0≤wsum f gs∧wsum f gs≤wsum (fun _=>1) gs
 | [],_,f,_=>by simp[wsum]
 |g::gs,h,f,hf=>by
  have ih:=zga (gs:=gs) (fun x hx=>h x (xap _ hx)) hf
  have h1:=(h g (by simp)).2
  have h2:=hf g.1
  have h3:0≤g.2*f g.1:=Int.mul_nonneg (by omega) h2.1
  have h4:g.2*f g.1≤g.2*1:=Int.mul_le_mul_of_nonneg_left h2.2 (by omega)
  simp only[wsum]
  omega
def zvx{n:Int}:∀{gs:List Grp},(∀g∈gs,isB n g.1∧1≤g.2)→∀g∈gs,g.2≤wsum (fun _=>1) gs
 | [],_,g,hg=>by cases hg
 |a::gs,h,g,hg=>by
  have h0:=(zga (n:=n) (gs:=gs) (fun x hx=>h x (xap _ hx)) (f:=fun _=>1) (fun _=>by omega)).1
  have h1:=(h a (by simp)).2
  simp only[wsum]
  rcases xbd.1 hg with rfl|hg
  ·omega
  ·have:=zvx (n:=n) (gs:=gs) (fun x hx=>h x (xap _ hx)) g hg
   omega
def zpu{n:Int}:∀{gs:List Grp},(∀g∈gs,isB n g.1∧1≤g.2)→(gs.length:Int)≤wsum (fun _=>1) gs
 | [],_=>by simp[wsum]
 |a::gs,h=>by
  have h1:=(h a (by simp)).2
  have:=zpu (n:=n) (gs:=gs) (fun x hx=>h x (xap _ hx))
  simp only[wsum,xaz]
  omega
def zby:∀(n:Nat) (l:List Int),l.Nodup→(∀x∈l,0≤x∧x<(n:Int))→l.length≤n
 | 0,l,_,h=>by
  cases l with
  |nil=>simp
  |cons x l=>have:=h x (by simp);omega
 |n+1,l,hd,h=>by
  by_cases hm:(n:Int)∈l
  ·have h1:=zby n (l.erase (n:Int)) (hd.erase _) fun x hx=>by
    have h2:=(hd.mem_erase_iff).1 hx
    have:=h x h2.2
    have:=h2.1
    omega
   rw[List.length_erase_of_mem hm]at h1
   omega
  ·have:=zby n l hd fun x hx=>by
    have h1:=h x hx
    have:x≠(n:Int):=fun e=>hm (e▸hx)
    omega
   omega
def zfe{n:Int}{l:List Int}(h:isB n l)(hn:n≤7):l.length≤7:=zby 7 l h.1 fun x hx=>by have:=h.2 x hx;omega
def PileOK.add{n:Int}{gs:List Grp}{N:Int}(h:PileOK n gs N){p:List Int}(hp:isB n p)(hN:N+1≤100000):PileOK n (addG gs p 1) (N+1) where
 ballots:=fun g hg=>by
  rcases zxa hg with⟨h1,h2⟩|h1
  ·refine⟨by rw[h1];exact hp,?_⟩
   rcases h2 with h2|⟨x,hx,_,h2⟩
   ·omega
   ·have:=(h.ballots x hx).2;omega
  ·exact h.ballots g h1
 sorted:=ztd _ _ h.sorted
 total:=by rw[zql,h.total];omega
 most:=hN
def PileOK.nil(n:Int):PileOK n [] 0:=⟨fun _ hg=>absurd hg (by simp),List.Pairwise.nil,rfl,by omega⟩
def PileOK.d60{n:Int}{gs:List Grp}{N:Int}(h:PileOK n gs N)(hn:n≤7){p:List Int}(hp:isB n p):d60 gs p 1=some (addG gs p 1):=by
 have h1:=zpu h.ballots
 have h2:=h.total
 have h3:=h.most
 refine d60_eq (by omega) (by have:=zfe hp hn;omega) (by omega) fun g hg=>?_
 have h4:=zvx h.ballots g hg
 have h5:=h.ballots g hg
 have:=zfe h5.1 hn
 omega
def d121_eq{n:Int}(hn:n≤7){l:List Int}(hl:l.length≤281474976710656):d121 n l=some (decide (isB n l)):=by
 unfold d121
 refine zaw (fun i=>(n,zox l i,l,(l.length:Int),(i:Int))) (fun i=>decide (l.getD i 0<0)||(decide (n≤l.getD i 0)||(zox l i).getD (Int.toNat (l.getD i 0)) false)) l.length (fun _=>.inr false) (.inl ()) rfl (fun i hi=>?_) ?_ (fun i hi hp hj=>?_) (fun hall=>?_)
 ·have h2:(i:Int)<(l.length:Int):=by omega
  have h3:(0:Int)≤(i:Int):=by omega
  have hw:w ((i:Int)+1)=((i+1:Nat):Int):=by rw[w_id (by omega) (by omega)];omega
  simp only[h2,h3,letJ,xah,xab,xai,xaf,hw]
  by_cases c1:l.getD i 0<0
  ·simp only[c1];rfl
  ·by_cases c2:n≤l.getD i 0
   ·simp only[c1,c2];rfl
   ·have c3:0≤l.getD i 0:=by omega
    have c4:l.getD i 0<7:=by omega
    simp only[c1,c2,c3,c4]
    cases(zox l i).getD (Int.toNat (l.getD i 0)) false<;>rfl
 ·simp
 ·have:¬isB n l:=fun h=>by
   have hb:=(zjz n l).1 h
   have h1:=hb i hi
   have h2:=zri l i (by omega) (fun j hj=>by have:=hb j (by omega);omega) (Int.toNat (l.getD i 0)) (by omega)
   rw[show((l.getD i 0).toNat:Int)=l.getD i 0 by omega]at h2
   rw[h2]at hp
   simp only[xdj,xam]at hp
   rcases hp with hp|hp|hp
   ·omega
   ·omega
   ·exact h1.2.2 hp
  simp[this]
 ·have hb:∀i,i<l.length→0≤l.getD i 0∧l.getD i 0<n:=fun i hi=>by
   have:=hall i hi
   simp only[xcj,xay]at this
   omega
  have:isB n l:=(zjz n l).2 fun i hi=>by
   have h1:=hb i hi
   have h0:=hall i hi
   simp only[xcj,xay]at h0
   have h2:=zri l i (by omega) (fun j hj=>by have:=hb j (by omega);omega) (Int.toNat (l.getD i 0)) (by omega)
   rw[show((l.getD i 0).toNat:Int)=l.getD i 0 by omega,h0.2.2]at h2
   exact⟨h1.1,h1.2,fun hm=>xee h2.symm hm⟩
  simp[this]
def tot(gs:List Grp)(i:Nat):Int:=wsum (fun _=>1) (gs.take i)
def badG(n:Int)(gs:List Grp)(i:Nat):Bool:=decide ((gs.getD i ([],0)).2<1)||(decide (100000-tot gs i<(gs.getD i ([],0)).2)||(!decide (isB n (gs.getD i ([],0)).1)||(decide (0<i)&&decide (0≤cmpL (gs.getD (i-1) ([],0)).1 (gs.getD i ([],0)).1))))
def zcp(f:List Int→Int)(gs:List Grp){i:Nat}(h:i<gs.length):wsum f (gs.take (i+1))=wsum f (gs.take i)+(gs.getD i ([],0)).2*f (gs.getD i ([],0)).1:=by
 rw[zdx gs ([],0) h,zpr]
 simp[wsum]
def zkm{n:Int}{gs:List Grp}:∀{i:Nat},i≤gs.length→(∀j,j<i→badG n gs j=false)→0≤tot gs i∧tot gs i≤100000
 | 0,_,_=>by simp[tot,wsum]
 |i+1,h,hb=>by
  have ih:=zkm (n:=n) (gs:=gs) (i:=i) (by omega) fun j hj=>hb j (by omega)
  have h1:=hb i (by omega)
  unfold badG at h1
  simp only[xcj,xay]at h1
  have h2:tot gs (i+1)=tot gs i+(gs.getD i ([],0)).2*1:=zcp _ gs (by omega)
  omega
def d77_eq{n:Int}(hn:n≤7){gs:List Grp}(hl:gs.length≤281474976710656)(hg:∀g∈gs,g.1.length≤281474976710656∧-9223372036854775808≤g.2∧g.2≤9223372036854775807):d77 n gs=some (decide (∀i,i<gs.length→badG n gs i=false)):=by
 unfold d77
 have hgi:∀i,i<gs.length→(gs.getD i ([],0)).1.length≤281474976710656:=fun i hi=>by
  rw[zag gs _ hi]
  exact(hg _ (xbc _)).1
 refine zor (fun i=>(n,gs,tot gs i,gs,(gs.length:Int),(i:Int))) (badG n gs) gs.length (fun _=>.inr false) (.inl ()) rfl (fun i hi hj=>?_) (fun _=>?_) (fun i hi hp hj=>?_) (fun hall=>?_)
 ·have h2:(i:Int)<(gs.length:Int):=by omega
  have h3:(0:Int)≤(i:Int):=by omega
  have hw:w ((i:Int)+1)=((i+1:Nat):Int):=by rw[w_id (by omega) (by omega)];omega
  have ht:=zkm (n:=n) (gs:=gs) (i:=i) (by omega) hj
  have hw2:w (100000-tot gs i)=100000-tot gs i:=w_id (by omega) (by omega)
  have hgl:=hgi i hi
  have hgp:=hgi (i-1) (by omega)
  have hts:tot gs (i+1)=tot gs i+(gs.getD i ([],0)).2*1:=zcp _ gs (by omega)
  have hw3:1≤(gs.getD i ([],0)).2→(gs.getD i ([],0)).2≤100000-tot gs i→w (tot gs i+(gs.getD i ([],0)).2)=tot gs (i+1):=fun a b=>by rw[w_id (by omega) (by omega)];omega
  have hb:badG n gs i=(decide ((gs.getD i ([],0)).2<1)||(decide (100000-tot gs i<(gs.getD i ([],0)).2)||(!decide (isB n (gs.getD i ([],0)).1)||(decide (0<i)&&decide (0≤cmpL (gs.getD (i-1) ([],0)).1 (gs.getD i ([],0)).1))))):=rfl
  rw[hb]
  simp only[h2,h3,letJ,xah,xab,xai,xaf,hw,hw2]
  rw[d121_eq hn hgl]
  obtain⟨g,hgd⟩:∃g,gs.getD i ([],0)=g:=⟨_,rfl⟩
  simp only[hgd]at hgl hts hw3 ⊢
  by_cases c1:g.2<1
  ·simp only[c1];rfl
  ·by_cases c2:100000-tot gs i<g.2
   ·simp only[c1,c2];rfl
   ·rw[hw3 (by omega) (by omega)]
    by_cases c3:isB n g.1
    ·by_cases c4:0<i
     ·have c5:(0:Int)<(i:Int):=by omega
      have hwp:w ((i:Int)-1)=((i-1:Nat):Int):=by rw[w_id (by omega) (by omega)];omega
      have h5:(0:Int)≤((i-1:Nat):Int):=by omega
      have h6:((i-1:Nat):Int)<(gs.length:Int):=by omega
      simp only[c1,c2,c3,c4,c5,hwp,h5,h6,xaf,d68_eq hgp hgl,xaa,xah,xal,xaq,xao,xab,xac,xai,xax,xbp]
      cases decide (0≤cmpL (gs.getD (i-1) ([],0)).1 g.1)<;>rfl
     ·have c5:¬(0:Int)<(i:Int):=by omega
      simp only[c1,c2,c3,c4,c5];rfl
    ·simp only[c1,c2,c3];rfl
 ·simp
 ·have:¬∀i,i<gs.length→badG n gs i=false:=fun h=>by rw[h i hi]at hp;cases hp
  simp[this]
 ·have:∀i,i<gs.length→badG n gs i=false:=hall
  simp only[xag this]
def PileOK.good{n:Int}{gs:List Grp}{N:Int}(h:PileOK n gs N):∀i,i<gs.length→badG n gs i=false:=fun i hi=>by
 have hm:gs.getD i ([],0)∈gs:=by rw[zag gs _ hi];exact xbc _
 have h1:=h.ballots _ hm
 have h2:tot gs (i+1)=tot gs i+(gs.getD i ([],0)).2*1:=zcp _ gs hi
 have h3:wsum (fun _=>1) gs=tot gs (i+1)+wsum (fun _=>1) (gs.drop (i+1)):=by
  unfold tot
  rw[←zpr,xez]
 have h4:=(zga (n:=n) (gs:=gs.drop (i+1)) (fun x hx=>h.ballots x (xgi hx)) (f:=fun _=>1) (fun _=>by omega)).1
 have h5:=h.total
 have h6:=h.most
 unfold badG
 have c1:¬(gs.getD i ([],0)).2<1:=by omega
 have c2:¬100000-tot gs i<(gs.getD i ([],0)).2:=by omega
 simp only[c1,c2,h1.1,xah,xal,xaq,xbp]
 by_cases c3:0<i
 ·have h7:(gs.getD (i-1) ([],0)).1<(gs.getD i ([],0)).1:=by
   rw[zag gs _ hi,zag gs _ (by omega:i-1<gs.length)]
   exact xej.1 h.sorted (i-1) i (by omega) hi (by omega)
  have c4:cmpL (gs.getD (i-1) ([],0)).1 (gs.getD i ([],0)).1=-1:=if_pos h7
  rw[c4]
  simp
 ·simp[c3]
def PileOK.sizes{n:Int}{gs:List Grp}{N:Int}(h:PileOK n gs N)(hn:n≤7):gs.length≤100000∧∀g∈gs,g.1.length≤7∧1≤g.2∧g.2≤100000:=by
 have h1:=zpu h.ballots
 have h2:=h.total
 have h3:=h.most
 refine⟨by omega,fun g hg=>?_⟩
 have h4:=zvx h.ballots g hg
 have h5:=h.ballots g hg
 exact⟨zfe h5.1 hn,by omega,by omega⟩
def PileOK.d77{n:Int}{gs:List Grp}{N:Int}(h:PileOK n gs N)(hn:n≤7):d77 n gs=some true:=by
 obtain⟨h1,h2⟩:=h.sizes hn
 rw[d77_eq hn (by omega) fun g hg=>by have:=h2 g hg;omega]
 rw[xag h.good]
def PileOK.wide{n:Int}{gs:List Grp}{N:Int}(h:PileOK n gs N)(hn:n≤7):PileOK 7 gs N where
 ballots:=fun g hg=>by
  have:=h.ballots g hg
  exact⟨⟨this.1.1,fun x hx=>by have:=this.1.2 x hx;omega⟩,this.2⟩
 sorted:=h.sorted
 total:=h.total
 most:=h.most
def PileOK.d89{n:Int}{gs:List Grp}{N:Int}(h:PileOK n gs N)(hn:n≤7):d89 gs=some true:=by
 unfold Go.Proofs.YtfgjbkjddcjlfaaGreat.d89
 rw[(h.wide hn).d77 (by omega)]
 rfl
def PileOK.part{n:Int}{gs:List Grp}{N:Int}(h:PileOK n gs N){f:List Int→Int}(hf:∀p,0≤f p∧f p≤1)(i:Nat):0≤wsum f (gs.take i)∧wsum f (gs.take i)≤100000:=by
 have h1:=zga (n:=n) (gs:=gs.take i) (fun x hx=>h.ballots x (xcq hx)) hf
 have h2:=zga (n:=n) (gs:=gs.drop i) (fun x hx=>h.ballots x (xgi hx)) (f:=fun _=>1) (fun _=>by omega)
 have h3:wsum (fun _=>1) gs=wsum (fun _=>1) (gs.take i)+wsum (fun _=>1) (gs.drop i):=by rw[←zpr,xez]
 have h4:=h.total
 have h5:=h.most
 omega
def zcu(c:Int)(p:List Int):Int:=if p≠ []∧p.getD 0 0=c then 1 else 0
def zcb(a b:Int)(p:List Int):Int:=
 let x:=zac (fun z=>decide (a=z)) p
 let y:=zac (fun z=>decide (b=z)) p
 if x<p.length∧(p.length≤y∨x<y)then 1 else 0
def zao(p:List Int):Int:=if p=[]then 0 else 1
def PileOK.d48{n:Int}{gs:List Grp}{N:Int}(h:PileOK n gs N)(hn:n≤7):d48 gs=some (wsum zao gs):=by
 obtain⟨hl,hg⟩:=h.sizes hn
 have hf:∀p,0≤zao p∧zao p≤1:=fun p=>by unfold zao;split<;>omega
 unfold Go.Proofs.YtfgjbkjddcjlfaaGreat.d48
 rw[h.d89 hn]
 simp only[xaa,xaq,xac]
 have:d90 gs (fun a=>d92 a)=some (wsum zao gs):=by
  unfold d90
  refine zaa (b:=wsum zao gs) (fun i=>(fun a=>d92 a,wsum zao (gs.take i),gs,(gs.length:Int),(i:Int))) gs.length rfl (fun i hi=>?_) ?_ rfl
  ·have h2:(i:Int)<(gs.length:Int):=by omega
   have h3:(0:Int)≤(i:Int):=by omega
   have hw:w ((i:Int)+1)=((i+1:Nat):Int):=by rw[w_id (by omega) (by omega)];omega
   have e:=zcp zao gs hi
   have b0:=h.part hf i
   have b1:=h.part hf (i+1)
   simp only[h2,h3,hw,xah,xab,xai,xaf]
   obtain⟨g,hgd⟩:∃g,gs.getD i ([],0)=g:=⟨_,rfl⟩
   simp only[hgd]at e ⊢
   obtain⟨p,k⟩:=g
   unfold d92
   simp only at e ⊢
   match p with
   | []=>
    have h0:zao []=0:=by simp[zao]
    rw[h0]at e
    have hw2:w (wsum zao (gs.take i)+0)=wsum zao (gs.take (i+1)):=by rw[w_id (by omega) (by omega)];omega
    simp only[xde,Int.ofNat_zero,xah,xab,xaa,hw2]
   |y::p=>
    have h0:zao (y::p)=1:=by simp[zao]
    rw[h0]at e
    have h4:¬((((y::p).length:Nat):Int)=0):=by simp;omega
    have hw2:w (wsum zao (gs.take i)+k)=wsum zao (gs.take (i+1)):=by rw[w_id (by omega) (by omega)];omega
    simp only[h4,xal,xac,xaa,hw2]
  ·have h1:¬((gs.length:Int)<(gs.length:Int)):=by omega
   simp only[h1,xal,xac,xbh]
 rw[this]
 rfl
def rem(r:List Bool)(c:Int):Bool:=if c<(r.length:Int)then r.getD (Int.toNat c) false else false
def d107_eq(r:List Bool){c:Int}(hc:0≤c):d107 c r=some (rem r c):=by
 unfold d107 d108 rem
 by_cases h:c<(r.length:Int)
 ·simp only[h,hc,if_true,xah,xab,xai,xaa]
 ·simp only[h,xbf,xal,xac,xaa]
def zgd{p q:Int→Bool}:∀{l:List Int},(∀x∈l,p x=q x)→zac p l=zac q l
 | [],_=>rfl
 |x::l,h=>by
  unfold zac
  rw[h x (by simp),zgd fun y hy=>h y (xap _ hy)]
def d55_on{s:List Int}{f:Int→Option Bool}{g:Int→Bool}(hf:∀c∈s,f c=some (g c))(hs:s.length≤281474976710656):d55 s f=some (if zac g s<s.length then(zac g s:Int)else -1):=by
 have hle:=zet g s
 unfold d55
 have hstep:∀i,i<zac g s→w ((i:Int)+1)=((i+1:Nat):Int):=fun i hi=>by rw[w_id (by omega) (by omega)];omega
 have hfi:∀i,i<s.length→f (s.getD i 0)=some (g (s.getD i 0)):=fun i hi=>by rw[zag s 0 hi];exact hf _ (xbc _)
 by_cases h:zac g s<s.length
 ·have hat:=zdh _ s h
  refine zaa (b:=.inr (zac g s:Int)) (fun i=>(s,f,(s.length:Int),(i:Int))) (zac g s) rfl ?_ ?_ (by simp[h])
  ·intro i hi
   have h1:=zcw g s i hi
   have h2:(i:Int)<(s.length:Int):=by omega
   have h3:(0:Int)≤(i:Int):=by omega
   simp only[h2,h3,xah,xab,xai,xaf,hfi i (by omega),h1,xaa,hstep i hi,xac]
  ·have h2:(zac g s:Int)<(s.length:Int):=by omega
   have h3:(0:Int)≤(zac g s:Int):=by omega
   simp only[h2,h3,xah,xab,xai,xaf,hfi _ h,hat,xaa]
 ·refine zaa (b:=.inl ()) (fun i=>(s,f,(s.length:Int),(i:Int))) s.length rfl ?_ ?_ (by simp[h])
  ·intro i hi
   have h1:=zcw g s i (by omega)
   have h2:(i:Int)<(s.length:Int):=by omega
   have h3:(0:Int)≤(i:Int):=by omega
   simp only[h2,h3,xah,xab,xai,xaf,hfi i (by omega),h1,xaa,hstep i (by omega),xac]
  ·simp
def zdk(r:List Bool)(c:Int)(p:List Int):Int:=if zac (rem r) p<p.length∧p.getD (zac (rem r) p) 0=c then 1 else 0
def zap(r:List Bool)(gs:List Grp):List Int:=(List.range r.length).map fun(c:Nat)=>wsum (zdk r (c:Int)) gs
def zem(r:List Bool)(gs:List Grp):(zap r gs).length=r.length:=by simp[zap]
def zgm(r:List Bool)(gs:List Grp){c:Nat}(h:c<r.length):(zap r gs).getD c 0=wsum (zdk r (c:Int)) gs:=by
 rw[zag _ _ (by rw[zem];exact h)]
 simp[zap]
def zds(r:List Bool)(p:List Int):Int:=if zac (rem r) p<p.length then 0 else 1
def PileOK.d52{n:Int}{gs:List Grp}{N:Int}(h:PileOK n gs N)(hn:n≤7){r:List Bool}(hr:r.length≤7):d52 gs r=some (zap r gs,wsum (zds r) gs):=by
 obtain⟨hl,hg⟩:=h.sizes hn
 have hf:∀c p,0≤zdk r c p∧zdk r c p≤1:=fun c p=>by unfold zdk;split<;>omega
 have hf0:∀p,0≤zds r p∧zds r p≤1:=fun p=>by unfold zds;split<;>omega
 unfold Go.Proofs.YtfgjbkjddcjlfaaGreat.d52
 rw[h.d89 hn]
 have hr1:¬(7:Int)<(r.length:Int):=by omega
 have hr2:(r.length:Int)≤LIM:=by rw[zbv];omega
 have hr3:(0:Int)≤(r.length:Int):=by omega
 simp only[xaa,xaq,xao,xab,hr1,hr2,hr3,xah,xal,letJ,xac,xai,xaf]
 refine zaa (b:=(zap r gs,wsum (zds r) gs)) (fun i=>(r,zap r (gs.take i),wsum (zds r) (gs.take i),gs,(gs.length:Int),(i:Int))) gs.length ?_ (fun i hi=>?_) ?_ rfl
 ·have:zap r (gs.take 0)=List.replicate r.length 0:=by
   apply xfq
   ·simp[zap]
   ·intro i h1 h2
    simp[zap,wsum]
  simp only[this]
  rfl
 ·have h2:(i:Int)<(gs.length:Int):=by omega
  have h3:(0:Int)≤(i:Int):=by omega
  have hw:w ((i:Int)+1)=((i+1:Nat):Int):=by rw[w_id (by omega) (by omega)];omega
  have e:∀f,wsum f (gs.take (i+1))=wsum f (gs.take i)+(gs.getD i ([],0)).2*f (gs.getD i ([],0)).1:=fun f=>zcp f gs hi
  have b0:=h.part hf0 i
  have b1:=h.part hf0 (i+1)
  have b2:=fun c=>h.part (hf c) i
  have b3:=fun c=>h.part (hf c) (i+1)
  have hm:gs.getD i ([],0)∈gs:=by rw[zag gs _ hi];exact xbc _
  have hgl:=(hg _ hm).1
  have hgb:=(h.ballots _ hm).1
  simp only[h2,h3,hw,xah,xab,xai,xaf]
  obtain⟨g,hgd⟩:∃g,gs.getD i ([],0)=g:=⟨_,rfl⟩
  simp only[hgd]at e hgl hgb ⊢
  obtain⟨p,k⟩:=g
  simp only at e hgl hgb ⊢
  rw[d55_on (g:=rem r) (fun c hc=>d107_eq r (hgb.2 c hc).1) (by omega)]
  simp only[xaa]
  by_cases c1:zac (rem r) p<p.length
  ·have hx:=zdh (rem r) p c1
   have c2:¬(zac (rem r) p:Int)<0:=by omega
   have c3:(0:Int)≤(zac (rem r) p:Int):=by omega
   have c4:(zac (rem r) p:Int)<(p.length:Int):=by omega
   have hxm:p.getD (zac (rem r) p) 0∈p:=by rw[zag p 0 c1];exact xbc _
   have hx0:=(hgb.2 _ hxm).1
   simp only[c1,c2,c3,c4,if_true,xah,xal,xab,xac,xai,xaf]
   have ht:∀c,zdk r c p=if p.getD (zac (rem r) p) 0=c then 1 else 0:=fun c=>by unfold zdk;simp only[c1,xgt]
   have hn0:zds r p=0:=by unfold zds;rw[if_pos c1]
   generalize p.getD (zac (rem r) p) 0=x at *
   have hxr:x<(r.length:Int):=by
    unfold rem at hx
    split at hx
    ·assumption
    ·cases hx
   have hv:(zap r (gs.take i)).getD (Int.toNat x) 0=wsum (zdk r x) (gs.take i):=by
    rw[zgm r _ (by omega),show((Int.toNat x:Nat):Int)=x by omega]
   have ex:=e (zdk r x)
   rw[ht x,if_pos rfl]at ex
   have bx0:=b2 x
   have bx1:=b3 x
   have hw2:w (wsum (zdk r x) (gs.take i)+k)=wsum (zdk r x) (gs.take (i+1)):=by rw[w_id (by omega) (by omega)];omega
   have hset:(zap r (gs.take i)).set (Int.toNat x) (wsum (zdk r x) (gs.take (i+1)))=zap r (gs.take (i+1)):=by
    apply xfq
    ·simp[zap]
    ·intro j h1 h2
     rw[List.getElem_set]
     by_cases hj:Int.toNat x=j
     ·rw[if_pos hj]
      simp only[zap,xju,xiy]
      rw[show(j:Int)=x by omega]
     ·rw[if_neg hj]
      simp only[zap,xju,xiy]
      have ej:=e (zdk r (j:Int))
      rw[ht (j:Int),if_neg (by omega)]at ej
      omega
   have e0:=e (zds r)
   rw[hn0]at e0
   have e0':wsum (zds r) (gs.take (i+1))=wsum (zds r) (gs.take i):=by omega
   simp only[zem,hx0,hxr,xah,xab,xai,hv,hw2,hset,e0']
  ·have c2:(-1:Int)<0:=by omega
   have hn1:zds r p=1:=by unfold zds;rw[if_neg c1]
   have e0:=e (zds r)
   rw[hn1]at e0
   have hw2:w (wsum (zds r) (gs.take i)+k)=wsum (zds r) (gs.take (i+1)):=by rw[w_id (by omega) (by omega)];omega
   have hv:zap r (gs.take (i+1))=zap r (gs.take i):=by
    unfold zap
    refine xfz fun c _=>?_
    have ec:=e (zdk r (c:Int))
    have:zdk r (c:Int) p=0:=by unfold zdk;simp only[c1,xjg,xbf]
    rw[this]at ec
    omega
   simp only[c1,c2,xbf,xah,xab,hw2,hv]
 ·have h1:¬((gs.length:Int)<(gs.length:Int)):=by omega
  simp only[h1,xal,xac,xbh]
def zkz(n:Nat)(m:List Int):Nat→List Bool
 | 0=>List.replicate n false
 |i+1=>(zkz n m i).set (Int.toNat (m.getD i 0)) true
def zjr(n:Nat)(m:List Int):∀i,(zkz n m i).length=n
 | 0=>by simp[zkz]
 |i+1=>by unfold zkz;rw[xcd];exact zjr n m i
def rem_remOf(n:Nat)(m:List Int)(hb:∀x∈m,0≤x∧x<(n:Int)){c:Int}(hc:0≤c∧c<(n:Int)):∀i,i≤m.length→rem (zkz n m i) c=decide (c∈m.take i)
 | 0,_=>by
  have:c<((List.replicate n false).length:Int):=by simp;omega
  unfold rem zkz
  rw[if_pos this,zag _ _ (by simp;omega)]
  simp
 |i+1,hi=>by
  have ih:=rem_remOf n m hb hc i (by omega)
  have hl:=zjr n m i
  have hl':=zjr n m (i+1)
  have hx:=hb (m.getD i 0) (by rw[zag m 0 (by omega)];exact xbc _)
  rw[xff,xgc]at ih
  unfold rem at ih ⊢
  rw[hl,if_pos (by omega)]at ih
  rw[hl',if_pos (by omega),xff,xgc,zdx m 0 (by omega),xbq,←ih]
  rw[show zkz n m (i+1)=(zkz n m i).set (Int.toNat (m.getD i 0)) true from rfl,xae,xfw,hl]
  generalize m.getD i 0=x at hx
  by_cases e:x.toNat=c.toNat
  ·have e':c=x:=by omega
   rw[if_pos e,if_pos (by omega)]
   simp[e']
  ·have e':¬c=x:=fun h=>e (by rw[h])
   rw[if_neg e]
   simp[e',xae]
def zde(m:List Int)(c:Int)(p:List Int):Int:=if zac (fun x=>decide (x∈m)) p<p.length∧p.getD (zac (fun x=>decide (x∈m)) p) 0=c then 1 else 0
def zgh{f g:List Int→Int}:∀{gs:List Grp},(∀x∈gs,f x.1=g x.1)→wsum f gs=wsum g gs
 | [],_=>rfl
 |a::gs,h=>by
  unfold wsum
  rw[h a (by simp),zgh fun x hx=>h x (xap _ hx)]
def valid_wide{n:Int}(hn:n≤7){a:Asn}(h:zar n a=true):zar 7 a=true:=by
 have hw:=zlw h
 have hk:=zfb h
 unfold zar at h ⊢
 simp only[xan,xdw,xay]at h ⊢
 obtain⟨_,h⟩:=h
 refine⟨by omega,?_⟩
 rcases hk with k|k|k
 ·simp only[k,if_true]at h ⊢;exact h
 ·simp only[k,if_true,xbf,show ¬(2:Int)=1 by omega,xan]at h ⊢
  obtain⟨⟨⟨h1,h2⟩,h3⟩,h4⟩:=h
  refine⟨⟨⟨h1,?_⟩,h3⟩,h4⟩
  rw[zoo]at h2 ⊢
  exact⟨h2.1,fun x hx=>by have:=h2.2 x hx;omega⟩
 ·simp only[k,if_true,xbf,show ¬(3:Int)=1 by omega,show ¬(3:Int)=2 by omega]at h ⊢
  exact h
def valid_among{n:Int}{a:Asn}(h:zar n a=true)(k:a.1=2):∀x∈a.2.2.2.1,0≤x∧x<n:=by
 unfold zar at h
 simp only[k,if_true,xbf,show ¬(2:Int)=1 by omega,xan]at h
 exact((zoo _ _).1 h.2.1.1.2).2
def mk_valid{n k a b m q:Int}(hn:2≤n)(hn':n≤7):zar n (mk n k a b m q)=true:=by
 have b1:=zbf k (n:=3) (by omega)
 have b2:=zbf a (n:=n) (by omega)
 have b3:=zbf q (n:=5) (by omega)
 have b4:=zbf b (n:=n-1) (by omega)
 have b6:=zbf (a%n+1+b%(n-1)) (n:=n) (by omega)
 have hne:a%n≠(a%n+1+b%(n-1))%n:=by
  generalize a%n=A at *
  generalize b%(n-1)=B at *
  rcases Int.lt_or_le (A+1+B) n with h|h
  ·rw[Int.emod_eq_of_lt (by omega) h];omega
  ·have:(A+1+B)%n=A+1+B-n:=by
    rw[←Int.sub_emod_right,Int.emod_eq_of_lt (by omega) (by omega)]
   rw[this];omega
 unfold mk
 generalize a%n=A at *
 generalize(A+1+b%(n-1))%n=B at *
 have c0:¬n<1:=by omega
 have c0':¬7<n:=by omega
 have c1:¬A<0:=by omega
 have c2:¬n≤A:=by omega
 have c3:¬B<0:=by omega
 have c4:¬n≤B:=by omega
 have c5:¬n≤0:=by omega
 by_cases k3:1+k%3=3
 ·rw[if_pos k3]
  unfold zar
  have d1:2≤2+q%5:=by omega
  have d2:2+q%5≤6:=by omega
  simp[c0,c0',c1,c2,c5,d2]
  omega
 ·rw[if_neg k3]
  by_cases k2:1+k%3=2
  ·rw[if_pos k2]
   have hl:=amL_lt A B (m%128) n.toNat
   have hA:A∈amL A B (m%128) n.toNat:=by
    have:=amL_mem A B (m%128) n.toNat A.toNat (by omega) (.inl (by omega))
    rwa[show((A.toNat:Nat):Int)=A by omega]at this
   have hB:B∈amL A B (m%128) n.toNat:=by
    have:=amL_mem A B (m%128) n.toNat B.toNat (by omega) (.inr (by omega))
    rwa[show((B.toNat:Nat):Int)=B by omega]at this
   have hs:asc n (amL A B (m%128) n.toNat)=true:=znc (zop A B (m%128) n.toNat) fun x hx=>by have:=hl.2 x hx;omega
   unfold zar
   simp[c0,c0',c1,c2,c3,c4,hne,hs,hA,hB]
  ·have k1:1+k%3=1:=by omega
   rw[if_neg k2,k1]
   unfold zar
   simp[c0,c0',c1,c2,c3,c4,hne]
def wt_part{l:List Int}(h:WT (.slice (.int .i64)) l)(k:Nat):WT (.slice (.int .i64)) (l.take k):=⟨by have:=h.1;simp;omega,fun x hx=>h.2 x (xcq hx)⟩
def bal_isB{n:Int}(hn:0<n)(l:List Int):isB n (bal n l):=⟨znx n l _,fun x hx=>outs_in hn l _ x hx⟩
def balF(n:Int)(x:List Int):List Int:=bal n (x.take 12)
def bals(n:Int)(l:List (List Int))(most:Nat):List (List Int):=(l.take most).map (balF n)
def zdu{α:Type}(l:List α)(z:α)(h:l.length≤1000000):((l.length:Int)+(([z]:List α).length:Int)≤LIM):=by rw[zbv];simp;omega
def d24_eq{n:Int}(hn:0<n)(hn':n≤7){l:List (List Int)}(hl:l.length≤281474976710656)(hw:∀x∈l,WT (.slice (.int .i64)) x){most:Nat}(hm:most≤100):d24 n l (most:Int)=some (bals n l most):=by
 unfold d24
 refine zaa (b:=bals n l most) (fun i=>(n,l,(most:Int),(l.take i).map (balF n),(i:Int))) (min l.length most) rfl (fun i hi=>?_) ?_ rfl
 ·have h1:(i:Int)<(l.length:Int):=by omega
  have h2:(i:Int)<(most:Int):=by omega
  have h3:(0:Int)≤(i:Int):=by omega
  have hwi:w ((i:Int)+1)=((i+1:Nat):Int):=by rw[w_id (by omega) (by omega)];omega
  have hx:=hw (l.getD i []) (by rw[zag l [] (by omega)];exact xbc _)
  have ht:=zdx l [] (by omega:i<l.length)
  simp only[h1,h2,h3,hwi,letJ,xah,xab,xai,xaf]
  obtain⟨x,hxd⟩:∃x,l.getD i []=x:=⟨_,rfl⟩
  simp only[hxd]at hx ht ⊢
  have hc:zbs 0 (bif decide (12<(x.length:Int))then 12 else(x.length:Int)) x.length=true∧List.drop 0 (List.take (Int.toNat (bif decide (12<(x.length:Int))then 12 else(x.length:Int))) x)=x.take 12:=by
   by_cases c:12<x.length
   ·have c':(12:Int)<(x.length:Int):=by omega
    simp only[c',xah,xab,xex]
    exact⟨zdi (i:=12) (by omega),rfl⟩
   ·have c':¬(12:Int)<(x.length:Int):=by omega
    simp only[c',xal,xac,xex,xaf]
    exact⟨zdi (xak _),by rw[xbi (xak _),xbi (by omega)]⟩
  rw[hc.1,hc.2,d8_eq hn (by omega) (wt_part hx 12)]
  have hlim:=zdu ((l.take i).map (balF n)) (bal n (x.take 12)) (by simp;omega)
  simp only[xab,xaa,hlim,xah,ht,xdd,xen,xgz]
  rfl
 ·have hb:(l.take (min l.length most)).map (balF n)=bals n l most:=by
   unfold bals
   congr 1
   by_cases c:l.length≤most
   ·rw[xeo c,xbi (xak _),xbi c]
   ·rw[xjr (by omega)]
  simp only[letJ,hb]
  by_cases c:l.length≤most
  ·have h1:¬((min l.length most:Nat):Int)<(l.length:Int):=by omega
   simp only[h1,xal,xac]
  ·have h1:((min l.length most:Nat):Int)<(l.length:Int):=by omega
   have h2:¬((min l.length most:Nat):Int)<(most:Int):=by omega
   simp only[h1,h2,xah,xal,xab,xac]
def bals_isB{n:Int}(hn:0<n){l:List (List Int)}{most:Nat}:∀b∈bals n l most,isB n b:=fun b hb=>by
 obtain⟨x,_,rfl⟩:=xdg.1 hb
 exact bal_isB hn _
def bals_len{n:Int}{l:List (List Int)}{most:Nat}:(bals n l most).length≤most:=by simp[bals];omega
def zhs(bs:List (List Int)):List Grp:=bs.foldl (fun gs b=>addG gs b 1) []
def bsum(f:List Int→Int):List (List Int)→Int
 | []=>0
 |b::bs=>f b+bsum f bs
def bsum_app(f:List Int→Int):∀a b,bsum f (a++b)=bsum f a+bsum f b
 | [],b=>by simp[bsum]
 |x::a,b=>by have:=bsum_app f a b;simp only[xca,bsum,this];omega
def zrr(bs:List (List Int))(b:List Int):zhs (bs++[b])=addG (zhs bs) b 1:=by simp[zhs]
def pileOf_ok{n:Int}(bs:List (List Int))(hb:∀b∈bs,isB n b)(hl:bs.length≤100000):PileOK n (zhs bs) (bs.length:Int)∧∀f,wsum f (zhs bs)=bsum f bs:=by
 have key:∀k,k≤bs.length→PileOK n (zhs (bs.take k)) (k:Int)∧∀f,wsum f (zhs (bs.take k))=bsum f (bs.take k):=by
  intro k
  induction k with
  |zero=>intro _;exact⟨PileOK.nil n,fun f=>rfl⟩
  |succ k ih=>
   intro hk
   obtain⟨h1,h2⟩:=ih (by omega)
   have ht:=zdx bs [] (by omega:k<bs.length)
   have hm:=hb (bs.getD k []) (by rw[zag bs [] (by omega)];exact xbc _)
   rw[ht,zrr]
   refine⟨?_,fun f=>by rw[zql,h2 f,bsum_app];simp[bsum]⟩
   have:=h1.add hm (by omega)
   rwa[show(k:Int)+1=((k+1:Nat):Int) by omega]at this
 have:=key bs.length (xak _)
 rwa[xbh]at this
def d23_eq{n:Int}(h1:1≤n)(hn:n≤7){bs:List (List Int)}(hb:∀b∈bs,isB n b)(hl:bs.length≤100000):d23 n bs=some (zhs bs,0):=by
 unfold d23 letJ
 have c1:¬n<1:=by omega
 have c2:¬7<n:=by omega
 have c3:¬(100000:Int)<(bs.length:Int):=by omega
 simp only[c1,c2,c3,xal,xao,xab,xac]
 refine zaa (b:=.inl (zhs bs)) (fun i=>(n,bs,zhs (bs.take i),(i:Int))) bs.length rfl (fun i hi=>?_) ?_ rfl
 ·have h2:(i:Int)<(bs.length:Int):=by omega
  have h3:(0:Int)≤(i:Int):=by omega
  have hwi:w ((i:Int)+1)=((i+1:Nat):Int):=by rw[w_id (by omega) (by omega)];omega
  have hm:=hb (bs.getD i []) (by rw[zag bs [] hi];exact xbc _)
  have hbl:=zfe hm hn
  have ht:=zdx bs [] hi
  have hp:=(pileOf_ok (bs.take i) (fun b h=>hb b (xcq h)) (by simp;omega)).1
  simp only[h2,h3,hwi,xah,xab,xai,xaf,ht,zrr]
  obtain⟨x,hxd⟩:∃x,bs.getD i []=x:=⟨_,rfl⟩
  simp only[hxd]at hm hbl ⊢
  have hlim:(([]:List Int).length:Int)+(x.length:Int)≤LIM:=by rw[zbv];simp;omega
  rw[zsu n (by omega),hp.d60 hn hm]
  simp only[hm,hlim,xah,xab,xaq,xac,xaa]
 ·have h1:¬((bs.length:Int)<(bs.length:Int)):=by omega
  simp only[h1,xal,xac,xbh]
def d6_eq{n:Int}(h1:1≤n)(hn:n≤7){l:List (List Int)}(hl:l.length≤281474976710656)(hw:∀x∈l,WT (.slice (.int .i64)) x){most:Nat}(hm:most≤100):d6 n l (most:Int)=some (zhs (bals n l most)):=by
 have hbl:=bals_len (n:=n) (l:=l) (most:=most)
 unfold d6
 rw[d24_eq (by omega) hn hl hw hm]
 simp only[xaa]
 rw[d23_eq h1 hn (bals_isB (by omega)) (by omega)]
 rfl
def GsOK(gs:List Grp):Prop:=gs.length≤281474976710656∧∀g∈gs,g.1.length≤281474976710656∧-9223372036854775808≤g.2∧g.2≤9223372036854775807
def GsOK.at{gs:List Grp}(h:GsOK gs){i:Nat}(hi:i<gs.length):(gs.getD i ([],0)).1.length≤281474976710656∧-9223372036854775808≤(gs.getD i ([],0)).2∧(gs.getD i ([],0)).2≤9223372036854775807:=by
 rw[zag gs _ hi]
 exact h.2 _ (xbc _)
def goodP(n:Int)(gs:List Grp):Bool:=decide (∀i,i<gs.length→badG n gs i=false)
def pileB(n:Int)(gs:List Grp):Bool:=decide (1≤n∧n≤7)&&goodP n gs
def cmpL_lt(a b:List Int):decide (0≤cmpL a b)=!decide (a<b):=by
 unfold cmpL
 by_cases h:a<b
 ·simp[h]
 ·by_cases h':b<a
  ·simp[h,h']
  ·simp[h,h']
def d72_eq{n:Int}{gs:List Grp}(h:GsOK gs):d72 n gs=some (pileB n gs):=by
 unfold d72 pileB
 simp only[letJ]
 by_cases h1:n<1
 ·have:¬(1≤n∧n≤7):=by omega
  simp[h1,this]
 ·by_cases h2:7<n
  ·have:¬(1≤n∧n≤7):=by omega
   simp[h1,h2,this]
  ·have hn:1≤n∧n≤7:=by omega
   simp only[h1,h2,hn,and_self,xah,xal,xao,xab,xac,xax]
   refine zor (fun i=>(n,gs,100000-tot gs i,(i:Int))) (badG n gs) gs.length (fun _=>.inr false) (.inl ()) rfl (fun i hi hj=>?_) (fun _=>?_) (fun i hi hp hj=>?_) (fun hall=>?_)
   ·have hl:=h.1
    have g2:(i:Int)<(gs.length:Int):=by omega
    have g3:(0:Int)≤(i:Int):=by omega
    have hw:w ((i:Int)+1)=((i+1:Nat):Int):=by rw[w_id (by omega) (by omega)];omega
    have ht:=zkm (n:=n) (gs:=gs) (i:=i) (by omega) hj
    have hgl:=(h.at hi).1
    have hgp:=(h.at (show i-1<gs.length by omega)).1
    have hts:tot gs (i+1)=tot gs i+(gs.getD i ([],0)).2*1:=zcp _ gs (by omega)
    have hw3:1≤(gs.getD i ([],0)).2→(gs.getD i ([],0)).2≤100000-tot gs i→w (100000-tot gs i-(gs.getD i ([],0)).2)=100000-tot gs (i+1):=fun a b=>by rw[w_id (by omega) (by omega)];omega
    have hb:badG n gs i=(decide ((gs.getD i ([],0)).2<1)||(decide (100000-tot gs i<(gs.getD i ([],0)).2)||(!decide (isB n (gs.getD i ([],0)).1)||(decide (0<i)&&decide (0≤cmpL (gs.getD (i-1) ([],0)).1 (gs.getD i ([],0)).1))))):=rfl
    rw[hb]
    simp only[g2,g3,xah,xab,xai,xaf,hw]
    obtain⟨g,hgd⟩:∃g,gs.getD i ([],0)=g:=⟨_,rfl⟩
    simp only[hgd]at hgl hts hw3 ⊢
    rw[zsu n hgl]
    simp only[xaa,cmpL_lt]
    by_cases c3:isB n g.1
    ·by_cases c1:g.2<1
     ·simp only[c1,c3];rfl
     ·by_cases c2:100000-tot gs i<g.2
      ·simp only[c1,c2,c3];rfl
      ·rw[hw3 (by omega) (by omega)]
       by_cases c4:0<i
       ·have c5:(0:Int)<(i:Int):=by omega
        have hwp:w ((i:Int)-1)=((i-1:Nat):Int):=by rw[w_id (by omega) (by omega)];omega
        have h5:(0:Int)≤((i-1:Nat):Int):=by omega
        have h6:((i-1:Nat):Int)<(gs.length:Int):=by omega
        simp only[c1,c2,c3,c4,c5,hwp,h5,h6,xaf,zpg hgp hgl,xaa,xah,xal,xaq,xao,xab,xac,xai,xax,xbp]
        cases decide ((gs.getD (i-1) ([],0)).1<g.1)<;>rfl
       ·have c5:¬(0:Int)<(i:Int):=by omega
        simp only[c1,c2,c3,c4,c5];rfl
    ·have hor:(decide (g.2<1)||(decide (100000-tot gs i<g.2)||(!decide (isB n g.1)||(decide (0<i)&& !decide ((gs.getD (i-1) ([],0)).1<g.1)))))=true:=by simp[c3]
     rw[hor]
     simp only[c3];rfl
   ·have g1:¬((gs.length:Int)<(gs.length:Int)):=by omega
    simp only[g1,xal,xac]
   ·have:goodP n gs=false:=xaj fun hh=>by rw[hh i hi]at hp;cases hp
    simp[this]
   ·have:goodP n gs=true:=xag hall
    simp[this]
def good_tot{n:Int}{gs:List Grp}(h:∀i,i<gs.length→badG n gs i=false):PileOK n gs (wsum (fun _=>1) gs) where
 ballots:=fun g hg=>by
  obtain⟨i,hi,rfl⟩:=xcm hg
  have:=h i hi
  unfold badG at this
  rw[zag gs _ hi]at this
  simp only[xcj,xay,xgv,xam]at this
  exact⟨this.2.2.1,by omega⟩
 sorted:=by
  have step:∀i,i+1<gs.length→(gs.getD i ([],0)).1<(gs.getD (i+1) ([],0)).1:=fun i hi=>by
   have:=h (i+1) hi
   unfold badG at this
   simp only[xcj]at this
   have:=this.2.2.2
   rw[cmpL_lt]at this
   simpa using this
  refine xej.2 fun i j hi hj hij=>?_
  have key:∀k,i+k+1<gs.length→(gs.getD i ([],0)).1<(gs.getD (i+k+1) ([],0)).1:=by
   intro k
   induction k with
   |zero=>intro hk;exact step i hk
   |succ k ih=>
    intro hk
    exact zgw (ih (by omega)) (step (i+k+1) (by omega))
  have:=key (j-i-1) (by omega)
  rw[show i+(j-i-1)+1=j by omega,zag gs _ hi,zag gs _ hj]at this
  exact this
 total:=rfl
 most:=by
  have:=(zkm (n:=n) (gs:=gs) (i:=gs.length) (xak _) fun j hj=>h j hj).2
  unfold tot at this
  rwa[xbh]at this
def zpv{n:Int}{gs:List Grp}(h:pileB n gs=true):1≤n∧n≤7∧PileOK n gs (wsum (fun _=>1) gs):=by
 unfold pileB at h
 simp only[xan,xam]at h
 exact⟨h.1.1,h.1.2,good_tot (xbl h.2)⟩
def PileOK.gs{n:Int}{gs:List Grp}{N:Int}(h:PileOK n gs N)(hn:n≤7):GsOK gs:=by
 obtain⟨h1,h2⟩:=h.sizes hn
 exact⟨by omega,fun g hg=>by have:=h2 g hg;omega⟩
def PileOK.pileB{n:Int}{gs:List Grp}{N:Int}(h:PileOK n gs N)(h1:1≤n)(hn:n≤7):pileB n gs=true:=by
 unfold Go.Proofs.YtfgjbkjddcjlfaaGreat.pileB goodP
 simp only[xan,xam]
 exact⟨⟨h1,hn⟩,h.good⟩
def PileOK.d150{n:Int}{gs:List Grp}{N:Int}(h:PileOK n gs N)(hn:n≤7):d150 gs=some true:=by
 unfold Go.Proofs.YtfgjbkjddcjlfaaGreat.d150
 rw[d72_eq (h.gs hn),(h.wide hn).pileB (by omega) (by omega)]
 rfl
def d173_eq(r:List Bool){c:Int}(hc:0≤c):d173 r c=some (rem r c):=by
 unfold d173 rem
 by_cases h:c<(r.length:Int)
 ·simp only[h,hc,if_true,xah,xab,xai]
 ·simp only[h,hc,xbf,xah,xal,xab,xac]
def d151_eq{p:List Int}{r:List Bool}(hp:p.length≤1000)(h0:∀x∈p,0≤x):d151 p r=some (p.filter (rem r)):=by
 unfold d151
 refine zaa (b:=p.filter (rem r)) (fun i=>(p,r,(p.take i).filter (rem r),(i:Int))) p.length rfl (fun i hi=>?_) ?_ rfl
 ·have g2:(i:Int)<(p.length:Int):=by omega
  have g3:(0:Int)≤(i:Int):=by omega
  have hw:w ((i:Int)+1)=((i+1:Nat):Int):=by rw[w_id (by omega) (by omega)];omega
  have hx:=h0 (p.getD i 0) (by rw[zag p 0 hi];exact xbc _)
  have ht:=zdx p 0 hi
  have hfl:((p.take i).filter (rem r)).length≤1000:=by
   have:=xfn (rem r) (p.take i)
   simp at this
   omega
  have hlim:((((p.take i).filter (rem r)).length:Int)+(([p.getD i 0]:List Int).length:Int)≤LIM):=by rw[zbv];simp;omega
  simp only[g2,g3,hw,letJ,xah,xab,xai,xaf,hlim,ht,d173_eq r hx,xaa,xfe]
  cases hr:rem r (p.getD i 0)
  ·rw[List.filter_cons_of_neg (by rw[hr];simp)]
   simp
  ·rw[List.filter_cons_of_pos hr]
   simp
 ·have g1:¬((p.length:Int)<(p.length:Int)):=by omega
  simp only[g1,xal,xac,xbh]
def zpd(q:Int→Bool):∀p:List Int,(0<(p.filter q).length↔zac q p<p.length)∧(0<(p.filter q).length→(p.filter q).getD 0 0=p.getD (zac q p) 0)
 | []=>by simp[zac]
 |x::p=>by
  have ih:=zpd q p
  unfold zac
  cases hx:q x
  ·rw[List.filter_cons_of_neg (by rw[hx];simp)]
   simp only[xaw,xbf,xaz]
   refine⟨by rw[ih.1];omega,fun h=>?_⟩
   rw[ih.2 h]
   simp
  ·rw[List.filter_cons_of_pos hx]
   simp
def PileOK.d111{n:Int}{gs:List Grp}{N:Int}(h:PileOK n gs N)(hn:n≤7){r:List Bool}(hr:r.length≤7):d111 gs r=some (zap r gs,wsum (zds r) gs):=by
 obtain⟨hl,hg⟩:=h.sizes hn
 have hf:∀c p,0≤zdk r c p∧zdk r c p≤1:=fun c p=>by unfold zdk;split<;>omega
 have hf0:∀p,0≤zds r p∧zds r p≤1:=fun p=>by unfold zds;split<;>omega
 unfold Go.Proofs.YtfgjbkjddcjlfaaGreat.d111
 rw[h.d150 hn]
 have hr1:¬(7:Int)<(r.length:Int):=by omega
 have hr2:(r.length:Int)≤LIM:=by rw[zbv];omega
 have hr3:(0:Int)≤(r.length:Int):=by omega
 simp only[xaa,xaq,xao,xab,hr1,hr2,hr3,xah,xal,letJ,xac,xai,xaf]
 refine zaa (b:=(zap r gs,wsum (zds r) gs)) (fun i=>(gs,r,zap r (gs.take i),wsum (zds r) (gs.take i),(i:Int))) gs.length ?_ (fun i hi=>?_) ?_ rfl
 ·have:zap r (gs.take 0)=List.replicate r.length 0:=by
   apply xfq
   ·simp[zap]
   ·intro i h1 h2
    simp[zap,wsum]
  simp only[this]
  rfl
 ·have h2:(i:Int)<(gs.length:Int):=by omega
  have h3:(0:Int)≤(i:Int):=by omega
  have hw:w ((i:Int)+1)=((i+1:Nat):Int):=by rw[w_id (by omega) (by omega)];omega
  have e:∀f,wsum f (gs.take (i+1))=wsum f (gs.take i)+(gs.getD i ([],0)).2*f (gs.getD i ([],0)).1:=fun f=>zcp f gs hi
  have b0:=h.part hf0 i
  have b1:=h.part hf0 (i+1)
  have b2:=fun c=>h.part (hf c) i
  have b3:=fun c=>h.part (hf c) (i+1)
  have hm:gs.getD i ([],0)∈gs:=by rw[zag gs _ hi];exact xbc _
  have hgl:=(hg _ hm).1
  have hgb:=(h.ballots _ hm).1
  simp only[h2,h3,hw,xah,xab,xai,xaf]
  obtain⟨g,hgd⟩:∃g,gs.getD i ([],0)=g:=⟨_,rfl⟩
  simp only[hgd]at e hgl hgb ⊢
  obtain⟨p,k⟩:=g
  simp only at e hgl hgb ⊢
  rw[d151_eq (by omega) fun x hx=>(hgb.2 x hx).1]
  obtain⟨hff,hfg⟩:=zpd (rem r) p
  simp only[xaa]
  by_cases c1:zac (rem r) p<p.length
  ·have c0:=hff.2 c1
   have hx:=zdh (rem r) p c1
   have c4:(0:Int)<((p.filter (rem r)).length:Int):=by omega
   have c5:(0:Int)≤0:=by omega
   have hxm:p.getD (zac (rem r) p) 0∈p:=by rw[zag p 0 c1];exact xbc _
   have hx0:=(hgb.2 _ hxm).1
   simp only[c4,hfg c0,xah,xab]
   have ht:∀c,zdk r c p=if p.getD (zac (rem r) p) 0=c then 1 else 0:=fun c=>by unfold zdk;simp only[c1,xgt]
   have hn0:zds r p=0:=by unfold zds;rw[if_pos c1]
   generalize p.getD (zac (rem r) p) 0=x at *
   have hxr:x<(r.length:Int):=by
    unfold rem at hx
    split at hx
    ·assumption
    ·cases hx
   have hv:(zap r (gs.take i)).getD (Int.toNat x) 0=wsum (zdk r x) (gs.take i):=by
    rw[zgm r _ (by omega),show((Int.toNat x:Nat):Int)=x by omega]
   have ex:=e (zdk r x)
   rw[ht x,if_pos rfl]at ex
   have bx0:=b2 x
   have bx1:=b3 x
   have hw2:w (wsum (zdk r x) (gs.take i)+k)=wsum (zdk r x) (gs.take (i+1)):=by rw[w_id (by omega) (by omega)];omega
   have hset:(zap r (gs.take i)).set (Int.toNat x) (wsum (zdk r x) (gs.take (i+1)))=zap r (gs.take (i+1)):=by
    apply xfq
    ·simp[zap]
    ·intro j h1 h2
     rw[List.getElem_set]
     by_cases hj:Int.toNat x=j
     ·rw[if_pos hj]
      simp only[zap,xju,xiy]
      rw[show(j:Int)=x by omega]
     ·rw[if_neg hj]
      simp only[zap,xju,xiy]
      have ej:=e (zdk r (j:Int))
      rw[ht (j:Int),if_neg (by omega)]at ej
      omega
   have e0:=e (zds r)
   rw[hn0]at e0
   have e0':wsum (zds r) (gs.take (i+1))=wsum (zds r) (gs.take i):=by omega
   simp only[zem,hx0,hxr,xah,xab,xai,hv,hw2,hset,e0']
   rfl
  ·have c0:¬0<(p.filter (rem r)).length:=fun hh=>c1 (hff.1 hh)
   have c4:¬(0:Int)<((p.filter (rem r)).length:Int):=by omega
   have hn1:zds r p=1:=by unfold zds;rw[if_neg c1]
   have e0:=e (zds r)
   rw[hn1]at e0
   have hw2:w (wsum (zds r) (gs.take i)+k)=wsum (zds r) (gs.take (i+1)):=by rw[w_id (by omega) (by omega)];omega
   have hv:zap r (gs.take (i+1))=zap r (gs.take i):=by
    unfold zap
    refine xfz fun c _=>?_
    have ec:=e (zdk r (c:Int))
    have:zdk r (c:Int) p=0:=by unfold zdk;simp only[c1,xjg,xbf]
    rw[this]at ec
    omega
   simp only[c4,xal,xac,hw2,hv]
 ·have h1:¬((gs.length:Int)<(gs.length:Int)):=by omega
  simp only[h1,xal,xac,xbh]
def d114_eq{n:Int}(h1:0≤n)(hn:n≤7){m:List Int}(hm:∀x∈m,0≤x∧x<n)(hml:m.length≤1000):d114 n m=some (zkz n.toNat m m.length):=by
 have hnn:((n.toNat:Nat):Int)=n:=by omega
 unfold d114
 have l1:n≤LIM:=by rw[zbv];omega
 simp only[l1,h1,xah,xai,xab]
 refine zaa (b:=zkz n.toNat m m.length) (fun i=>(m,zkz n.toNat m i,(i:Int))) m.length rfl (fun i hi=>?_) ?_ rfl
 ·have h2:(i:Int)<(m.length:Int):=by omega
  have h3:(0:Int)≤(i:Int):=by omega
  have hw:w ((i:Int)+1)=((i+1:Nat):Int):=by rw[w_id (by omega) (by omega)];omega
  have hx:=hm (m.getD i 0) (by rw[zag m 0 hi];exact xbc _)
  simp only[h2,h3,hw,xah,xab,xai,xaf,zjr,hnn,hx.1,hx.2]
  rfl
 ·have h1:¬((m.length:Int)<(m.length:Int)):=by omega
  simp only[h1,xal,xac]
def zlb(n:Nat):Nat→List Bool
 | 0=>List.replicate n false
 |i+1=>(zlb n i).set i true
def zkk(n:Nat):∀i,(zlb n i).length=n
 | 0=>by simp[zlb]
 |i+1=>by unfold zlb;rw[xcd];exact zkk n i
def allOf_get(n:Nat){c:Nat}(hc:c<n):∀i,i≤n→(zlb n i).getD c false=decide (c<i)
 | 0,_=>by
  unfold zlb
  rw[zag _ _ (by simp;omega)]
  simp
 |i+1,hi=>by
  have ih:=allOf_get n hc i (by omega)
  have hl:=zkk n i
  rw[show zlb n (i+1)=(zlb n i).set i true from rfl,xae,xfw,hl]
  by_cases e:i=c
  ·rw[if_pos e,if_pos (by omega)]
   have:c<i+1:=by omega
   simp[this]
  ·rw[if_neg e,←xae,ih]
   rw[xbv]
   omega
def d112_eq{n:Int}(h1:0≤n)(hn:n≤7):d112 n=some (zlb n.toNat n.toNat):=by
 have hnn:((n.toNat:Nat):Int)=n:=by omega
 unfold d112
 have l1:n≤LIM:=by rw[zbv];omega
 simp only[l1,h1,xah,xai,xab]
 refine zaa (b:=zlb n.toNat n.toNat) (fun i=>(n,zlb n.toNat i,(i:Int))) n.toNat rfl (fun i hi=>?_) ?_ rfl
 ·have h2:(i:Int)<n:=by omega
  have h3:(0:Int)≤(i:Int):=by omega
  have h4:(i:Int)<(n.toNat:Int):=by omega
  have hw:w ((i:Int)+1)=((i+1:Nat):Int):=by rw[w_id (by omega) (by omega)];omega
  simp only[h2,h3,h4,hw,xah,xab,xai,xaf,zkk]
  rfl
 ·have h1:¬(((n.toNat:Nat):Int)<n):=by omega
  simp only[h1,xal,xac]
def rem_all{n:Int}(hn:0≤n){c:Int}(hc:0≤c∧c<n):rem (zlb n.toNat n.toNat) c=true:=by
 unfold rem
 rw[zkk,if_pos (by omega),allOf_get n.toNat (by omega) n.toNat (xak _)]
 simp
 omega
def top_all{n:Int}(hn:0≤n){p:List Int}(hp:isB n p)(c:Int):zdk (zlb n.toNat n.toNat) c p=zcu c p:=by
 unfold zdk zcu
 match p,hp with
 | [],_=>simp[zac]
 |y::p,hp=>
  have hy:=rem_all hn (hp.2 y (by simp))
  unfold zac
  simp[hy]
def PileOK.d113{n:Int}{gs:List Grp}{N:Int}(h:PileOK n gs N)(hn:n≤7)(a b:Int):d113 gs a b=some (wsum (zcb a b) gs):=by
 obtain⟨hl,hg⟩:=h.sizes hn
 have hf:∀p,0≤zcb a b p∧zcb a b p≤1:=fun p=>by unfold zcb;simp only;split<;>omega
 unfold Go.Proofs.YtfgjbkjddcjlfaaGreat.d113
 refine zaa (b:=wsum (zcb a b) gs) (fun i=>(gs,a,b,wsum (zcb a b) (gs.take i),(i:Int))) gs.length rfl (fun i hi=>?_) ?_ rfl
 ·have h2:(i:Int)<(gs.length:Int):=by omega
  have h3:(0:Int)≤(i:Int):=by omega
  have hw:w ((i:Int)+1)=((i+1:Nat):Int):=by rw[w_id (by omega) (by omega)];omega
  have e:=zcp (zcb a b) gs hi
  have b0:=h.part hf i
  have b1:=h.part hf (i+1)
  have hm:gs.getD i ([],0)∈gs:=by rw[zag gs _ hi];exact xbc _
  have hgl:=(hg _ hm).1
  simp only[h.d150 hn,h2,h3,hw,letJ,xah,xab,xai,xaf,xaa]
  obtain⟨g,hgd⟩:∃g,gs.getD i ([],0)=g:=⟨_,rfl⟩
  simp only[hgd]at e hgl ⊢
  obtain⟨p,k⟩:=g
  simp only at e hgl ⊢
  rw[d152_eq a (by omega),d152_eq b (by omega)]
  simp only[xaa]
  have hbf:zcb a b p=if zac (fun z=>decide (a=z)) p<p.length∧(p.length≤zac (fun z=>decide (b=z)) p∨zac (fun z=>decide (a=z)) p<zac (fun z=>decide (b=z)) p)then 1 else 0:=rfl
  have l1:=zet (fun z=>decide (a=z)) p
  have l2:=zet (fun z=>decide (b=z)) p
  generalize zac (fun z=>decide (a=z)) p=x at *
  generalize zac (fun z=>decide (b=z)) p=y at *
  by_cases c1:x<y
  ·have c1':(x:Int)<(y:Int):=by omega
   rw[if_pos (by omega)]at hbf
   rw[hbf]at e
   have hw2:w (wsum (zcb a b) (gs.take i)+k)=wsum (zcb a b) (gs.take (i+1)):=by rw[w_id (by omega) (by omega)];omega
   simp only[c1',xah,xab,hw2]
  ·have c1':¬(x:Int)<(y:Int):=by omega
   rw[if_neg (by omega)]at hbf
   rw[hbf]at e
   have e':wsum (zcb a b) (gs.take (i+1))=wsum (zcb a b) (gs.take i):=by omega
   simp only[c1',xal,xac,e']
 ·have h1:¬((gs.length:Int)<(gs.length:Int)):=by omega
  simp only[h1,letJ,xal,xac,xbh]
def PileOK.d153{n:Int}{gs:List Grp}{N:Int}(h:PileOK n gs N)(hn:n≤7):d153 gs=some (wsum (fun _=>1) gs):=by
 obtain⟨hl,hg⟩:=h.sizes hn
 have hf:∀p:List Int,0≤(1:Int)∧(1:Int)≤1:=fun p=>by omega
 unfold Go.Proofs.YtfgjbkjddcjlfaaGreat.d153
 refine zaa (b:=wsum (fun _=>1) gs) (fun i=>(gs,wsum (fun _=>1) (gs.take i),(i:Int))) gs.length rfl (fun i hi=>?_) ?_ rfl
 ·have h2:(i:Int)<(gs.length:Int):=by omega
  have h3:(0:Int)≤(i:Int):=by omega
  have hw:w ((i:Int)+1)=((i+1:Nat):Int):=by rw[w_id (by omega) (by omega)];omega
  have e:=zcp (fun _=>1) gs hi
  have b0:=h.part hf i
  have b1:=h.part hf (i+1)
  have hw2:w (wsum (fun _=>1) (gs.take i)+(gs.getD i ([],0)).2)=wsum (fun _=>1) (gs.take (i+1)):=by rw[w_id (by omega) (by omega)];omega
  simp only[h.d150 hn,h2,h3,hw,letJ,xah,xab,xai,xaf,xaa,hw2]
 ·have h1:¬((gs.length:Int)<(gs.length:Int)):=by omega
  simp only[h1,letJ,xal,xac,xbh]
def zrw:∀{gs:List Grp},zns gs→(∀g∈gs,g.1≠ [])→wsum zao gs=wsum (fun _=>1) gs
 | [],_,_=>rfl
 |g::gs,hs,h=>by
  have ih:=zrw (gs:=gs) (xdr.1 hs).2 fun x hx=>h x (xap _ hx)
  have:zao g.1=1:=by unfold zao;rw[if_neg (h g (by simp))]
  simp only[wsum,ih,this]
def nil_first{a b:List Int}(h:a<b):b≠ []:=by
 rintro rfl
 cases a<;>simp at h
def PileOK.d115{n:Int}{gs:List Grp}{N:Int}(h:PileOK n gs N)(hn:n≤7):d115 gs=some (wsum zao gs):=by
 unfold Go.Proofs.YtfgjbkjddcjlfaaGreat.d115
 rw[h.d153 hn]
 have hN:=h.most
 have ht:=h.total
 have hp:=zga (n:=n) h.ballots (f:=zao) fun p=>by unfold zao;split<;>omega
 have hl:=zpu h.ballots
 match gs,h with
 | [],h=>simp[wsum,letJ]
 |g::gs,h=>
  have hg:=h.ballots g (by simp)
  have h0:=(zga (n:=n) (gs:=gs) (fun x hx=>h.ballots x (xap _ hx)) (f:=fun _=>1) (fun _=>by omega)).1
  have hsort:=xdr.1 h.sorted
  have hm:=zrw hsort.2 fun x hx=>nil_first (hsort.1 x hx)
  have c1:0<wsum (fun _=>1) (g::gs):=by simp only[wsum];omega
  have c2:(0:Int)<(((g::gs).length:Nat):Int):=by simp
  simp only[xaa,letJ,c1,c2,xah,xab,xef]
  obtain⟨p,k⟩:=g
  match p with
  | []=>
   have e:wsum zao ((([]:List Int),k)::gs)=wsum (fun _=>1) ((([]:List Int),k)::gs)-k:=by
    have:zao []=0:=rfl
    simp only[wsum,hm,this]
    omega
   rw[e]
   rw[w_id (by simp only at hg;omega) (by simp only at hg;omega)]
   rfl
  |y::p=>
   have e:wsum zao ((y::p,k)::gs)=wsum (fun _=>1) ((y::p,k)::gs):=by
    have:zao (y::p)=1:=rfl
    simp only[wsum,hm,this]
   have c3:¬((((y::p).length:Nat):Int)=0):=by simp;omega
   rw[e]
   simp only[c3,xal]
   rfl
def fav(a:Asn)(gs:List Grp):Int×Int:=
 if a.1=1 then(wsum (zcu a.2.1) gs,wsum (zcb a.2.2.1 a.2.1) gs)
 else if a.1=2 then(wsum (zde a.2.2.2.1 a.2.1) gs,wsum (zde a.2.2.2.1 a.2.2.1) gs)
 else(a.2.2.2.2*wsum (zcu a.2.1) gs,wsum zao gs)
def isFirst01(c:Int)(p:List Int):0≤zcu c p∧zcu c p≤1:=by unfold zcu;split<;>omega
def zoz{n:Int}{gs:List Grp}{N:Int}(h:PileOK n gs N){a:Asn}(ha:zar n a=true)(k:a.1=3):0≤a.2.2.2.2*wsum (zcu a.2.1) gs∧a.2.2.2.2*wsum (zcu a.2.1) gs≤600000:=by
 have hq:=valid_quota ha k
 have hfb:=zga (n:=n) h.ballots (isFirst01 a.2.1)
 have ht:=h.total
 have hN:=h.most
 have b1:0≤a.2.2.2.2*wsum (zcu a.2.1) gs:=Int.mul_nonneg (by omega) hfb.1
 have b2:a.2.2.2.2*wsum (zcu a.2.1) gs≤6*wsum (zcu a.2.1) gs:=Int.mul_le_mul_of_nonneg_right (by omega) hfb.1
 omega
def PileOK.d61{n:Int}{gs:List Grp}{N:Int}(h:PileOK n gs N)(h1:1≤n)(hn:n≤7){a:Asn}(ha:zar n a=true)(hl:a.2.2.2.1.length≤1000):d61 n gs a=some (fav a gs):=by
 have hw:=zlw ha
 have hal:=zkk n.toNat n.toNat
 unfold Go.Proofs.YtfgjbkjddcjlfaaGreat.d61 fav
 rw[d39_eq n (by omega),ha,d72_eq (h.gs hn),h.pileB h1 hn]
 simp only[xaa,xaq,xao,xab,xac,letJ]
 rw[d112_eq (by omega) hn]
 simp only[xaa]
 rw[h.d111 hn (by omega)]
 simp only[xaa]
 have vl:(zap (zlb n.toNat n.toNat) gs).length=n.toNat:=by rw[zem,hal]
 have vg:∀c:Int,0≤c→c<n→(zap (zlb n.toNat n.toNat) gs).getD c.toNat 0=wsum (zcu c) gs:=fun c hc hc'=>by
  rw[zgm _ _ (by rw[hal];omega),show((c.toNat:Nat):Int)=c by omega]
  exact zgh fun g hg=>top_all (by omega) (h.ballots g hg).1 c
 have c1:a.2.1<((zap (zlb n.toNat n.toNat) gs).length:Int):=by omega
 rcases zfb ha with k|k|k
 ·simp only[k,xah,xab,if_true,hw.1,c1,xai,h.d113 hn,xaa,vg _ hw.1 hw.2.1]
 ·have hm:=valid_among ha k
  have hrl:=zjr n.toNat a.2.2.2.1 a.2.2.2.1.length
  have vl2:(zap (zkz n.toNat a.2.2.2.1 a.2.2.2.1.length) gs).length=n.toNat:=by rw[zem,hrl]
  have vg2:∀c:Int,0≤c→c<n→(zap (zkz n.toNat a.2.2.2.1 a.2.2.2.1.length) gs).getD c.toNat 0=wsum (zde a.2.2.2.1 c) gs:=fun c hc hc'=>by
   rw[zgm _ _ (by rw[hrl];omega),show((c.toNat:Nat):Int)=c by omega]
   refine zgh fun x hx=>?_
   have hb:=(h.ballots x hx).1
   have:zac (rem (zkz n.toNat a.2.2.2.1 a.2.2.2.1.length)) x.1=zac (fun y=>decide (y∈a.2.2.2.1)) x.1:=zgd fun y hy=>by
    rw[rem_remOf n.toNat a.2.2.2.1 (fun z hz=>by have:=hm z hz;omega) (by have:=hb.2 y hy;omega) a.2.2.2.1.length (xak _),xbh]
   unfold zdk zde
   rw[this]
  have c2:a.2.1<((zap (zkz n.toNat a.2.2.2.1 a.2.2.2.1.length) gs).length:Int):=by omega
  have c3:a.2.2.1<((zap (zkz n.toNat a.2.2.2.1 a.2.2.2.1.length) gs).length:Int):=by omega
  simp only[k,show ¬(2:Int)=1 by omega,xah,xal,xab,xac,if_true,xbf]
  rw[d114_eq (by omega) hn hm hl]
  simp only[xaa]
  rw[h.d111 hn (by omega)]
  simp only[xaa,hw.1,hw.2.2.1,c2,c3,xah,xai,xab,vg2 _ hw.1 hw.2.1,vg2 _ hw.2.2.1 hw.2.2.2.1]
 ·have hq:=zoz h ha k
  simp only[k,show ¬(3:Int)=1 by omega,show ¬(3:Int)=2 by omega,xah,xal,xab,xac,xbf,hw.1,c1,xai,h.d115 hn,xaa,vg _ hw.1 hw.2.1]
  rw[w_id (by omega) (by omega)]
def fav_bounds{n:Int}{gs:List Grp}{N:Int}(h:PileOK n gs N){a:Asn}(ha:zar n a=true):0≤(fav a gs).1∧(fav a gs).1≤600000∧0≤(fav a gs).2∧(fav a gs).2≤600000:=by
 have ht:=h.total
 have hN:=h.most
 have hb:=fun f hf=>zga (n:=n) h.ballots (f:=f) hf
 have p1:=hb (zcu a.2.1) (isFirst01 _)
 have p2:=hb (zcb a.2.2.1 a.2.1) fun p=>by unfold zcb;simp only;split<;>omega
 have p3:=fun c=>hb (zde a.2.2.2.1 c) fun p=>by unfold zde;split<;>omega
 have p4:=hb zao fun p=>by unfold zao;split<;>omega
 have p5:=p3 a.2.1
 have p6:=p3 a.2.2.1
 unfold fav
 rcases zfb ha with k|k|k
 ·simp only[k,if_true];omega
 ·simp only[k,if_true,xbf,show ¬(2:Int)=1 by omega];omega
 ·have hq:=zoz h ha k
  simp only[k,xbf,show ¬(3:Int)=1 by omega,show ¬(3:Int)=2 by omega];omega
def tal(n:Int)(gs:List Grp)(a:Asn):Int×Int:=if zar n a&&pileB n gs then fav a gs else(0,0)
def d61_eq{n:Int}{gs:List Grp}(h:GsOK gs){a:Asn}(hl:a.2.2.2.1.length≤1000):d61 n gs a=some (tal n gs a):=by
 unfold tal
 cases ha:zar n a
 ·unfold d61
  rw[d39_eq n (by omega),ha]
  rfl
 ·cases hp:pileB n gs
  ·unfold d61
   rw[d39_eq n (by omega),ha,d72_eq h,hp]
   rfl
  ·obtain⟨h1,h2,h3⟩:=zpv hp
   rw[h3.d61 h1 h2 ha hl]
   rfl
def tal_bounds(n:Int)(gs:List Grp)(a:Asn):0≤(tal n gs a).1∧(tal n gs a).1≤600000∧0≤(tal n gs a).2∧(tal n gs a).2≤600000:=by
 unfold tal
 cases ha:zar n a
 ·simp
 ·cases hp:pileB n gs
  ·simp
  ·obtain⟨_,_,h3⟩:=zpv hp
   simp only[xai,if_true]
   exact fav_bounds h3 ha
def d175_eq(n:Int){l:List Int}(hl:l.length≤281474976710656):d175 n l=some (decide (isB n l)&&decide (0<l.length)):=by
 unfold d175
 refine zaw (fun i=>(n,l,l,(l.length:Int),(i:Int))) (fun i=>decide (l.getD i 0<0)||(decide (n≤l.getD i 0)||decide (l.getD i 0∈l.take i))) l.length (fun _=>.inr false) (.inl l) rfl (fun i hi=>?_) ?_ (fun i hi hp hj=>?_) (fun hall=>?_)
 ·have h2:(i:Int)<(l.length:Int):=by omega
  have h3:(0:Int)≤(i:Int):=by omega
  have hw:w ((i:Int)+1)=((i+1:Nat):Int):=by rw[w_id (by omega) (by omega)];omega
  simp only[h2,h3,letJ,xah,xab,xai,xaf,hw,zdi (xfm hi),xex,d30_eq (s:=l.take i) _ (by simp;omega),xaa]
  by_cases c1:l.getD i 0<0
  ·simp only[c1];rfl
  ·by_cases c2:n≤l.getD i 0
   ·simp only[c1,c2];rfl
   ·by_cases c3:l.getD i 0∈l.take i
    ·simp only[c1,c2,c3];rfl
    ·simp only[c1,c2,c3];rfl
 ·simp
 ·have:¬isB n l:=fun h=>by
   have:=(zjz n l).1 h i hi
   simp only[xdj,xam]at hp
   rcases hp with hp|hp|hp
   ·omega
   ·omega
   ·exact this.2.2 hp
  simp[this]
 ·have:isB n l:=(zjz n l).2 fun i hi=>by
   have:=hall i hi
   simp only[xcj,xay]at this
   exact⟨by omega,by omega,this.2.2⟩
  simp[this]
def zfg{i n:Nat}(h:i≤n):zbs (i:Int) (n:Int) n=true:=by
 unfold zbs
 simp only[xan,xam]
 omega
def cuts(l:List (List Int))(k:Nat):List (List Int):=(l.take k).map fun x=>x.take 8
def d7_eq{l:List (List Int)}(hl:l.length≤281474976710656)(hw:∀x∈l,WT (.slice (.int .i64)) x){k:Nat}(hk:k≤100):d7 l (k:Int)=some (cuts l k):=by
 unfold d7
 refine zaa (b:=cuts l k) (fun i=>(l,(k:Int),(l.take i).map fun x=>x.take 8,(i:Int))) (min l.length k) rfl (fun i hi=>?_) ?_ rfl
 ·have h1:(i:Int)<(l.length:Int):=by omega
  have h2:(i:Int)<(k:Int):=by omega
  have h3:(0:Int)≤(i:Int):=by omega
  have hwi:w ((i:Int)+1)=((i+1:Nat):Int):=by rw[w_id (by omega) (by omega)];omega
  have hx:=hw (l.getD i []) (by rw[zag l [] (by omega)];exact xbc _)
  have ht:=zdx l [] (by omega:i<l.length)
  simp only[h1,h2,h3,hwi,letJ,xah,xab,xai,xaf]
  obtain⟨x,hxd⟩:∃x,l.getD i []=x:=⟨_,rfl⟩
  simp only[hxd]at hx ht ⊢
  have hc:zbs 0 (bif decide (8<(x.length:Int))then 8 else(x.length:Int)) x.length=true∧List.drop 0 (List.take (Int.toNat (bif decide (8<(x.length:Int))then 8 else(x.length:Int))) x)=x.take 8:=by
   by_cases c:8<x.length
   ·have c':(8:Int)<(x.length:Int):=by omega
    simp only[c',xah,xab,xex]
    exact⟨zdi (i:=8) (by omega),rfl⟩
   ·have c':¬(8:Int)<(x.length:Int):=by omega
    simp only[c',xal,xac,xex,xaf]
    exact⟨zdi (xak _),by rw[xbi (xak _),xbi (by omega)]⟩
  have hlim:=fun z:List Int=>zdu ((l.take i).map fun x=>x.take 8) z (by simp;omega)
  simp only[hc.1,hc.2,xab,hlim,xah,ht,xdd,xen,xgz]
 ·have hb:(l.take (min l.length k)).map (fun x=>x.take 8)=cuts l k:=by
   unfold cuts
   congr 1
   by_cases c:l.length≤k
   ·rw[xeo c,xbi (xak _),xbi c]
   ·rw[xjr (by omega)]
  simp only[letJ,hb]
  by_cases c:l.length≤k
  ·have h1:¬((min l.length k:Nat):Int)<(l.length:Int):=by omega
   simp only[h1,xal,xac]
  ·have h1:((min l.length k:Nat):Int)<(l.length:Int):=by omega
   have h2:¬((min l.length k:Nat):Int)<(k:Int):=by omega
   simp only[h1,h2,xah,xal,xab,xac]
def cuts_wt{l:List (List Int)}(hw:∀x∈l,WT (.slice (.int .i64)) x){k:Nat}:(cuts l k).length≤k∧∀x∈cuts l k,WT (.slice (.int .i64)) x:=by
 refine⟨by simp[cuts];omega,fun x hx=>?_⟩
 obtain⟨y,hy,rfl⟩:=xdg.1 hx
 exact wt_part (hw y (xcq hy)) 8
def zsd(n:Int)(t:List Int):Bool:=decide (isB n t)&&decide (0<t.length)
def zug(m t:List Int):List Int:=t.drop (t.length-m.length)
def zmy(n:Int)(a:Asn)(t:List Int):Bool:=
  zar n a&&zsd n t &&
  (if a.1=1 then decide (zac (fun z=>decide (a.2.2.1=z)) t<t.length)&& !decide (a.2.1∈t.drop (zac (fun z=>decide (a.2.2.1=z)) t))
   else if a.1=2 then decide (a.2.2.2.1.length≤t.length)&&(decide (t.getD (t.length-a.2.2.2.1.length) 0=a.2.1)&&decide (∀c∈a.2.2.2.1,c∈zug a.2.2.2.1 t))
   else false)
def zrt{m:List Int}(h:m.Pairwise (·< ·)):m.Nodup:=h.imp fun hh e=>by omega
def sort_sorted(l:List Int):(zdq l).Pairwise (·≤·):=by
 have:=List.pairwise_mergeSort (le:=fun(x y:Int)=>decide (x≤y)) (by simp;intro a b c;omega) (by simp;intro a b;omega) l
 simpa[zdq]using this
def sort_perm(l:List Int):(zdq l).Perm l:=List.mergeSort_perm l _
def wt_of{n:Int}(h0:-9223372036854775808≤n)(h1:n≤9223372036854775807):WT (.int .i64) n:=w_id h0 h1
def zfc:∀(m l:List Int),m.Nodup→(∀c∈m,c∈l)→l.length≤m.length→m.Perm l
 | [],l,_,_,h=>by
  have:l=[]:=xcf (by simpa using h)
  rw[this]
 |c::m,l,hd,h,hl=>by
  have hc:c∈l:=h c xdb
  have hd':=xdx.1 hd
  refine(List.Perm.cons c (zfc m (l.erase c) hd'.2 (fun x hx=>?_) ?_)).trans (List.perm_cons_erase hc).symm
  ·exact(List.mem_erase_of_ne (fun e=>hd'.1 (by rw[←e];exact hx))).2 (h x (xap _ hx))
  ·rw[List.length_erase_of_mem hc];simp at hl;omega
def sort_eq_iff{m l:List Int}(hm:m.Pairwise (·< ·))(hl:l.Nodup)(hlen:l.length=m.length):zdq l=m↔∀c∈m,c∈l:=by
 constructor
 ·intro h c hc
  rw[←h]at hc
  exact zrb.1 hc
 ·intro h
  have hp:m.Perm l:=zfc m l (zrt hm) h (by omega)
  refine((sort_perm l).trans hp.symm).eq_of_pairwise (le:=(·≤·)) (fun a b _ _ h1 h2=>by omega) (sort_sorted l) (hm.imp fun h=>by omega)
def list_diff:∀(a b:List Int),a.length=b.length→(a=b↔∀i,i<a.length→a.getD i 0=b.getD i 0)
 | [],[],_=>by simp
 |x::a,y::b,h=>by
  have ih:=list_diff a b (by simpa using h)
  constructor
  ·rintro he i _;rw[he]
  ·intro hall
   have h0:x=y:=by simpa using hall 0 (by simp)
   have h1:a=b:=ih.2 fun i hi=>by simpa using hall (i+1) (by simp;omega)
   rw[h0,h1]
 | [],y::b,h=>by simp at h
 |x::a,[],h=>by simp at h
def d176_eq{a b:List Int}(ha:a.length≤1000000):d176 a b=some (decide (a=b)):=by
 unfold d176
 by_cases c:a.length=b.length
 ·have c':(a.length:Int)=(b.length:Int):=by omega
  simp only[c',xah,xaq,xac]
  refine zaw (fun i=>(a,b,(b.length:Int),(i:Int))) (fun i=>decide (a.getD i 0≠b.getD i 0)) a.length (fun _=>.inr false) (.inl ()) rfl (fun i hi=>?_) ?_ (fun i hi hp hj=>?_) (fun hall=>?_)
  ·have h2:(i:Int)<(b.length:Int):=by omega
   have h3:(0:Int)≤(i:Int):=by omega
   have h4:(i:Int)<(a.length:Int):=by omega
   have hw:w ((i:Int)+1)=((i+1:Nat):Int):=by rw[w_id (by omega) (by omega)];omega
   simp only[h2,h3,h4,xah,xab,xai,xaf,hw]
   by_cases e:a.getD i 0=b.getD i 0
   ·simp[e]
   ·simp[e]
  ·simp[c]
  ·have:a≠b:=fun e=>by simp[e]at hp
   simp[this]
  ·have:a=b:=(list_diff a b c).2 fun i hi=>by have:=hall i hi;simpa using this
   simp[this]
 ·have c':¬(a.length:Int)=(b.length:Int):=by omega
  have:a≠b:=fun e=>c (by rw[e])
  simp[c',this]
def zni{n:Int}{a:Asn}(h:zar n a=true)(k:a.1=2):a.2.2.2.1.Pairwise (·< ·)∧(∀x∈a.2.2.2.1,0≤x∧x<n)∧a.2.1∈a.2.2.2.1∧a.2.2.1∈a.2.2.2.1:=by
 unfold zar at h
 simp only[k,xan,if_true,xbf,show ¬(2:Int)=1 by omega,xam]at h
 obtain⟨_,⟨⟨⟨_,_⟩,h1⟩,h2⟩,h3⟩:=h
 obtain⟨h4,h5⟩:=(zoo _ _).1 h1
 exact⟨h4,h5,h2,h3⟩
def d157_eq(n:Int){a:Asn}{t:List Int}(hm:a.2.2.2.1.length≤1001)(ht:t.length≤1000):d157 n a t=some (zmy n a t):=by
 unfold d157 zmy
 rw[d31_eq n (by omega)]
 simp only[xaa,letJ]
 cases hv:zar n a
 ·simp
 rw[d175_eq n (by omega)]
 simp only[xaa,xaq,xao,xab,xax]
 cases hT:zsd n t
 ·have:(decide (isB n t)&&decide (0<t.length))=false:=hT
  simp[this]
 have hT':(decide (isB n t)&&decide (0<t.length))=true:=hT
 have hb:isB n t:=by simp only[xan,xam]at hT';exact hT'.1
 simp only[hT',xaq,xac,xax]
 rcases zfb hv with k|k|k
 ·simp only[k,if_true,xah,xab,zuq (s:=t) a.2.2.1 (by omega),xaa]
  by_cases c:zac (fun z=>decide (a.2.2.1=z)) t<t.length
  ·have c1:(0:Int)≤(zac (fun z=>decide (a.2.2.1=z)) t:Int):=by omega
   simp only[c,c1,if_true,xah,xab,zfg (xfm c),xaf,xbh,xax]
   rw[d30_eq a.2.1 (by simp;omega)]
   rfl
  ·have c1:¬(0:Int)≤-1:=by omega
   simp only[c,c1,xbf,xal,xac,xbe]
 ·obtain⟨h1,h2,h3,h4⟩:=zni hv k
  have hpos:0<a.2.2.2.1.length:=xhw h3
  simp only[k,if_true,xbf,show ¬(2:Int)=1 by omega,xah,xal,xab,xac]
  have hw:w ((t.length:Int)-(a.2.2.2.1.length:Int))=(t.length:Int)-(a.2.2.2.1.length:Int):=w_id (by omega) (by omega)
  rw[hw]
  by_cases c:a.2.2.2.1.length≤t.length
  ·have e:(t.length:Int)-(a.2.2.2.1.length:Int)=((t.length-a.2.2.2.1.length:Nat):Int):=by omega
   have c1:(0:Int)≤((t.length-a.2.2.2.1.length:Nat):Int):=by omega
   have c2:((t.length-a.2.2.2.1.length:Nat):Int)<(t.length:Int):=by omega
   rw[e]
   simp only[c,c1,c2,xah,xab,xai,xaf,xax]
   by_cases c3:t.getD (t.length-a.2.2.2.1.length) 0=a.2.1
   ·have hlen:(t.drop (t.length-a.2.2.2.1.length)).length=a.2.2.2.1.length:=by simp;omega
    have hlim:((t.drop (t.length-a.2.2.2.1.length)).length:Int)≤LIM:=by rw[zbv];omega
    simp only[c3,xah,xab,zfg (xik _ _),xbh,hlim,xaa,xax]
    rw[d176_eq (by rw[zeq];omega)]
    simp only[xaa,xat]
    exact xbv.2 (sort_eq_iff h1 (hb.1.sublist (List.drop_sublist _ _)) hlen)
   ·simp only[c3,xal,xac,xbe]
  ·have c1:¬(0:Int)≤(t.length:Int)-(a.2.2.2.1.length:Int):=by omega
   simp only[c,c1,xal,xac,xbe]
 ·simp only[k,xbf,show ¬(3:Int)=1 by omega,show ¬(3:Int)=2 by omega,xal,xac]
def d179_eq(n:Int){l:List Int}(hl:l.length≤281474976710656):d179 n l=some (zsd n l):=by
 unfold d179 zsd
 rw[zsu n hl]
 by_cases c:0<l.length
 ·have c':(0:Int)<(l.length:Int):=by omega
  simp[c,c']
 ·have c':¬(0:Int)<(l.length:Int):=by omega
  simp only[c,c',xal,xac,xdo]
def d158_eq(n:Int){a:Asn}{t:List Int}(hm:a.2.2.2.1.length≤1001)(ht:t.length≤1000):d158 n a t=some (zmy n a t):=by
 unfold d158 zmy
 rw[d39_eq n (by omega)]
 simp only[xaa,letJ]
 cases hv:zar n a
 ·simp
 rw[d179_eq n (by omega)]
 simp only[xaa,xaq,xao,xab,xax]
 cases hT:zsd n t
 ·simp
 have hT':(decide (isB n t)&&decide (0<t.length))=true:=hT
 have hb:isB n t:=by simp only[xan,xam]at hT';exact hT'.1
 simp only[xaq,xac,xax]
 rcases zfb hv with k|k|k
 ·simp only[k,if_true,xah,xab,d152_eq (l:=t) a.2.2.1 (by omega),xaa]
  by_cases c:zac (fun z=>decide (a.2.2.1=z)) t<t.length
  ·have c1:(zac (fun z=>decide (a.2.2.1=z)) t:Int)<(t.length:Int):=by omega
   simp only[c,c1,xah,xab,zfg (xfm c),xaf,xbh,xax]
   rw[zke a.2.1 (by simp;omega)]
   rfl
  ·have c1:¬(zac (fun z=>decide (a.2.2.1=z)) t:Int)<(t.length:Int):=by omega
   simp only[c,c1,xal,xac,xbe]
 ·obtain⟨h1,h2,h3,h4⟩:=zni hv k
  have hpos:0<a.2.2.2.1.length:=xhw h3
  simp only[k,if_true,xbf,show ¬(2:Int)=1 by omega,xah,xal,xab,xac]
  have hw:w ((t.length:Int)-(a.2.2.2.1.length:Int))=(t.length:Int)-(a.2.2.2.1.length:Int):=w_id (by omega) (by omega)
  rw[hw]
  by_cases c:a.2.2.2.1.length≤t.length
  ·have e:(t.length:Int)-(a.2.2.2.1.length:Int)=((t.length-a.2.2.2.1.length:Nat):Int):=by omega
   have c1:(0:Int)≤((t.length-a.2.2.2.1.length:Nat):Int):=by omega
   have c0:¬((t.length-a.2.2.2.1.length:Nat):Int)<0:=by omega
   have c2:((t.length-a.2.2.2.1.length:Nat):Int)<(t.length:Int):=by omega
   rw[e]
   simp only[c,c0,c1,c2,xah,xal,xao,xab,xai,xaf,xax]
   by_cases c3:t.getD (t.length-a.2.2.2.1.length) 0=a.2.1
   ·simp only[c3,xah,xaq,xac,xax]
    refine zaw (fun i=>(t,a,((t.length-a.2.2.2.1.length:Nat):Int),(i:Int))) (fun i=>decide (a.2.2.2.1.getD i 0∉zug a.2.2.2.1 t)) a.2.2.2.1.length (fun _=>.inr false) (.inl ()) rfl (fun i hi=>?_) ?_ (fun i hi hp hj=>?_) (fun hall=>?_)
    ·have h5:(i:Int)<(a.2.2.2.1.length:Int):=by omega
     have h6:(0:Int)≤(i:Int):=by omega
     have hw:w ((i:Int)+1)=((i+1:Nat):Int):=by rw[w_id (by omega) (by omega)];omega
     have h7:(t.drop (t.length-a.2.2.2.1.length)).length≤281474976710656:=by simp;omega
     simp only[h5,h6,xah,xab,xai,xaf,hw,zfg (xik _ _),xbh,zke _ h7,xaa]
     by_cases c5:a.2.2.2.1.getD i 0∈zug a.2.2.2.1 t
     ·have c6:a.2.2.2.1.getD i 0∈t.drop (t.length-a.2.2.2.1.length):=c5
      simp only[c5,c6,xah,xaq,xac,not_true,xal,xaw,xbf]
     ·have c6:¬a.2.2.2.1.getD i 0∈t.drop (t.length-a.2.2.2.1.length):=c5
      simp only[c5,c6,xal,xao,xab,xjf,xah,if_true]
    ·simp
    ·have:¬∀c∈a.2.2.2.1,c∈zug a.2.2.2.1 t:=fun hA=>by
      have:=hA (a.2.2.2.1.getD i 0) (by rw[zag _ _ hi];exact xbc hi)
      simp only[xam]at hp
      exact hp this
     simp only[this,xal]
    ·have:∀c∈a.2.2.2.1,c∈zug a.2.2.2.1 t:=fun c hc=>by
      obtain⟨i,hi,rfl⟩:=xcm hc
      have:=hall i hi
      rw[zag _ _ hi]at this
      simpa using this
     simp only[xag this]
   ·simp only[c3,xal,xao,xab,xbe]
  ·have c1:(t.length:Int)-(a.2.2.2.1.length:Int)<0:=by omega
   simp only[c,c1,xah,xal,xaq,xac,xab,xbe]
 ·simp only[k,xbf,show ¬(3:Int)=1 by omega,show ¬(3:Int)=2 by omega,xal,xac]
def zhi(v:List Int)(r:List Bool)(i:Nat):Nat→Bool
 | 0=>rem r (i:Int)
 |k+1=>zhi v r i k&& !(rem r (k:Int)&&decide (v.getD k 0<v.getD i 0))
def zgv(v:List Int)(r:List Bool)(i:Nat):∀k,zhi v r i k=true↔rem r (i:Int)=true∧∀j,j<k→rem r (j:Int)=true→v.getD i 0≤v.getD j 0
 | 0=>by simp[zhi]
 |k+1=>by
  have ih:=zgv v r i k
  unfold zhi
  rw[xan,ih]
  constructor
  ·rintro⟨⟨h1,h2⟩,h3⟩
   refine⟨h1,fun j hj hr=>?_⟩
   rcases xcy j k with h|h
   ·exact h2 j h hr
   ·obtain rfl:j=k:=by omega
    simp only[hr,xax,xdw,xay]at h3
    omega
  ·rintro⟨h1,h2⟩
   refine⟨⟨h1,fun j hj hr=>h2 j (by omega) hr⟩,?_⟩
   cases hr:rem r (k:Int)
   ·rfl
   ·have:=h2 k (by omega) hr
    have h3:¬v.getD k 0<v.getD i 0:=by omega
    simp only[h3,xal,xdo,xao]
def zqc{n:Int}(hn:0≤n){o:List Int}(h:isB n o)(hl:o.length=n.toNat){x:Int}(hx:0≤x∧x<n):x∈o:=by
 have hp:=zfc o ((List.range n.toNat).map fun(i:Nat)=>(i:Int)) h.1 (fun c hc=>by
  have:=h.2 c hc
  exact xdg.2 ⟨c.toNat,xbu.2 (by omega),by omega⟩) (by simp;omega)
 exact hp.mem_iff.2 (xdg.2 ⟨x.toNat,xbu.2 (by omega),by omega⟩)
def lowest(gs:List Grp)(o:List Int)(i:Nat):Prop:=∀j,i≤j→j<o.length→∀c∈o.drop j,wsum (zde (o.drop j) (o.getD j 0)) gs≤wsum (zde (o.drop j) c) gs
def zqk{n:Int}:∀{gs:List Grp},(∀g∈gs,isB n g.1∧1≤g.2)→∀{f h:List Int→Int},(∀g∈gs,f g.1≤h g.1)→wsum f gs≤wsum h gs
 | [],_,f,h,_=>xkp _
 |g::gs,hg,f,h,hf=>by
  have ih:=zqk (fun x hx=>hg x (xap _ hx)) fun x hx=>hf x (xap _ hx)
  have h1:=(hg g (by simp)).2
  have h2:=hf g (by simp)
  have h3:=Int.mul_le_mul_of_nonneg_left h2 (show 0≤g.2 by omega)
  unfold wsum
  omega
def zln(p:Int→Bool){l:List Int}{i:Nat}(hi:i<l.length)(hp:p (l.getD i 0)=true):zac p l≤i:=by
 rcases xcy i (zac p l)with h|h
 ·have:=zcw p l i h
  rw[hp]at this
  cases this
 ·exact h
def first_le_top{R:List Int}{A:Int}(hA:A∈R)(p:List Int):zcu A p≤zde R A p:=by
 unfold zcu zde
 by_cases c:p≠ []∧p.getD 0 0=A
 ·obtain⟨c1,c2⟩:=c
  have hl:0<p.length:=xcr.2 c1
  have h0:zac (fun x=>decide (x∈R)) p=0:=by
   have:=zln (fun x=>decide (x∈R)) hl (by rw[c2];exact xag hA)
   omega
  rw[if_pos ⟨c1,c2⟩,if_pos (by rw[h0];exact⟨hl,c2⟩)]
  exact xkp _
 ·rw[if_neg c]
  split<;>omega
def zve{R:List Int}{A B:Int}(hA:A∈R)(hne:B≠A)(p:List Int):zde R B p≤zcb B A p:=by
 unfold zde zcb
 simp only
 by_cases c:zac (fun x=>decide (x∈R)) p<p.length∧p.getD (zac (fun x=>decide (x∈R)) p) 0=B
 ·obtain⟨c1,c2⟩:=c
  have h1:=zln (fun z=>decide (B=z)) c1 (by rw[c2];simp)
  have h2:p.length≤zac (fun z=>decide (A=z)) p∨zac (fun z=>decide (B=z)) p<zac (fun z=>decide (A=z)) p:=by
   rcases xcy (zac (fun z=>decide (A=z)) p) p.length with h|h
   ·refine .inr ?_
    have ha:=zdh _ _ h
    simp only[xam]at ha
    have h3:=zln (fun x=>decide (x∈R)) h (by rw[←ha];exact xag hA)
    rcases xcy (zac (fun x=>decide (x∈R)) p) (zac (fun z=>decide (A=z)) p)with h4|h4
    ·omega
    ·have h5:zac (fun x=>decide (x∈R)) p=zac (fun z=>decide (A=z)) p:=by omega
     rw[h5]at c2
     exact absurd (c2.symm.trans ha.symm) hne
   ·exact .inl h
  rw[if_pos ⟨c1,c2⟩,if_pos ⟨by omega,h2⟩]
  exact xkp _
 ·rw[if_neg c]
  split<;>omega
def topM_perm{M R:List Int}(h:M.Perm R)(c:Int)(p:List Int):zde M c p=zde R c p:=by
 unfold zde
 rw[zgd (p:=fun x=>decide (x∈M)) (q:=fun x=>decide (x∈R)) fun x _=>xbv.2 h.mem_iff]
def zty{n:Int}{gs:List Grp}{N:Int}(h:PileOK n gs N)(h1:1≤n){a:Asn}(hv:zar n a=true)(hk:a.1=1∨a.1=2)(hf:(fav a gs).2<(fav a gs).1){o:List Int}(ho:isB n o)(hol:o.length=n.toNat)(hlow:lowest gs o 0)(j:Nat) :
  zmy n a (o.drop j)=false:=by
 cases hc:zmy n a (o.drop j)with
 |false=>rfl
 |true=>
  exfalso
  unfold zmy at hc
  simp only[xan]at hc
  obtain⟨_,hc⟩:=hc
  have hw:=zlw hv
  rcases hk with k|k
  ·unfold fav at hf
   simp only[k,if_true,xan,xam,xdw,xay]at hc hf
   obtain⟨c1,c2⟩:=hc
   have hne:a.2.1≠a.2.2.1:=by
    unfold zar at hv
    simp only[k,if_true,xan,xam]at hv
    exact hv.2.1.1
   obtain⟨x,hx⟩:∃x,zac (fun z=>decide (a.2.2.1=z)) (o.drop j)=x:=⟨_,rfl⟩
   have hat:=zdh _ _ c1
   rw[hx]at c1 c2 hat
   simp only[xam]at hat
   rw[xeh]at c1
   rw[xib]at c2
   have hB:o.getD (j+x) 0=a.2.2.1:=by
    rw[hat]
    simp[xae]
   have hA:=zqc (by omega) ho hol ⟨hw.1,hw.2.1⟩
   obtain⟨i,hi,hie⟩:=xcm hA
   have hil:i<j+x:=by
    rcases xcy i (j+x)with h|h
    ·exact h
    ·refine absurd ?_ c2
     rw[←hie]
     refine xkk.2 ⟨i-(j+x),by simp;omega,?_⟩
     rw[xji]
     congr 1
     omega
   have hAi:o.getD i 0=a.2.1:=by rw[zag _ _ hi];exact hie
   have hBm:a.2.2.1∈o.drop i:=by
    refine xkk.2 ⟨j+x-i,by simp;omega,?_⟩
    rw[xji,←hB,zag _ _ (by omega)]
    congr 1
    omega
   have hAm:a.2.1∈o.drop i:=by
    refine xkk.2 ⟨0,by simp;omega,?_⟩
    rw[xji,←hie]
    congr 1
   have h3:=hlow i (xbz _) hi _ hBm
   rw[hAi]at h3
   have h4:=zqk h.ballots (f:=zcu a.2.1) (h:=zde (o.drop i) a.2.1) fun g _=>first_le_top hAm g.1
   have h5:=zqk h.ballots (f:=zde (o.drop i) a.2.2.1) (h:=zcb a.2.2.1 a.2.1) fun g _=>zve hAm (Ne.symm hne) g.1
   omega
  ·obtain⟨m1,m2,m3,m4⟩:=zni hv k
   unfold fav at hf
   simp only[k,if_true,xbf,show ¬(2:Int)=1 by omega,xan,xam]at hc hf
   obtain⟨c1,c2,c3⟩:=hc
   have hpos:0<a.2.2.2.1.length:=xhw m3
   unfold zug at c3
   rw[xeh]at c1 c2 c3
   rw[xib]at c3
   obtain⟨i,hi⟩:∃i,j+(o.length-j-a.2.2.2.1.length)=i:=⟨_,rfl⟩
   rw[hi]at c3
   have hA:o.getD i 0=a.2.1:=by
    rw[←c2,←hi]
    simp[xae]
   have hp:a.2.2.2.1.Perm (o.drop i):=zfc _ _ (zrt m1) c3 (by rw[xeh];omega)
   have h3:=hlow i (xbz _) (by omega) _ (c3 _ m4)
   rw[hA]at h3
   have e1:wsum (zde a.2.2.2.1 a.2.1) gs=wsum (zde (o.drop i) a.2.1) gs:=zgh fun g _=>topM_perm hp _ _
   have e2:wsum (zde a.2.2.2.1 a.2.2.1) gs=wsum (zde (o.drop i) a.2.2.1) gs:=zgh fun g _=>topM_perm hp _ _
   omega
def zbt(n:Nat):List Int:=(List.range n).map fun(i:Nat)=>(i:Int)
def zdc{n:Nat}{c:Int}:c∈zbt n↔0≤c∧c<(n:Int):=by
 unfold zbt
 constructor
 ·intro h
  obtain⟨i,h1,rfl⟩:=xdg.1 h
  have:=xbu.1 h1
  omega
 ·intro h
  exact xdg.2 ⟨c.toNat,xbu.2 (by omega),by omega⟩
def zdj(n:Nat)(C:List Int→Bool):Nat→List Int→List (List Int)
 | 0,_=>[]
 |k+1,t=>if C t then []else if t.length=n then [t]else(zbt n).flatMap fun c=>if c∈t then []else zdj n C k (c::t)
def ordersT_succ(n:Nat)(C:List Int→Bool)(k:Nat)(t:List Int):zdj n C (k+1) t=if C t then []else if t.length=n then [t]else(zbt n).flatMap fun c=>if c∈t then []else zdj n C k (c::t):=rfl
def zij{n:Nat}{C:List Int→Bool}:∀{k:Nat} {t o:List Int},isB n t→n<k+t.length→(o∈zdj n C k t↔isB n o∧o.length=n∧(∃s,o=s++t)∧∀j,j≤n-t.length→C (o.drop j)=false)
 | 0,t,o,ht,hk=>by
  have:=zby n t ht.1 ht.2
  omega
 |k+1,t,o,ht,hk=>by
  have htl:=zby n t ht.1 ht.2
  unfold zdj
  by_cases hC:C t=true
  ·rw[if_pos hC]
   constructor
   ·intro h;simp at h
   ·rintro⟨h1,h2,⟨s,rfl⟩,h4⟩
    have hs:s.length=n-t.length:=by rw[xbk]at h2;omega
    have:=h4 s.length (by omega)
    rw[List.drop_append_of_le_length (xak _),xjv,xci,hC]at this
    cases this
  ·rw[if_neg hC]
   by_cases hl:t.length=n
   ·rw[if_pos hl]
    simp only[xbn]
    constructor
    ·rintro rfl
     refine⟨ht,hl,⟨[],rfl⟩,fun j hj=>?_⟩
     have:j=0:=by omega
     subst this
     simpa using hC
    ·rintro⟨h1,h2,⟨s,rfl⟩,h4⟩
     have:s=[]:=xcf (by rw[xbk]at h2;omega)
     simp[this]
   ·rw[if_neg hl]
    rw[xhh]
    constructor
    ·rintro⟨c,h1,h2⟩
     split at h2
     ·simp at h2
     ·rename_i hc
      have hct:isB n (c::t):=⟨xdx.2 ⟨hc,ht.1⟩,fun x hx=>by
       rcases xbd.1 hx with rfl|hx
       ·exact zdc.1 h1
       ·exact ht.2 x hx⟩
      obtain⟨h3,h4,⟨s,rfl⟩,h6⟩:=(zij hct (by simp;omega)).1 h2
      refine⟨h3,h4,⟨s++[c],by simp⟩,fun j hj=>?_⟩
      rcases xcy j (n-t.length)with hlt|hge
      ·exact h6 j (by simp only[xaz];omega)
      ·have hj':j=n-t.length:=by omega
       have hs:(s++[c]).length=n-t.length:=by rw[xbk,xaz]at h4;simp;omega
       have e:s++c::t=(s++[c])++t:=by simp
       rw[e,hj',←hs,List.drop_append_of_le_length (xak _),xjv,xci]
       simpa using hC
    ·rintro⟨h1,h2,⟨s,rfl⟩,h4⟩
     have hs:s.length=n-t.length:=by rw[xbk]at h2;omega
     have hne:s≠ []:=fun e=>by rw[e]at hs;simp at hs;omega
     obtain⟨s',c,rfl⟩:∃s' c,s=s'++[c]:=⟨s.dropLast,s.getLast hne,(List.dropLast_concat_getLast hne).symm⟩
     have hcm:c∈(s'++[c])++t:=by simp
     have hct:c∉t:=fun hm=>(xdp.1 h1.1).2.2 c (by simp) c hm rfl
     refine⟨c,zdc.2 (h1.2 c hcm),?_⟩
     rw[if_neg hct]
     have hctB:isB n (c::t):=⟨xdx.2 ⟨hct,ht.1⟩,fun x hx=>by
      rcases xbd.1 hx with rfl|hx
      ·exact h1.2 _ hcm
      ·exact ht.2 x hx⟩
     refine(zij hctB (by simp;omega)).2 ⟨h1,h2,⟨s',by simp⟩,fun j hj=>h4 j ?_⟩
     simp only[xaz]at hj
     omega
def zuf(b:Option (List Int))(o:List Int):Option (List Int):=
 match b with
 |none=>some o
 |some f=>if o<f then some o else some f
def zjl(b:Option (List Int))(L:List (List Int)):Option (List Int):=L.foldl zuf b
def bestO_app(b:Option (List Int))(L M:List (List Int)):zjl b (L++M)=zjl (zjl b L) M:=xec
def bestO_snoc(b:Option (List Int))(L:List (List Int))(o:List Int):zjl b (L++[o])=zuf (zjl b L) o:=by rw[bestO_app];rfl
def zom:∀(L:List (List Int)) (f:List Int),∃o,zjl (some f) L=some o∧(o=f∨o∈L)∧¬f<o∧∀x∈L,¬x<o
 | [],f=>⟨f,rfl,.inl rfl,zbm f,fun _ h=>absurd h (by simp)⟩
 |x::L,f=>by
  show∃o,zjl (zuf (some f) x) L=some o∧_
  unfold zuf
  by_cases h:x<f
  ·simp only[h,if_true]
   obtain⟨o,h1,h2,h3,h4⟩:=zom L x
   refine⟨o,h1,?_,fun hf=>h3 (zgw h hf),fun y hy=>?_⟩
   ·rcases h2 with rfl|h2
    ·exact .inr (by simp)
    ·exact .inr (xap _ h2)
   ·rcases xbd.1 hy with rfl|hy
    ·exact h3
    ·exact h4 y hy
  ·simp only[h,xbf]
   obtain⟨o,h1,h2,h3,h4⟩:=zom L f
   refine⟨o,h1,h2.imp id (xap _),h3,fun y hy=>?_⟩
   rcases xbd.1 hy with rfl|hy
   ·intro hyo
    rcases ziq f o with h5|h5|h5
    ·exact h3 h5
    ·rw[h5]at h;exact h hyo
    ·exact h (zgw hyo h5)
   ·exact h4 y hy
def bestO_spec(L:List (List Int)):match zjl none L with
  |none=>L=[]
  |some o=>o∈L∧∀x∈L,¬x<o:=by
 cases L with
 |nil=>rfl
 |cons x L=>
  show match zjl (some x) L with | none=>x::L=[] | some o=>_
  obtain⟨o,h1,h2,h3,h4⟩:=zom L x
  rw[h1]
  refine⟨?_,fun y hy=>?_⟩
  ·rcases h2 with rfl|h2
   ·exact xdb
   ·exact xap _ h2
  ·rcases xbd.1 hy with rfl|hy
   ·exact h3
   ·exact h4 y hy
def zef(n:Nat)(C:List Int→Bool)(w:Int)(l:List Int):List (List Int):=l.flatMap fun c=>if c=w then []else zdj n C (n+1) [c]
def witP(n:Nat)(C:List Int→Bool)(w:Int):Option (List Int):=zjl none (zef n C w (zbt n))
def Others(n:Nat)(C:List Int→Bool)(w:Int)(o:List Int):Prop:=isB n o∧o.length=n∧o.getD (n-1) 0≠w∧∀j,j<n→C (o.drop j)=false
def zny{n:Nat}(hn:1≤n){C:List Int→Bool}{w:Int}{o:List Int}:o∈zef n C w (zbt n)↔Others n C w o:=by
 unfold zef Others
 rw[xhh]
 constructor
 ·rintro⟨c,h1,h2⟩
  split at h2
  ·simp at h2
  ·rename_i hc
   have hcb:isB n [c]:=⟨by simp,fun x hx=>by rw[xbn.1 hx];exact zdc.1 h1⟩
   obtain⟨h3,h4,⟨s,rfl⟩,h6⟩:=(zij hcb (by simp;omega)).1 h2
   refine⟨h3,h4,?_,fun j hj=>h6 j (by simp;omega)⟩
   rw[xbk,xid]at h4
   have hs:s.length=n-1:=by omega
   rw[←hs,xae,xdv (xak _)]
   simpa using hc
 ·rintro⟨h1,h2,h3,h4⟩
  have hne:o≠ []:=fun e=>by rw[e]at h2;simp at h2;omega
  obtain⟨s,c,rfl⟩:∃s c,o=s++[c]:=⟨o.dropLast,o.getLast hne,(List.dropLast_concat_getLast hne).symm⟩
  have hs:s.length=n-1:=by rw[xbk,xid]at h2;omega
  rw[←hs,xae,xdv (xak _)]at h3
  have hc:c≠w:=by simpa using h3
  have hcm:=h1.2 c (by simp)
  refine⟨c,zdc.2 hcm,?_⟩
  rw[if_neg hc]
  have hcb:isB n [c]:=⟨by simp,fun x hx=>by rw[xbn.1 hx];exact hcm⟩
  exact(zij hcb (by simp;omega)).2 ⟨h1,h2,⟨s,rfl⟩,fun j hj=>h4 j (by simp at hj;omega)⟩
def zlv{n:Nat}(hn:1≤n)(C:List Int→Bool)(w:Int):match witP n C w with
  |none=>∀o,¬Others n C w o
  |some o=>Others n C w o∧∀x,Others n C w x→¬x<o:=by
 have h:=bestO_spec (zef n C w (zbt n))
 unfold witP
 cases hb:zjl none (zef n C w (zbt n))with
 |none=>
  rw[hb]at h
  intro o ho
  have:=(zny hn).2 ho
  rw[h]at this
  simp at this
 |some o=>
  rw[hb]at h
  exact⟨(zny hn).1 h.1,fun x hx=>h.2 x ((zny hn).2 hx)⟩
def okO(n:Nat)(C:List Int→Bool)(w:Int)(o:List Int):Bool:=!decide (o.getD (n-1) 0=w)&&(List.range n).all fun j=>!C (o.drop j)
def zhv{α β:Type}(f:α→Option β):List α→Option β
 | []=>none
 |x::l=>match f x with
  |some y=>some y
  |none=>zhv f l
def extO(n:Nat)(C:List Int→Bool)(w:Int):Nat→List Int→Option (List Int)
 | 0,_=>none
 |k+1,b=>if b.length=n then(if okO n C w b then some b else none)else zhv (fun c=>if c∈b then none else extO n C w k (b++[c])) (zbt n)
def zlm{α β:Type}{f:α→Option β}:∀{l:List α},zhv f l=none→∀x∈l,f x=none
 | [],_,x,hx=>absurd hx (by simp)
 |y::l,h,x,hx=>by
  unfold zhv at h
  cases hy:f y with
  |some z=>rw[hy]at h;cases h
  |none=>
   rw[hy]at h
   rcases xbd.1 hx with rfl|hx
   ·exact hy
   ·exact zlm h x hx
def zit{α β:Type}{f:α→Option β}:∀{l:List α} {y:β},zhv f l=some y→∃a x b,l=a++x::b∧f x=some y∧∀z∈a,f z=none
 | [],y,h=>by cases h
 |x::l,y,h=>by
  unfold zhv at h
  cases hx:f x with
  |some z=>
   rw[hx]at h
   cases h
   exact⟨[],x,l,rfl,hx,fun _ h=>absurd h (by simp)⟩
  |none=>
   rw[hx]at h
   obtain⟨a,u,b,h1,h2,h3⟩:=zit h
   refine⟨x::a,u,b,by simp[h1],h2,fun z hz=>?_⟩
   rcases xbd.1 hz with rfl|hz
   ·exact hx
   ·exact h3 z hz
def okO_iff{n:Nat}{C:List Int→Bool}{w:Int}{o:List Int}(h:isB n o)(hl:o.length=n):okO n C w o=true↔Others n C w o:=by
 unfold okO Others
 simp only[xan,xdw,xay,xbt,xbu]
 exact⟨fun⟨h1,h2⟩=>⟨h,hl,h1,h2⟩,fun⟨_,_,h1,h2⟩=>⟨h1,h2⟩⟩
def lt_pre:∀(b:List Int) {c d:Int} {s t:List Int},c<d→b++c::s<b++d::t
 | [],c,d,s,t,h=>List.Lex.rel h
 |x::b,c,d,s,t,h=>List.Lex.cons (lt_pre b h)
def cands_split{n:Nat}{a b:List Int}{c d:Int}(h:zbt n=a++c::b)(hd:0≤d∧d<c):d∈a:=by
 have hs:(zbt n).Pairwise (·< ·):=by
  unfold zbt
  rw[xjh]
  exact List.pairwise_lt_range.imp fun h=>by omega
 have hc:c∈zbt n:=by rw[h];simp
 have hdm:d∈zbt n:=zdc.2 ⟨hd.1,by have:=zdc.1 hc;omega⟩
 rw[h]at hs hdm
 rcases xbq.1 hdm with h1|h1
 ·exact h1
 ·exfalso
  rcases xbd.1 h1 with h2|h2
  ·omega
  ·have:=(xdr.1 (xfr.1 hs).2.1).1 d h2
   omega
def zms{n:Nat}{C:List Int→Bool}{w:Int}:∀(k:Nat) (b:List Int),isB n b→n<k+b.length→match extO n C w k b with
  |none=>∀s,¬Others n C w (b++s)
  |some o=>Others n C w o∧(∃s,o=b++s)∧∀s,Others n C w (b++s)→¬b++s<o
 | 0,b,hb,hk=>by
  have:=zby n b hb.1 hb.2
  omega
 |k+1,b,hb,hk=>by
  have hbl:=zby n b hb.1 hb.2
  unfold extO
  by_cases hl:b.length=n
  ·rw[if_pos hl]
   have hs:∀s,Others n C w (b++s)→s=[]:=fun s h=>xcf (by have:=h.2.1;rw[xbk]at this;omega)
   by_cases ho:okO n C w b=true
   ·rw[if_pos ho]
    refine⟨(okO_iff hb hl).1 ho,⟨[],by simp⟩,fun s h=>?_⟩
    rw[hs s h,xco]
    exact zbm b
   ·rw[if_neg ho]
    intro s h
    rw[hs s h,xco]at h
    exact ho ((okO_iff hb hl).2 h)
  ·rw[if_neg hl]
   have hext:∀c,c∈zbt n→c∉b→isB n (b++[c]):=fun c hc hcb=>⟨xdp.2 ⟨hb.1,by simp,fun x hx y hy e=>by rw[xbn.1 hy]at e;rw[e]at hx;exact hcb hx⟩,fun x hx=>by
    rcases xbq.1 hx with h|h
    ·exact hb.2 x h
    ·rw[xbn.1 h];exact zdc.1 hc⟩
   have hcase:∀s,Others n C w (b++s)→∃c s',s=c::s'∧c∈zbt n∧c∉b:=fun s h=>by
    cases s with
    |nil=>have:=h.2.1;rw[xco]at this;exact absurd this hl
    |cons c s'=>exact⟨c,s',rfl,zdc.2 (h.1.2 c (by simp)),fun hm=>(xdp.1 h.1.1).2.2 c hm c (by simp) rfl⟩
   cases hf:zhv (fun c=>if c∈b then none else extO n C w k (b++[c])) (zbt n)with
   |none=>
    intro s h
    obtain⟨c,s',rfl,h1,h2⟩:=hcase s h
    have h3:=zlm hf c h1
    rw[if_neg h2]at h3
    have h4:=zms (C:=C) (w:=w) k (b++[c]) (hext c h1 h2) (by simp;omega)
    rw[h3]at h4
    exact h4 s' (by rw[xcp];exact h)
   |some o=>
    obtain⟨a,c,r,h1,h2,h3⟩:=zit hf
    have hc:c∈zbt n:=by rw[h1];simp
    have hcb:c∉b:=fun hm=>by rw[if_pos hm]at h2;cases h2
    rw[if_neg hcb]at h2
    have h4:=zms (C:=C) (w:=w) k (b++[c]) (hext c hc hcb) (by simp;omega)
    rw[h2]at h4
    obtain⟨h5,⟨s0,h6⟩,h7⟩:=h4
    refine⟨h5,⟨c::s0,by rw[h6];simp⟩,fun s h hlt=>?_⟩
    obtain⟨d,s',rfl,h8,h9⟩:=hcase s h
    rcases xjm d c with hdc|rfl|hdc
    ·have hda:=cands_split h1 ⟨(zdc.1 h8).1,hdc⟩
     have h10:=h3 d hda
     rw[if_neg h9]at h10
     have h11:=zms (C:=C) (w:=w) k (b++[d]) (hext d h8 h9) (by simp;omega)
     rw[h10]at h11
     exact h11 s' (by rw[xcp];exact h)
    ·exact h7 s' (by rw[xcp];exact h) (by rw[xcp];exact hlt)
    ·have:o<b++d::s':=by
      rw[h6,xcp]
      exact lt_pre b hdc
     exact zgx this hlt
def shl_eq:∀c:Nat,c<8→w (1*2^(min (Int.toNat (c:Int)) 64))=((2^c:Nat):Int):=by decide +kernel
def bit_eq:∀S:Nat,S<128→∀c:Nat,c<7→decide ((w ((BitVec.ofInt 64 (w (Int.fdiv (S:Int) (2^(min (Int.toNat (c:Int)) 64))))&&&BitVec.ofInt 64 1).toNat:Int))=1)=S.testBit c:=by decide +kernel
def off_eq:∀S:Nat,S<128→∀c:Nat,c<7→S.testBit c=true→w ((BitVec.ofInt 64 (S:Int)&&& ~~~(BitVec.ofInt 64 ((2^c:Nat):Int))).toNat:Int)=((S-2^c:Nat):Int):=by decide +kernel
def tb_off:∀S:Nat,S<128→∀c:Nat,c<7→S.testBit c=true→∀d:Nat,d<7→(S-2^c).testBit d=(S.testBit d&&decide (d≠c)):=by decide +kernel
def tb_ge:∀S:Nat,S<128→∀c:Nat,c<7→S.testBit c=true→2^c≤S:=by decide +kernel
def tb_ex:∀S:Nat,S<128→0<S→∃c:Nat,c<7∧S.testBit c=true:=by decide +kernel
def zcj(n S:Nat):List Bool:=(List.range n).map fun c=>S.testBit c
def zis(n S:Nat):Nat→List Bool
 | 0=>List.replicate n false
 |c+1=>(zis n S c).set c (S.testBit c)
def zez(n S:Nat):(zcj n S).length=n:=by simp[zcj]
def zff(n S:Nat):∀c,(zis n S c).length=n
 | 0=>by simp[zis]
 |c+1=>by unfold zis;rw[xcd];exact zff n S c
def zsj(n S:Nat){i:Nat}(hi:i<n):∀c,c≤n→(zis n S c).getD i false=if i<c then S.testBit i else false
 | 0,_=>by simp[zis,xae,hi]
 |c+1,hc=>by
  have ih:=zsj n S hi c (by omega)
  unfold zis
  rw[xae,xfw,zff]
  by_cases e:c=i
  ·subst e;simp[hi]
  ·rw[if_neg e,←xae,ih]
   by_cases h:i<c
   ·simp[h,show i<c+1 by omega]
   ·simp[h,show ¬i<c+1 by omega]
def zkb(n S:Nat){i:Nat}(hi:i<n):(zcj n S).getD i false=S.testBit i:=by
 rw[zag _ _ (by rw[zez];exact hi)];simp[zcj]
def flagsTo_all(n S:Nat):zis n S n=zcj n S:=by
 apply xfq
 ·rw[zff,zez]
 ·intro i h1 h2
  rw[zff]at h1
  have e1:=zsj n S h1 n (xak n)
  have e2:=zkb n S h1
  rw[if_pos h1,zag _ _ (by rw[zff];exact h1)]at e1
  rw[zag _ _ (by rw[zez];exact h1)]at e2
  rw[e1,e2]
def zfn(n S:Nat){c:Int}(h:0≤c∧c<(n:Int)):rem (zcj n S) c=S.testBit c.toNat:=by
 unfold rem
 rw[zez,if_pos h.2,zkb _ _ (by omega)]
def d59_eq{n:Int}{gs:List Grp}(h:GsOK gs):d59 n gs=some (pileB n gs):=by
 unfold d59 pileB
 by_cases h1:1≤n
 ·by_cases h2:n≤7
  ·rw[d77_eq h2 h.1 h.2]
   simp[h1,h2,goodP]
  ·simp[h1,h2]
 ·simp[h1]
def zeg(gs:List Grp)(n:Nat)(R:List Bool)(S:Nat):Nat→List Bool
 | 0=>R
 |c+1=>if zhi (zap (zcj n S) gs) (zcj n S) c n then(zeg gs n R S c).set (S-2^c) true else zeg gs n R S c
def zer(gs:List Grp)(n:Nat)(R:List Bool)(S:Nat):∀c,(zeg gs n R S c).length=R.length
 | 0=>rfl
 |c+1=>by unfold zeg;split<;>simp[zer gs n R S c]
def zbl(gs:List Grp)(n M:Nat):Nat→List Bool
 | 0=>(List.replicate M false).set (M-1) true
 |k+1=>if(zbl gs n M k).getD (M-1-k) false then zeg gs n (zbl gs n M k) (M-1-k) n else zbl gs n M k
def zdz(gs:List Grp)(n M:Nat):∀k,(zbl gs n M k).length=M
 | 0=>by simp[zbl]
 |k+1=>by unfold zbl;split<;>simp[zer,zdz gs n M k]
def zgr(gs:List Grp)(n M:Nat):Nat→List Int
 | 0=>[]
 |c+1=>if(zbl gs n M (M-1)).getD (2^c) false then zgr gs n M c++[(c:Int)]else zgr gs n M c
def possL_len(gs:List Grp)(n M:Nat):∀c,(zgr gs n M c).length≤c
 | 0=>by simp[zgr]
 |c+1=>by have:=possL_len gs n M c;unfold zgr;split<;>simp<;>omega
def d20_eq{n:Int}{gs:List Grp}{N:Int}(h:PileOK n gs N)(h1:1≤n)(hn:n≤7):d20 n gs=some (zgr gs n.toNat (2^n.toNat) n.toNat):=by
 obtain⟨m,rfl⟩:∃m:Nat,n=(m:Int):=⟨n.toNat,by omega⟩
 have hm:m≤7:=by omega
 unfold d20
 rw[d59_eq (h.gs hn),h.pileB h1 hn]
 have s0:=shl_eq m (by omega)
 have hM:2^m≤128:=xbb (xck (by omega) hm) (by decide)
 have hM1:2≤2^m:=xbb (show 2≤2^1 by decide) (xck (by omega) (by omega))
 have hc7:∀c,c<m→2^c<2^m:=fun c hc=>xfh (by omega) hc
 simp only[xaf]at s0 ⊢
 generalize hMM:2^m=M at s0 hM hM1 hc7 ⊢
 have s1:w ((M:Int)-1)=((M-1:Nat):Int):=by rw[w_id (by omega) (by omega)];omega
 have l0:(0:Int)≤(m:Int):=by omega
 have l1:(M:Int)≤LIM:=by rw[zbv];omega
 have l2:(0:Int)≤(M:Int):=by omega
 have l3:(0:Int)≤((M-1:Nat):Int):=by omega
 have l4:((M-1:Nat):Int)<(M:Int):=by omega
 have l5:(m:Int)≤LIM:=by rw[zbv];omega
 simp only[xaa,xaq,xac,s0,s1,l0,l1,l2,l3,l4,xah,xai,xab,xaf,xce]
 refine zaa (b:=((m:Int),zbl gs m M (M-1))) (fun k=>((m:Int),gs,zbl gs m M k,((M-1-k:Nat):Int))) (M-1) rfl (fun k hk=>?_) ?_ ?_
 ·obtain⟨S,hS⟩:∃S,M-1-k=S:=⟨_,rfl⟩
  have hS':M-1-(k+1)=S-1:=by omega
  have hS0:0<S:=by omega
  have c0:(0:Int)<(S:Int):=by omega
  have c1:(0:Int)≤(S:Int):=by omega
  have c2:(S:Int)<(M:Int):=by omega
  have c3:w ((S:Int)-1)=((S-1:Nat):Int):=by rw[w_id (by omega) (by omega)];omega
  simp only[hS,hS',c0,c1,c2,c3,xah,xab,letJ,xai,xaf,zdz]
  have hstep:zbl gs m M (k+1)=if(zbl gs m M k).getD S false then zeg gs m (zbl gs m M k) S m else zbl gs m M k:=by rw[←hS];rfl
  rw[hstep]
  have hRl:=zdz gs m M k
  generalize zbl gs m M k=R at hRl ⊢
  cases hR:R.getD S false
  ·simp only[xao,xab,xaw,xbf]
  ·simp only[xaq,xac,if_true,l0,l5,xah,xai,xab,xce,xaf]
   refine zaa (b:=((m:Int),gs,R,(S:Int),zcj m S)) (fun c=>((m:Int),gs,R,(S:Int),zis m S c,(m:Int),(c:Int))) m rfl (fun c hc=>?_) ?_ ?_
   ·have d1:(c:Int)<(m:Int):=by omega
    have d2:(0:Int)≤(c:Int):=by omega
    have d3:w ((c:Int)+1)=((c+1:Nat):Int):=by rw[w_id (by omega) (by omega)];omega
    have d4:=bit_eq S (by omega) c (by omega)
    rw[xaf]at d4
    simp only[d1,d2,d3,xah,xab,xai,zff,xaf,d4]
    rfl
   ·have:¬((m:Int)<(m:Int)):=by omega
    simp only[this,xal,xac,flagsTo_all]
   ·have hfl:=zez m S
    simp only
    rw[h.d52 hn (by omega)]
    simp only[xaa,zem,hfl]
    obtain⟨v,hv⟩:∃v,zap (zcj m S) gs=v:=⟨_,rfl⟩
    have hvl:v.length=m:=by rw[←hv,zem,hfl]
    have hmk:∀c,zeg gs m R S (c+1)=if zhi v (zcj m S) c m then(zeg gs m R S c).set (S-2^c) true else zeg gs m R S c:=fun c=>by rw[←hv];rfl
    have hml:=zer gs m R S
    rw[hv]
    refine zaa (b:=((m:Int),gs,zeg gs m R S m,(S:Int))) (fun c=>((m:Int),gs,zeg gs m R S c,(S:Int),zcj m S,v,(m:Int),(c:Int))) m rfl (fun c hc=>?_) ?_ (by simp only[c3])
    ·have d1:(c:Int)<(m:Int):=by omega
     have d2:(0:Int)≤(c:Int):=by omega
     have d3:w ((c:Int)+1)=((c+1:Nat):Int):=by rw[w_id (by omega) (by omega)];omega
     simp only[d1,d2,d3,xah,xab,xai,hfl,hvl,xaf]
     refine zaa (b:=((m:Int),gs,zeg gs m R S c,(S:Int),zcj m S,v,(c:Int),zhi v (zcj m S) c m,(m:Int),(c:Int))) (fun d=>((m:Int),gs,zeg gs m R S c,(S:Int),zcj m S,v,(c:Int),zhi v (zcj m S) c d,(m:Int),(c:Int),(m:Int),(d:Int))) m ?_ (fun d hd=>?_) ?_ ?_
     ·have:zhi v (zcj m S) c 0=(zcj m S).getD c false:=by
       unfold zhi;rw[zfn m S (by omega),xaf,zkb m S hc]
      simp only[this];rfl
     ·have e1:(d:Int)<(m:Int):=by omega
      have e2:(0:Int)≤(d:Int):=by omega
      have e3:w ((d:Int)+1)=((d+1:Nat):Int):=by rw[w_id (by omega) (by omega)];omega
      have e4:rem (zcj m S) (d:Int)=(zcj m S).getD d false:=by rw[zfn m S (by omega),xaf,zkb m S hd]
      simp only[d1,d2,e1,e2,e3,xah,xab,xai,hfl,hvl,xaf]
      have e5:zhi v (zcj m S) c (d+1)=(zhi v (zcj m S) c d&& !((zcj m S).getD d false&&decide (v.getD d 0<v.getD c 0))):=by rw[←e4];rfl
      rw[e5]
      cases zhi v (zcj m S) c d
      ·simp only[xac,xbe]
      ·cases(zcj m S).getD d false
       ·simp only[xab,xac,xao,xaq,xbe,xdn]
       ·by_cases e6:v.getD d 0<v.getD c 0
        ·have e7:¬v.getD c 0≤v.getD d 0:=by omega
         simp only[e6,e7,xab,xac,xao,xaq,xax,xah,xal]
        ·have e7:v.getD c 0≤v.getD d 0:=by omega
         simp only[e6,e7,xab,xac,xao,xaq,xax,xah,xal]
     ·have:¬((m:Int)<(m:Int)):=by omega
      simp only[this,xal,xac]
     ·have hsh:=shl_eq c (by omega)
      rw[xaf]at hsh
      simp only[hmk,d2,xah,xab,xaf,hsh]
      cases hl:zhi v (zcj m S) c m
      ·simp only[xac,xaw,xbf,d3]
      ·have ht:S.testBit c=true:=by
        have:=((zgv v (zcj m S) c m).1 hl).1
        rwa[zfn m S (by omega),xaf]at this
       have ho:=off_eq S (by omega) c (by omega) ht
       have o1:(0:Int)≤((S-2^c:Nat):Int):=by omega
       have o2:((S-2^c:Nat):Int)<(M:Int):=by have:=xik S (2^c);generalize S-2^c=T at *;omega
       simp only[xab,if_true,ho,o1,o2,hml,hRl,xah,xai,xaf,d3]
    ·have:¬((m:Int)<(m:Int)):=by omega
     simp only[this,xal,xac]
 ·have:¬((0:Int)<((M-1-(M-1):Nat):Int)):=by omega
  simp only[this,xal,xac]
 ·simp only
  refine zaa (b:=zgr gs m M m) (fun c=>(zbl gs m M (M-1),zgr gs m M c,(m:Int),(c:Int))) m rfl (fun c hc=>?_) ?_ rfl
  ·have d1:(c:Int)<(m:Int):=by omega
   have d2:(0:Int)≤(c:Int):=by omega
   have d3:w ((c:Int)+1)=((c+1:Nat):Int):=by rw[w_id (by omega) (by omega)];omega
   have hsh:=shl_eq c (by omega)
   rw[xaf]at hsh
   have o1:(0:Int)≤((2^c:Nat):Int):=xku _
   have o2:((2^c:Nat):Int)<(M:Int):=by have:=hc7 c hc;omega
   have hpl:=possL_len gs m M c
   have hlim:((zgr gs m M c).length:Int)+(([(c:Int)]:List Int).length:Int)≤LIM:=by rw[zbv];simp;omega
   simp only[d1,d2,d3,hsh,o1,o2,xah,xab,xai,letJ,zdz,xaf,zgr]
   cases(zbl gs m M (M-1)).getD (2^c) false
   ·simp only[xac,xaw,xbf]
   ·simp only[xab,if_true,hlim,xah]
  ·have:¬((m:Int)<(m:Int)):=by omega
   simp only[this,xal,xac]
def lowP(gs:List Grp)(o:List Int)(m:Nat):Prop:=∀j,j<m→∀c∈o.drop j,wsum (zde (o.drop j) (o.getD j 0)) gs≤wsum (zde (o.drop j) c) gs
def Reach(gs:List Grp)(n:Nat)(S:Nat):Prop:=∃b:List Int,isB n b∧(∀c:Nat,c<n→(S.testBit c=true↔(c:Int)∉b))∧∀s:List Int,isB n (b++s)→(b++s).length=n→lowP gs (b++s) b.length
def reach_step{n:Nat}{gs:List Grp}{N:Int}(h:PileOK n gs N)(hn:n≤7){S c:Nat}(hS:S<128)(hc:c<n)(hr:Reach gs n S)(hl:zhi (zap (zcj n S) gs) (zcj n S) c n=true):Reach gs n (S-2^c):=by
 obtain⟨b,hb,hset,hlow⟩:=hr
 obtain⟨h1,h2⟩:=(zgv _ _ _ _).1 hl
 rw[zfn n S (by omega),xaf]at h1
 have hcb:=(hset c hc).1 h1
 refine⟨b++[(c:Int)],⟨xdp.2 ⟨hb.1,by simp,fun x hx y hy e=>hcb (by rw[xbn.1 hy]at e;rw[←e];exact hx)⟩,fun x hx=>?_⟩,fun d hd=>?_,fun s hs hsl j hj x hx=>?_⟩
 ·rcases xbq.1 hx with hx|hx
  ·exact hb.2 x hx
  ·rw[xbn.1 hx];omega
 ·rw[tb_off S hS c (by omega) h1 d (by omega),xan,hset d hd,xam,xbq,xbn]
  constructor
  ·rintro⟨p,q⟩ (e|e)
   ·exact p e
   ·exact q (by omega)
  ·intro p
   exact⟨fun e=>p (.inl e),fun e=>p (.inr (by rw[e]))⟩
 ·have ea:b++[(c:Int)]++s=b++(c:Int)::s:=by simp
  rw[ea]at hs hsl hx ⊢
  rcases xcy j b.length with hlt|hge
  ·exact hlow _ hs hsl j hlt x hx
  ·have hj':j=b.length:=by simp at hj;omega
   subst hj'
   have e1:(b++(c:Int)::s).drop b.length=(c:Int)::s:=by simp
   have e2:(b++(c:Int)::s).getD b.length 0=(c:Int):=by simp[xae]
   rw[e1]at hx ⊢
   rw[e2]
   have hmem:∀y:Int,0≤y→y<n→rem (zcj n S) y=decide (y∈(c:Int)::s):=fun y hy hy'=>by
    rw[zfn n S ⟨hy,hy'⟩,xff,hset y.toNat (by omega),xam,show((y.toNat:Nat):Int)=y by omega]
    have hm:=zqc (by omega) hs (by rw[hsl];omega) ⟨hy,hy'⟩
    constructor
    ·intro hnb
     rcases xbq.1 hm with hm|hm
     ·exact absurd hm hnb
     ·exact hm
    ·intro hy2 hyb
     exact(xdp.1 hs.1).2.2 _ hyb _ hy2 rfl
   have hv:∀y:Nat,y<n→(zap (zcj n S) gs).getD y 0=wsum (zde ((c:Int)::s) (y:Int)) gs:=fun y hy=>by
    rw[zgm _ gs (by rw[zez];omega)]
    refine zgh fun g hg=>?_
    have hgb:=(h.ballots g hg).1
    unfold zdk zde
    rw[zgd fun z hz=>hmem z (hgb.2 z hz).1 (hgb.2 z hz).2]
   have hxb:=hs.2 x (xbq.2 (.inr hx))
   have hxn:((x.toNat:Nat):Int)=x:=by omega
   have h3:=h2 x.toNat (by omega) (by rw[hxn,hmem x hxb.1 hxb.2];exact xag hx)
   rwa[hv c hc,hv x.toNat (by omega),hxn]at h3
def get_set{R:List Bool}{i j:Nat}(hj:j<R.length)(h:(R.set i true).getD j false=true):j=i∨R.getD j false=true:=by
 rw[xae,xfw]at h
 by_cases e:i=j
 ·exact .inl e.symm
 ·rw[if_neg e,←xae]at h;exact .inr h
def zvo{R:List Bool}{i j:Nat}(hj:j<R.length)(h:j=i∨R.getD j false=true):(R.set i true).getD j false=true:=by
 rw[xae,xfw]
 by_cases e:i=j
 ·subst e;simp[hj]
 ·rw[if_neg e,←xae];exact h.resolve_left fun h=>e h.symm
def zob{n:Nat}{gs:List Grp}{N:Int}(h:PileOK n gs N)(hn:n≤7){S:Nat}(hS:S<128)(hr:Reach gs n S){R:List Bool}(hR:∀T,T<R.length→R.getD T false=true→Reach gs n T):∀c,c≤n→∀T,T<R.length→(zeg gs n R S c).getD T false=true→Reach gs n T
 | 0,_,T,hT,hg=>hR T hT hg
 |c+1,hc,T,hT,hg=>by
  unfold zeg at hg
  split at hg
  ·rename_i hl
   rcases get_set (by rw[zer];exact hT) hg with rfl|hg
   ·exact reach_step h hn hS (by omega) hr hl
   ·exact zob h hn hS hr hR c (by omega) T hT hg
  ·exact zob h hn hS hr hR c (by omega) T hT hg
def reach_all{n:Nat}{gs:List Grp}{N:Int}(h:PileOK n gs N)(hn:n≤7):∀k,∀T,T<2^n→(zbl gs n (2^n) k).getD T false=true→Reach gs n T
 | 0,T,hT,hg=>by
  unfold zbl at hg
  rcases get_set (by simpa using hT) hg with rfl|hg
  ·refine⟨[],⟨by simp,by simp⟩,fun c hc=>?_,fun s _ _ j hj=>absurd hj (by simp)⟩
   rw[Nat.testBit_two_pow_sub_one];simp[hc]
  ·simp[xae,hT]at hg
 |k+1,T,hT,hg=>by
  have hM:2^n≤128:=xbb (xck (by omega) hn) (by decide)
  have ih:=reach_all h hn k
  have hl:=zdz gs n (2^n) k
  unfold zbl at hg
  split at hg
  ·rename_i hs
   exact zob h hn (by omega) (ih _ (by omega) hs) (R:=zbl gs n (2^n) k) (fun T hT' hg'=>ih T (by omega) hg') n (xak n) T (by rw[hl];exact hT) hg
  ·exact ih T hT hg
def mark_keep{n:Nat}{gs:List Grp}{R:List Bool}{S T:Nat}(hT:T<R.length):∀c,R.getD T false=true→(zeg gs n R S c).getD T false=true
 | 0,hg=>hg
 |c+1,hg=>by
  have ih:=mark_keep (n:=n) (gs:=gs) (S:=S) hT c hg
  unfold zeg
  split
  ·exact zvo (by rw[zer];exact hT) (.inr ih)
  ·exact ih
def zwa{n:Nat}{gs:List Grp}{R:List Bool}{S d:Nat}(hS:S<R.length)(hl:zhi (zap (zcj n S) gs) (zcj n S) d n=true):∀c,d<c→(zeg gs n R S c).getD (S-2^d) false=true
 | 0,h=>by omega
 |c+1,h=>by
  unfold zeg
  by_cases e:d=c
  ·subst e
   rw[if_pos hl]
   exact zvo (by rw[zer];exact xdq (xik _ _) hS) (.inl rfl)
  ·have ih:=zwa hS hl c (by omega)
   split
   ·exact zvo (by rw[zer];exact xdq (xik _ _) hS) (.inr ih)
   ·exact ih
def zhq{n M:Nat}{gs:List Grp}{T:Nat}(hT:T<M):∀k j,j≤k→(zbl gs n M j).getD T false=true→(zbl gs n M k).getD T false=true
 | 0,j,hj,hg=>by
  obtain rfl:j=0:=by omega
  exact hg
 |k+1,j,hj,hg=>by
  by_cases e:j=k+1
  ·rw[←e];exact hg
  ·have ih:=zhq hT k j (by omega) hg
   unfold zbl
   split
   ·exact mark_keep (by rw[zdz];exact hT) n ih
   ·exact ih
def zwb{n:Nat}{gs:List Grp}{R:List Bool}{S T:Nat}(hS:S<128)(hn:n≤7)(hT:T<R.length)(hST:S≤T):∀c,c≤n→(zeg gs n R S c).getD T false=true→R.getD T false=true
 | 0,_,hg=>hg
 |c+1,hc,hg=>by
  unfold zeg at hg
  split at hg
  ·rename_i hl
   have h1:=((zgv _ _ _ _).1 hl).1
   rw[zfn n S (by omega),xaf]at h1
   have h2:=tb_ge S hS c (by omega) h1
   have h3:0<2^c:=xgf (by omega)
   rcases get_set (by rw[zer];exact hT) hg with e|hg
   ·omega
   ·exact zwb hS hn hT hST c (by omega) hg
  ·exact zwb hS hn hT hST c (by omega) hg
def zua{n M:Nat}{gs:List Grp}(hn:n≤7)(hM:M≤128){T:Nat}(hT:T<M):∀k,M-1-k≤T→(zbl gs n M (k+1)).getD T false=true→(zbl gs n M (M-1-T)).getD T false=true:=by
 intro k hk hg
 have key:∀k,M-1-T≤k→(zbl gs n M k).getD T false=true→(zbl gs n M (M-1-T)).getD T false=true:=by
  intro k
  induction k with
  |zero=>intro h hg;rw[show M-1-T=0 by omega];exact hg
  |succ k ih=>
   intro h hg
   by_cases e:M-1-T=k+1
   ·rw[e];exact hg
   ·refine ih (by omega) ?_
    unfold zbl at hg
    split at hg
    ·exact zwb (by omega) hn (by rw[zdz];exact hT) (by omega) n (xak n) hg
    ·exact hg
 exact key (k+1) (by omega) hg
def low_ex(v:List Int)(r:List Bool)(n:Nat)(hex:∃c:Nat,c<n∧rem r (c:Int)=true):∃c:Nat,c<n∧zhi v r c n=true:=by
 have key:∀(k:Nat) (c:Nat),c<n→rem r (c:Int)=true→(∀j:Nat,j<n→rem r (j:Int)=true→(v.getD j 0<v.getD c 0)→j<k)→∃c:Nat,c<n∧zhi v r c n=true:=by
  intro k
  induction k with
  |zero=>
   intro c hc hr hk
   refine⟨c,hc,(zgv _ _ _ _).2 ⟨hr,fun j hj hr'=>?_⟩⟩
   by_cases h:v.getD j 0<v.getD c 0
   ·exact absurd (hk j hj hr' h) (by omega)
   ·omega
  |succ k ih=>
   intro c hc hr hk
   by_cases h:k<n∧rem r (k:Int)=true∧v.getD k 0<v.getD c 0
   ·refine ih k h.1 h.2.1 fun j hj hr' hlt=>?_
    have h1:=hk j hj hr' (by omega)
    have:j≠k:=fun e=>by rw[e]at hlt;omega
    omega
   ·refine ih c hc hr fun j hj hr' hlt=>?_
    have h1:=hk j hj hr' hlt
    have:j≠k:=fun e=>h ⟨by omega,by rw[←e];exact hr',by rw[←e];exact hlt⟩
    omega
 obtain⟨c,hc,hr⟩:=hex
 exact key n c hc hr fun j hj _ _=>hj
def some_single{n:Nat}{gs:List Grp}(hn:n≤7):∀S:Nat,0<S→S<2^n→(zbl gs n (2^n) (2^n-1)).getD S false=true→∃c,c<n∧(zbl gs n (2^n) (2^n-1)).getD (2^c) false=true:=by
 have hM:2^n≤128:=xbb (xck (by omega) hn) (by decide)
 intro S
 induction S using Nat.strongRecOn with
 |_ S ih=>
  intro h0 hS hg
  obtain⟨d,hd,hdt⟩:=tb_ex S (by omega) h0
  have hdn:d<n:=by
   have h1:=tb_ge S (by omega) d hd hdt
   rcases xcy d n with h|h
   ·exact h
   ·have:=xck (show 0<2 by omega) h;omega
  obtain⟨c,hc,hl⟩:=low_ex (zap (zcj n S) gs) (zcj n S) n ⟨d,hdn,by rw[zfn n S (by omega),xaf];exact hdt⟩
  have hct:=((zgv _ _ _ _).1 hl).1
  rw[zfn n S (by omega),xaf]at hct
  have hge:=tb_ge S (by omega) c (by omega) hct
  have hpos:0<2^c:=xgf (by omega)
  have hturn:=zua (gs:=gs) hn hM hS (2^n-2) (by omega) (by rw[show 2^n-2+1=2^n-1 by omega];exact hg)
  have hnew:(zbl gs n (2^n) (2^n-1-S+1)).getD (S-2^c) false=true:=by
   unfold zbl
   rw[show 2^n-1-(2^n-1-S)=S by omega,if_pos hturn]
   exact zwa (by rw[zdz];exact hS) hl n hc
  have hfin:=zhq (n:=n) (M:=2^n) (gs:=gs) (T:=S-2^c) (by omega) (2^n-1) _ (by omega) hnew
  by_cases e:S-2^c=0
  ·obtain rfl:S=2^c:=by omega
   exact⟨c,hc,hg⟩
  ·exact ih (S-2^c) (by omega) (by omega) (by omega) hfin
def zhr{gs:List Grp}{n M:Nat}{x:Int}:∀{c:Nat},x∈zgr gs n M c↔∃d:Nat,x=(d:Int)∧d<c∧(zbl gs n M (M-1)).getD (2^d) false=true
 | 0=>by simp[zgr]
 |c+1=>by
  have ih:=zhr (gs:=gs) (n:=n) (M:=M) (x:=x) (c:=c)
  unfold zgr
  split
  ·rename_i h
   rw[xbq,ih,xbn]
   constructor
   ·rintro(⟨d,h1,h2,h3⟩|h1)
    ·exact⟨d,h1,by omega,h3⟩
    ·exact⟨c,h1,by omega,h⟩
   ·rintro⟨d,h1,h2,h3⟩
    by_cases e:d=c
    ·exact .inr (by rw[h1,e])
    ·exact .inl ⟨d,h1,by omega,h3⟩
  ·rename_i h
   rw[ih]
   constructor
   ·rintro⟨d,h1,h2,h3⟩;exact⟨d,h1,by omega,h3⟩
   ·rintro⟨d,h1,h2,h3⟩
    refine⟨d,h1,?_,h3⟩
    have:d≠c:=fun e=>h (by rw[←e];exact h3)
    omega
def zrq{gs:List Grp}{n M:Nat}:∀c:Nat,(zgr gs n M c).Nodup
 | 0=>by simp[zgr]
 |c+1=>by
  have ih:=zrq (gs:=gs) (n:=n) (M:=M) c
  unfold zgr
  split
  ·refine xdp.2 ⟨ih,by simp,fun x hx y hy e=>?_⟩
   obtain⟨d,h1,h2,_⟩:=zhr.1 hx
   rw[xbn.1 hy]at e
   omega
  ·exact ih
def poss_ok{n:Nat}{gs:List Grp}{N:Int}(h:PileOK n gs N)(h1:1≤n)(hn:n≤7):zgr gs n (2^n) n≠ []∧∀x∈zgr gs n (2^n) n,∃o,isB n o∧o.length=n∧lowest gs o 0∧o.getD (n-1) 0=x:=by
 constructor
 ·have hM1:2≤2^n:=xbb (show 2≤2^1 by decide) (xck (by omega) (by omega))
  have h0:(zbl gs n (2^n) 0).getD (2^n-1) false=true:=by
   unfold zbl
   exact zvo (by simp;omega) (.inl rfl)
  obtain⟨c,hc,hg⟩:=some_single (gs:=gs) hn (2^n-1) (by omega) (by omega) (zhq (by omega) _ 0 (by omega) h0)
  intro e
  have:=(zhr (gs:=gs) (n:=n) (M:=2^n) (x:=(c:Int)) (c:=n)).2 ⟨c,rfl,hc,hg⟩
  rw[e]at this
  simp at this
 ·intro x hx
  obtain⟨c,rfl,hc,hg⟩:=zhr.1 hx
  obtain⟨b,hb,hset,hlow⟩:=reach_all h hn _ _ (xfh (by omega) hc) hg
  have hset':∀d:Nat,d<n→(d=c↔(d:Int)∉b):=fun d hd=>by
   rw[←hset d hd,Nat.testBit_two_pow]
   simp[eq_comm]
  have hcb:=(hset' c hc).1 rfl
  have hB:isB n (b++[(c:Int)]):=⟨xdp.2 ⟨hb.1,by simp,fun x hx y hy e=>hcb (by rw[xbn.1 hy]at e;rw[←e];exact hx)⟩,fun x hx=>by
   rcases xbq.1 hx with hx|hx
   ·exact hb.2 x hx
   ·rw[xbn.1 hx];omega⟩
  have hlen:(b++[(c:Int)]).length=n:=by
   have hp:=zfc ((List.range n).map fun(i:Nat)=>(i:Int)) (b++[(c:Int)]) ?_ ?_ ?_
   ·have:=hp.length_eq;simpa using this.symm
   ·refine xjh.2 (xii.imp fun h e=>h (by omega))
   ·intro x hx
    obtain⟨d,hd,rfl⟩:=xdg.1 hx
    have hd':=xbu.1 hd
    by_cases e:d=c
    ·subst e;simp
    ·have:(d:Int)∈b:=xhg fun hh=>e ((hset' d hd').2 hh)
     exact xbq.2 (.inl this)
   ·have:=zby n (b++[(c:Int)]) hB.1 hB.2
    simpa using this
  refine⟨b++[(c:Int)],hB,hlen,fun j _ hj y hy=>?_,?_⟩
  ·rcases xcy j b.length with hlt|hge
   ·exact hlow [(c:Int)] hB hlen j hlt y hy
   ·have hj':j=b.length:=by simp at hj;omega
    subst hj'
    have e1:(b++[(c:Int)]).drop b.length=[(c:Int)]:=by simp
    have e2:(b++[(c:Int)]).getD b.length 0=(c:Int):=by simp[xae]
    rw[e1]at hy ⊢
    rw[e2,xbn.1 hy]
    exact xkp _
  ·have:n-1=b.length:=by simp at hlen;omega
   rw[this]
   simp[xae]
end Go.Proofs.YtfgjbkjddcjlfaaGreat
namespace Go.Proofs.YtfgjbkjddcjlfaaGreat
open Go Go.X
def nv:List Int→Nat
 | []=>0
 |x::l=>x.toNat+4294967296*nv l
def IsL(l:List Int):Prop:=∀x∈l,0≤x∧x<4294967296
def NF(l:List Int):Prop:=IsL l∧l.getLast?≠some 0
def IsL.nil:IsL []:=fun _ h=>absurd h (by simp)
def IsL.cons{x:Int}{l:List Int}(h0:0≤x)(h1:x<4294967296)(h:IsL l):IsL (x::l):=fun y hy=>by
 rcases xbd.1 hy with rfl|hy
 ·exact⟨h0,h1⟩
 ·exact h y hy
def IsL.tail{x:Int}{l:List Int}(h:IsL (x::l)):IsL l:=fun y hy=>h y (xap _ hy)
def IsL.head{x:Int}{l:List Int}(h:IsL (x::l)):0≤x∧x<4294967296:=h x xdb
def IsL.take{l:List Int}(h:IsL l)(k:Nat):IsL (l.take k):=fun y hy=>h y (xcq hy)
def IsL.getD{l:List Int}(h:IsL l)(i:Nat):0≤l.getD i 0∧l.getD i 0<4294967296:=by
 rw[xae]
 cases hi:l[i]? with
 |none=>simp
 |some x=>
  obtain⟨h1,h2⟩:=xew.1 hi
  exact h x (h2▸xbc h1)
def IsL.set{l:List Int}(h:IsL l)(i:Nat){x:Int}(h0:0≤x)(h1:x<4294967296):IsL (l.set i x):=fun y hy=>by
 rcases List.mem_or_eq_of_mem_set hy with hy|rfl
 ·exact h y hy
 ·exact⟨h0,h1⟩
def IsL.zeros(n:Nat):IsL (List.replicate n 0):=fun y hy=>by rw[xgl hy];omega
def zmf:∀(a b:List Int),nv (a++b)=nv a+4294967296^a.length*nv b
 | [],b=>by simp[nv]
 |x::a,b=>by
  simp only[xca,nv,zmf a b,xaz,xch]
  generalize 4294967296^a.length=P
  rw[xcz,xdm,←xbr,xby P 4294967296]
def zfi:∀n:Nat,nv (List.replicate n 0)=0
 | 0=>rfl
 |n+1=>by simp[List.replicate_succ,nv,zfi n]
def zvz:∀{l:List Int},IsL l→nv l<4294967296^l.length
 | [],_=>by simp[nv]
 |x::l,h=>by
  have ih:=zvz h.tail
  have hx:=h.head
  simp only[nv,xaz,xch]
  generalize 4294967296^l.length=P at *
  have:x.toNat<4294967296:=by omega
  omega
def NF.tail{x:Int}{l:List Int}(h:NF (x::l)):NF l:=⟨h.1.tail,fun he=>h.2 (by
 cases l with
 |nil=>simp at he
 |cons y l=>rw[List.getLast?_cons_cons];exact he)⟩
def NF.nil:NF []:=⟨IsL.nil,by simp⟩
def NF.pos:∀{l:List Int},NF l→l≠ []→0<nv l
 | [],_,h=>absurd rfl h
 | [x],h,_=>by
  have hx:=h.1.head
  have:x≠0:=fun e=>h.2 (by simp[e])
  simp only[nv];omega
 |x::y::l,h,_=>by
  have:=NF.pos h.tail (by simp)
  simp only[nv]at this ⊢;omega
def nv_inj:∀{a b:List Int},NF a→NF b→nv a=nv b→a=b
 | [],[],_,_,_=>rfl
 | [],y::b,_,hb,h=>absurd (NF.pos hb (by simp)) (by rw[←h];simp[nv])
 |x::a,[],ha,_,h=>absurd (NF.pos ha (by simp)) (by rw[h];simp[nv])
 |x::a,y::b,ha,hb,h=>by
  have hx:=ha.1.head
  have hy:=hb.1.head
  simp only[nv]at h
  have h1:nv a=nv b:=by omega
  have h2:x=y:=by omega
  rw[h2,nv_inj ha.tail hb.tail h1]
def zav(n:Nat):List Int:=if h:n=0 then []else((n%4294967296:Nat):Int)::zav (n/4294967296)
 termination_by n
 decreasing_by exact Nat.div_lt_self (xgu h) (by omega)
def zes:zav 0=[]:=by rw[zav];simp
def zml{n:Nat}(h:n≠0):zav n=((n%4294967296:Nat):Int)::zav (n/4294967296):=by rw[zav];simp[h]
def zwc(n:Nat):NF (zav n)∧nv (zav n)=n:=by
 induction n using Nat.strongRecOn with
 |_ n ih=>
  by_cases h:n=0
  ·subst h;rw[zes];exact⟨NF.nil,rfl⟩
  ·have⟨h1,h2⟩:=ih (n/4294967296) (Nat.div_lt_self (by omega) (by omega))
   rw[zml h]
   refine⟨⟨h1.1.cons (by omega) (by omega),?_⟩,?_⟩
   ·cases hl:zav (n/4294967296)with
    |nil=>
     rw[hl]at h2
     simp only[nv]at h2
     simp only[List.getLast?_singleton,ne_eq,xat]
     omega
    |cons y l=>
     rw[List.getLast?_cons_cons,←hl]
     exact h1.2
   ·simp only[nv,h2];omega
def zng(n:Nat):NF (zav n):=(zwc n).1
def zaj(n:Nat):IsL (zav n):=(zwc n).1.1
def zas(n:Nat):nv (zav n)=n:=(zwc n).2
def limbs_nv{l:List Int}(h:NF l):zav (nv l)=l:=nv_inj (zng _) h (zas _)
def limbs_nil{n:Nat}:zav n=[]↔n=0:=⟨fun h=>by rw[←zas n,h];rfl,fun h=>by rw[h,zes]⟩
def zio{n:Nat}:0<(zav n).length↔0<n:=by
 rw[xcr,ne_eq,limbs_nil];omega
def zaz(n:Nat):∀k:Nat,(zav n).length≤k↔n<4294967296^k:=by
 induction n using Nat.strongRecOn with
 |_ n ih=>
  intro k
  by_cases h:n=0
  ·subst h;rw[zes];simp;exact xgf (by omega)
  ·rw[zml h,xaz]
   cases k with
   |zero=>simp;omega
   |succ k=>
    have:=ih (n/4294967296) (Nat.div_lt_self (by omega) (by omega)) k
    rw[Nat.succ_le_succ_iff,this,xch]
    exact xep (by omega)
def take_snoc(l:List Int){n:Nat}(h:n<l.length):l.take (n+1)=l.take n++[l.getD n 0]:=by
 rw[xhb,xae,xar h];rfl
def take_tlen{l:List Int}(h:IsL l):∀n,n≤l.length→l.take (tlen l n)=zav (nv (l.take n))
 | 0,_=>by simp[tlen,nv,zes]
 |n+1,hn=>by
  have ih:=take_tlen h n (by omega)
  have hs:=take_snoc l (n:=n) (by omega)
  unfold tlen
  split
  ·rename_i h0
   rw[ih,hs,zmf,h0];simp[nv]
  ·rename_i h0
   refine(limbs_nv ⟨h.take _,?_⟩).symm
   rw[hs,List.getLast?_append];simp;exact h0
def take_tl{l:List Int}(h:IsL l):l.take (tlen l l.length)=zav (nv l):=by
 have:=take_tlen h l.length (xak _)
 rwa[xbh]at this
def tlen_eq{l:List Int}(h:IsL l):tlen l l.length=(zav (nv l)).length:=by
 have:=xbx List.length (take_tl h)
 rw[xbj,xeo (tlen_le _ _)]at this
 exact this
def limbs_le{l:List Int}(h:IsL l):(zav (nv l)).length≤l.length:=by rw[←tlen_eq h];exact tlen_le _ _
def digit_low{U V W top s t u0 z q r h:Nat}(hV:V=(h*4294967296+s)*W+t)(hU:U=(top*4294967296+u0)*W+z)(hz:z<W)(hq:q*h+r=top)(hc:r*4294967296+u0<q*s):U<q*V:=by
 have h1:(top*4294967296+u0)+1≤q*(h*4294967296+s):=by
  rw[←hq,xcz,xcl,←xbr];omega
 have h2:=xav W h1
 rw[xcl,xko]at h2
 rw[hV,xcz,←xbr,hU]
 omega
def zun{U V W top s t u0 z q r h:Nat}(hV:V=(h*4294967296+s)*W+t)(hU:U=(top*4294967296+u0)*W+z)(ht:t<W)(hh:1≤h)(hq:q*h+r=top)(hq2:q<4294967296)(hc:q*s≤r*4294967296+u0):q*V<U+V:=by
 have h1:q*(h*4294967296+s)≤top*4294967296+u0:=by
  rw[←hq,xcz,xcl,←xbr];omega
 have h2:=xav W h1
 have h3:q*t≤4294967296*W:=xdf (by omega) (by omega)
 have h4:q*t<4294967296*W:=by
  rcases xda q with h0|h0
  ·subst h0;rw[xfl];omega
  ·exact xau (Nat.mul_lt_mul_of_pos_left ht h0) (xav _ (by omega))
 have h5:4294967296*W≤V:=by
  rw[hV]
  have:4294967296*W≤(h*4294967296+s)*W:=xav _ (by omega)
  omega
 have h6:q*V=q*(h*4294967296+s)*W+q*t:=by rw[hV,xcz,←xbr]
 omega
def zvb(i:Nat):0<4294967296^i:=xgf (by decide)
def nv_split(l:List Int)(i:Nat)(h:i≤l.length):nv l=nv (l.take i)+4294967296^i*nv (l.drop i):=by
 have:=zmf (l.take i) (l.drop i)
 rw[xez,xbj,xeo h]at this
 exact this
def nv_drop{l:List Int}(hl:IsL l){i:Nat}(h:i≤l.length):nv (l.drop i)=nv l/4294967296^i:=by
 have h1:=zvz (hl.take i)
 rw[xbj,xeo h]at h1
 rw[nv_split l i h,xki _ _ (zvb i),xfp h1,xdc]
def zst(l:List Int){i:Nat}(h:i<l.length):l.drop i=l.getD i 0::l.drop (i+1):=by
 rw[xae,xar h]
 exact xjd h
def zhh{l:List Int}(hl:IsL l)(i:Nat):l.getD i 0=((nv l/4294967296^i%4294967296:Nat):Int):=by
 by_cases h:i<l.length
 ·have h1:=nv_drop hl (xfm h)
  rw[zst l h]at h1
  simp only[nv]at h1
  have h2:=hl.getD i
  rw[←h1]
  omega
 ·have h1:=zvz hl
  rw[xae,xdh (by omega)]
  have h2:nv l<4294967296^i:=xau h1 (xck (by decide) (by omega))
  rw[xfp h2]
  rfl
def zme:∀(l:List Int) (i:Nat) (x:Int),i<l.length→nv (l.set i x)+4294967296^i*(l.getD i 0).toNat=nv l+4294967296^i*x.toNat
 | [],i,x,h=>by simp at h
 |y::l,0,x,h=>by simp[nv];omega
 |y::l,i+1,x,h=>by
  have ih:=zme l i x (by simpa using h)
  simp only[List.set_cons_succ,nv,xhm,xch]
  generalize hP:4294967296^i=P at ih ⊢
  generalize(l.getD i 0).toNat=c at ih ⊢
  generalize x.toNat=e at ih ⊢
  have e1:P*4294967296*c=4294967296*(P*c):=by rw[xby P 4294967296,xbr]
  have e2:P*4294967296*e=4294967296*(P*e):=by rw[xby P 4294967296,xbr]
  rw[e1,e2]
  omega
def zoa{l:List Int}(hl:IsL l){i:Nat}(x:Int)(h:i<l.length)(h0:nv l<4294967296^i):nv (l.set i x)=nv l+4294967296^i*x.toNat:=by
 have h1:=zme l i x h
 rw[zhh hl,xfp h0]at h1
 simpa using h1
def zce{n:Nat}(h:n≤4294967296):decide ((n:Int)≤LIM)=true:=by
 rw[zbv];exact xag (by omega)
def zcr{l:List Int}(h:IsL l):l.take (zau l)=zav (nv l):=take_tl h
def zbq{l:List Int}(h:IsL l):(zav (nv l)).length≤l.length:=limbs_le h
def zbw{n:Int}(h0:0≤n)(h1:n<18446744073709551616):wu64 n=n:=by
 show IntKind.u64.wrap n=n
 simp[IntKind.wrap,IntKind.bits,IntKind.signed];omega
def zls(n:Int):wu32 n=n%4294967296:=by
 show IntKind.u32.wrap n=_
 simp[IntKind.wrap,IntKind.bits,IntKind.signed]
def wu64_mod(n:Int):wu64 n=n%18446744073709551616:=by
 show IntKind.u64.wrap n=_
 simp[IntKind.wrap,IntKind.bits,IntKind.signed]
def zbx{n:Int}(h0:-9223372036854775808≤n)(h1:n≤9223372036854775807):w n=n:=IntWalk.i64_in n ⟨h0,h1⟩
def sh32(n:Int):Int.fdiv n (2^(min (Int.toNat 32) 64))=n/4294967296:=by
 show Int.fdiv n 4294967296=_
 exact xiv n (by decide)
def zaq{α β R:Type}(f:α→β)(g:(α→β)→Option R):letJ f g=g f:=by
 cases h:letJ f g
 ·exact h.symm
 ·exact h.symm
def zcq{α β γ:Type}{f:α→Option (α⊕β)}{k:β→Option γ}{a0:α}{Q:Option γ→Prop}(R:Nat→α→Prop)(n:Nat)(h0:R 0 a0)(hs:∀i a,i<n→R i a→∃a',f a=some (.inl a')∧R (i+1) a')(he:∀a,R n a→∃b,f a=some (.inr b)∧Q (k b)):Q ((zad f a0).bind k):=by
 have key:∀m i a,i+m=n→R i a→∃b,zad f a=some b∧Q (k b):=by
  intro m
  induction m with
  |zero=>
   intro i a hi hr
   obtain rfl:i=n:=by omega
   obtain⟨b,h1,h2⟩:=he a hr
   exact⟨b,zgi h1,h2⟩
  |succ m ih=>
   intro i a hi hr
   obtain⟨a',h1,h2⟩:=hs i a (by omega) hr
   obtain⟨b,h3,h4⟩:=ih (i+1) a' (by omega) h2
   exact⟨b,zkl h1 h3,h4⟩
 obtain⟨b,h1,h2⟩:=key n 0 a0 (by omega) h0
 rw[h1]
 exact h2
def zwv{xs:List Int}(h:xs.length≤4294967296):d137 xs=some xs:=by
 unfold d137;rw[zce h];rfl
def ziz{a:List Int}(ha:IsL a)(h:a.length≤4294967296):d135 a=some (zav (nv a)):=by
 unfold d135
 have:=zbq ha
 rw[zce h,xab,xaa,zcr ha,zwv (by omega)]
 rfl
def d95_eq{n:Int}(h0:0≤n)(h1:n<18446744073709551616):d95 n=some (zav n.toNat):=by
 unfold d95
 have e1:wu32 n=n%4294967296:=zls n
 have e2:wu32 (wu64 (Int.fdiv n (2^(min (Int.toNat 32) 64))))=n/4294967296:=by
  rw[sh32,zbw (by omega) (by omega),zls]
  omega
 rw[e1,e2]
 have hL:IsL [n%4294967296,n/4294967296]:=IsL.cons (by omega) (by omega) (IsL.cons (by omega) (by omega) IsL.nil)
 rw[ziz hL (by simp)]
 have:nv [n%4294967296,n/4294967296]=n.toNat:=by simp only[nv];omega
 rw[this]
 rfl
def d199_eq{a:List Int}(ha:IsL a){i:Int}(h0:0≤i):d199 a i=some (a.getD i.toNat 0):=by
 unfold d199
 have hg:=ha.getD i.toNat
 by_cases h:i<(a.length:Int)
 ·simp only[h,h0,xah,xab,xai]
  rw[zbw hg.1 (by omega)]
 ·simp only[h,xal,xac]
  rw[xae,xdh (by omega)]
  rfl
def ziy{a:List Int}(ha:IsL a)(i:Nat):d199 a (i:Int)=some (a.getD i 0):=by
 rw[d199_eq ha (by omega)];rfl
def cmpN(x y:Nat):Int:=if x<y then -1 else if y<x then 1 else 0
def zjw{l:List Int}{k:Nat}(h:k<l.length):nv (l.take (k+1))=nv (l.take k)+4294967296^k*(l.getD k 0).toNat:=by
 rw[take_snoc l h,zmf,xbj,xeo (by omega)]
 simp[nv]
def top_lt{l:List Int}(hl:IsL l)(k:Nat):nv (l.take k)<4294967296^k:=by
 have h1:=zvz (hl.take k)
 exact xau h1 (xck (by decide) (by rw[xbj];omega))
def digit_cmp{P p q x y:Nat}(hp:p<P)(hq:q<P)(h:x<y):p+P*x<q+P*y:=by
 have:P*(x+1)≤P*y:=xdk _ h
 rw[xcz,xdu]at this
 omega
def d164_eq{a b:List Int}(ha:IsL a)(hb:IsL b)(la:a.length≤4294967296)(lb:b.length≤4294967296):d164 a b=some (cmpN (nv a) (nv b)):=by
 unfold d164
 rw[zce la,zce lb]
 simp only[xab,xaa,zcr ha,zcr hb]
 have hla:=zbq ha
 have hlb:=zbq hb
 have hA:=zaj (nv a)
 have hB:=zaj (nv b)
 have eA:=zas (nv a)
 have eB:=zas (nv b)
 have cA:=zaz (nv a)
 have cB:=zaz (nv b)
 generalize hxA:zav (nv a)=A at *
 generalize hxB:zav (nv b)=B at *
 by_cases hne:A.length=B.length
 ·have e1:decide ((A.length:Int)=(B.length:Int))=true:=xag (by omega)
  simp only[e1,xaq,xac]
  have key:∀k,k≤A.length→nv (A.drop k)=nv (B.drop k)→(zad (β:=Unit⊕Int) (fun((a_1,b_1,i):(List Int)×(List Int)×Int)=>
    bif (decide (0≤i))then
     bif (decide (0≤i)&&decide (i<(a_1.length:Int)))then
      bif (decide (0≤i)&&decide (i<(b_1.length:Int)))then
       bif (decide ((List.getD a_1 (Int.toNat i) 0)<(List.getD b_1 (Int.toNat i) 0)))then
        some (Sum.inr (Sum.inr (-1)))
       else
        bif (decide (0≤i)&&decide (i<(a_1.length:Int)))then
         bif (decide (0≤i)&&decide (i<(b_1.length:Int)))then
          bif (decide ((List.getD b_1 (Int.toNat i) 0)<(List.getD a_1 (Int.toNat i) 0)))then
           some (Sum.inr (Sum.inr 1))
          else
           some (Sum.inl (a_1,b_1,(w (i-1))))
         else none
        else none
      else none
     else none
    else
     some (Sum.inr (Sum.inl ()))) (A,B,(k:Int)-1)).bind (fun
  |Sum.inl _=>
   some 0
  |Sum.inr t4=>
   some t4)=some (cmpN (nv (A.take k)) (nv (B.take k))):=by
   intro k
   induction k with
   |zero=>
    intro _ _
    rw[zgi (b:=Sum.inl ()) (by rfl)]
    rfl
   |succ k ih=>
    intro hk hd
    have hkA:k<A.length:=by omega
    have hkB:k<B.length:=by omega
    have i1:((k+1:Nat):Int)-1=(k:Int):=by omega
    rw[i1]
    have d0:decide ((0:Int)≤(k:Int))=true:=xag (by omega)
    have dA:decide ((k:Int)<(A.length:Int))=true:=xag (by omega)
    have dB:decide ((k:Int)<(B.length:Int))=true:=xag (by omega)
    have tA:=zjw hkA
    have tB:=zjw hkB
    have lA:=top_lt hA k
    have lB:=top_lt hB k
    have gA:=hA.getD k
    have gB:=hB.getD k
    rw[tA,tB]
    have hkn:Int.toNat (k:Int)=k:=rfl
    rcases xjm (A.getD k 0) (B.getD k 0)with h|h|h
    ·rw[zgi (b:=Sum.inr (-1)) (by simp only[d0,dA,dB,hkn,xag h,xab,xai])]
     have:=digit_cmp lA lB (show(A.getD k 0).toNat<(B.getD k 0).toNat by omega)
     simp only[xaa]
     unfold cmpN
     rw[if_pos this]
    ·have hd':nv (A.drop k)=nv (B.drop k):=by
      rw[zst A hkA,zst B hkB]
      simp only[nv,hd,h]
     have:=ih (by omega) hd'
     have hw:w ((k:Int)-1)=(k:Int)-1:=zbx (by omega) (by omega)
     obtain⟨z,hz⟩:∃z,cmpN (nv (A.take k)+4294967296^k*(A.getD k 0).toNat) (nv (B.take k)+4294967296^k*(B.getD k 0).toNat)=z:=⟨_,rfl⟩
     have hzz:cmpN (nv (A.take k)) (nv (B.take k))=z:=by
      rw[←hz,h];unfold cmpN
      generalize 4294967296^k*(B.getD k 0).toNat=q
      (repeat' split)<;>omega
     rw[hz]
     rw[hzz]at this
     simp only[xcb]at this ⊢
     obtain⟨b,hb1,hb2⟩:=this
     refine⟨b,zkl ?_ hb1,hb2⟩
     have n1:decide (A.getD k 0<B.getD k 0)=false:=xaj (by omega)
     have n2:decide (B.getD k 0<A.getD k 0)=false:=xaj (by omega)
     simp only[d0,dA,dB,hkn,n1,n2,xab,xac,xai,hw]
    ·have n1:decide (A.getD k 0<B.getD k 0)=false:=xaj (by omega)
     rw[zgi (b:=Sum.inr 1) (by simp only[d0,dA,dB,hkn,n1,xag h,xab,xac,xai])]
     have:=digit_cmp lB lA (show(B.getD k 0).toNat<(A.getD k 0).toNat by omega)
     simp only[xaa]
     unfold cmpN
     rw[if_neg (by omega),if_pos this]
  have:=key A.length (xak _) (by rw[xjv,hne,xjv])
  rw[xbh,hne,xbh,eA,eB]at this
  rw[zbx (by omega) (by omega),hne]
  exact this
 ·have e1:decide ((A.length:Int)=(B.length:Int))=false:=xaj (by omega)
  simp only[e1,xao,xab]
  rcases xcy A.length B.length with h|h
  ·have e2:decide ((A.length:Int)<(B.length:Int))=true:=xag (by omega)
   have h1:=(cA A.length).1 (xak _)
   have h2:¬nv b<4294967296^A.length:=fun hh=>by have:=(cB A.length).2 hh;omega
   simp only[e2,xab]
   unfold cmpN
   rw[if_pos (by omega)]
  ·have e2:decide ((A.length:Int)<(B.length:Int))=false:=xaj (by omega)
   have h1:=(cB B.length).1 (xak _)
   have h2:¬nv a<4294967296^B.length:=fun hh=>by have:=(cA B.length).2 hh;omega
   simp only[e2,xac]
   unfold cmpN
   rw[if_neg (by omega),if_pos (by omega)]
def nv_takeS{l:List Int}(k:Nat):nv (l.take (k+1))=nv (l.take k)+4294967296^k*(l.getD k 0).toNat:=by
 by_cases h:k<l.length
 ·exact zjw h
 ·rw[xbi (by omega),xbi (by omega),xae,xdh (by omega)]
  simp
def zfl{l:List Int}(hl:IsL l)(k:Nat):∃x:Nat,l.getD k 0=(x:Int)∧x<4294967296∧nv (l.take (k+1))=nv (l.take k)+4294967296^k*x:=by
 have:=hl.getD k
 refine⟨(l.getD k 0).toNat,by omega,by omega,nv_takeS k⟩
def pow_digit{P v x:Nat}(hv:v<P)(hx:x<4294967296):v+P*x<P*4294967296:=by
 have:P*(x+1)≤P*4294967296:=xdk _ hx
 rw[xcz,xdu]at this
 omega
def lenmax(x y:Nat):(bif decide ((x:Int)<(y:Int))then(y:Int)else(x:Int))=((max x y:Nat):Int):=by
 by_cases h:(x:Int)<(y:Int)
 ·rw[xag h,xab];omega
 ·rw[xaj h,xac];omega
def carry_step{P v s lo hi c x y a b:Nat}(hs:s=x+y+c)(hlo:lo=s%4294967296)(hhi:hi=s/4294967296)(h:v+P*c=a+b):v+P*lo+P*4294967296*hi=a+P*x+(b+P*y):=by
 have e:s=lo+4294967296*hi:=by omega
 have:P*s=P*lo+P*4294967296*hi:=by rw[e,xcz,xbr]
 have e2:P*s=P*x+P*y+P*c:=by rw[hs,xcz,xcz]
 omega
def d170_eq{a b:List Int}(ha:IsL a)(hb:IsL b)(la:a.length≤1073741824)(lb:b.length≤1073741824):d170 a b=some (zav (nv a+nv b)):=by
 unfold d170
 rw[zce (by omega),zce (by omega)]
 simp only[xab,xaa,zcr ha,zcr hb]
 have hla:=zbq ha
 have hlb:=zbq hb
 have hA:=zaj (nv a)
 have hB:=zaj (nv b)
 have eA:=zas (nv a)
 have eB:=zas (nv b)
 generalize hxA:zav (nv a)=A at *
 generalize hxB:zav (nv b)=B at *
 clear hxA hxB
 simp only[lenmax]
 obtain⟨n,hn⟩:∃n,max A.length B.length=n:=⟨_,rfl⟩
 have hnA:A.length≤n:=by omega
 have hnB:B.length≤n:=by omega
 have hn1:n≤1073741824:=by omega
 rw[hn]
 have w1:w ((n:Int)+1)=((n+1:Nat):Int):=by rw[zbx (by omega) (by omega)];omega
 have g1:decide ((0:Int)≤((n+1:Nat):Int))=true:=xag (by omega)
 simp only[w1,xah,g1,zce (n:=n+1) (by omega),xai,xab]
 refine zcq (Q:=fun r=>r=some (zav (nv a+nv b))) (fun(i:Nat) (st:(List Int)×(List Int)×Int×(List Int)×Int×Int×Int)=>∃(out:List Int) (c:Nat),st=(A,B,(n:Int),out,(c:Int),(n:Int),(i:Int))∧IsL out∧out.length=n+1∧c≤1∧nv out+4294967296^i*c=nv (A.take i)+nv (B.take i)∧nv out<4294967296^i) n ?_ ?_ ?_
 ·exact⟨List.replicate (n+1) 0,0,rfl,IsL.zeros _,by simp,by omega,by simp[zfi,nv],by simp[zfi]⟩
 ·rintro i st hi ⟨out,c,rfl,hL,hlen,hc,hv,hlt⟩
  obtain⟨x,hx1,hx2,hx3⟩:=zfl hA i
  obtain⟨y,hy1,hy2,hy3⟩:=zfl hB i
  have q1:decide ((i:Int)<(n:Int))=true:=xag (by omega)
  have q2:decide ((0:Int)≤(i:Int))=true:=xag (by omega)
  have q3:decide ((i:Int)<(out.length:Int))=true:=xag (by omega)
  have w2:w ((i:Int)+1)=((i+1:Nat):Int):=by rw[zbx (by omega) (by omega)];omega
  have s1:wu64 ((x:Int)+(y:Int))=(x:Int)+y:=zbw (by omega) (by omega)
  have s2:wu64 ((x:Int)+(y:Int)+(c:Int))=(x:Int)+y+c:=zbw (by omega) (by omega)
  have s3:wu32 ((x:Int)+(y:Int)+(c:Int))=(((x+y+c)%4294967296:Nat):Int):=by rw[zls];omega
  have s4:wu64 (((x:Int)+(y:Int)+(c:Int))/4294967296)=(((x+y+c)/4294967296:Nat):Int):=by rw[zbw (by omega) (by omega)];omega
  simp only[ziy hA,ziy hB,q1,q2,q3,w2,hx1,hy1,s1,s2,s3,sh32,s4,xab,xai,xaa,show Int.toNat (i:Int)=i from rfl]
  have e1:=zoa hL (i:=i) (((x+y+c)%4294967296:Nat):Int) (by omega) hlt
  rw[xaf]at e1
  refine⟨_,rfl,_,_,rfl,hL.set i (by omega) (by omega),by simpa using hlen,by omega,?_,?_⟩
  ·rw[e1,hx3,hy3,xch]
   exact carry_step rfl rfl rfl hv
  ·rw[e1,xch]
   exact pow_digit hlt (by omega)
 ·rintro st ⟨out,c,rfl,hL,hlen,hc,hv,hlt⟩
  have q1:decide ((n:Int)<(n:Int))=false:=xaj (by omega)
  have q2:decide ((0:Int)≤(n:Int))=true:=xag (by omega)
  have q3:decide ((n:Int)<(out.length:Int))=true:=xag (by omega)
  have s3:wu32 (c:Int)=(c:Int):=by rw[zls];omega
  refine⟨((n:Int),out,(c:Int)),by simp only[q1,xac],?_⟩
  simp only[q2,q3,s3,xab,xai,show Int.toNat (n:Int)=n from rfl]
  have e1:=zoa hL (i:=n) (c:Int) (by omega) hlt
  rw[xaf]at e1
  rw[xbi hnA,xbi hnB,eA,eB]at hv
  rw[ziz (hL.set n (by omega) (by omega)) (by simp;omega),e1,hv]
  rfl
def zmd{l:List Int}(hl:IsL l){k m:Nat}{x:Int}(h0:0≤x)(h1:x<4294967296)(hk:k<m)(hv:nv l<4294967296^m):nv (l.set k x)<4294967296^m:=by
 have hs:=hl.set k h0 h1
 by_cases h:m≤l.length
 ·have e1:(l.set k x).drop m=l.drop m:=List.drop_set_of_lt hk
  have e2:=nv_drop hl h
  rw[xfp hv]at e2
  rw[nv_split (l.set k x) m (by simpa using h),e1,e2,xix,xdl]
  exact top_lt hs m
 ·have:=zvz hs
  rw[xcd]at this
  exact xau this (xck (by decide) (by omega))
def or_add{a b n:Nat}(h:a<2^n):a|||b*2^n=a+b*2^n:=by
 rw[Nat.or_comm,xby b,xgy,←Nat.two_pow_add_eq_or_of_lt h b]
def zjv(k n:Nat)(h:n<2^k):(BitVec.ofInt k (n:Int)).toNat=n:=by
 rw[BitVec.ofInt_natCast,BitVec.toNat_ofNat,xeb h]
def or64{a b:Nat}(ha:a<4294967296)(hb:b<4294967296):(BitVec.ofInt 64 ((a*4294967296:Nat):Int)|||BitVec.ofInt 64 (b:Int)).toNat=a*4294967296+b:=by
 rw[xkg,zjv 64 _ (by omega),zjv 64 _ (by omega),Nat.or_comm]
 have:=or_add (a:=b) (b:=a) (n:=32) hb
 rw[show(2:Nat)^32=4294967296 from rfl]at this
 rw[this];omega
def zba{n:Nat}(h:n<18446744073709551616):wu64 (n:Int)=(n:Int):=zbw (by omega) (by omega)
def zei{n:Nat}:wu32 (n:Int)=((n%4294967296:Nat):Int):=by rw[zls];omega
def shl32(n:Nat):(n:Int)*2^(min (Int.toNat 32) 64)=((n*4294967296:Nat):Int):=by
 show(n:Int)*4294967296=_
 omega
def shr32(n:Nat):Int.fdiv (n:Int) (2^(min (Int.toNat 32) 64))=((n/4294967296:Nat):Int):=by
 rw[sh32];omega
def or64w{a b:Nat}(ha:a<4294967296)(hb:b<4294967296):wu64 (((BitVec.ofInt 64 (wu64 ((a:Int)*2^(min (Int.toNat 32) 64)))|||BitVec.ofInt 64 (wu64 (b:Int))).toNat:Nat):Int)=((a*4294967296+b:Nat):Int):=by
 rw[shl32,zba (n:=a*4294967296) (by omega),zba (n:=b) (by omega),or64 ha hb,zba (by omega)]
def wadd{a b:Nat}(h:a+b≤9223372036854775807):w ((a:Int)+(b:Int))=((a+b:Nat):Int):=by rw[zbx (by omega) (by omega)];omega
def zbk{a:Nat}(h:a<9223372036854775807):w ((a:Int)+1)=((a+1:Nat):Int):=by rw[zbx (by omega) (by omega)];omega
def wpred{a:Nat}(h:a<9223372036854775807):w (((a+1:Nat):Int)-1)=(a:Int):=by rw[zbx (by omega) (by omega)];omega
def dlt{a b:Nat}(h:a<b):decide ((a:Int)<(b:Int))=true:=xag (by omega)
def nlt{a b:Nat}(h:b≤a):decide ((a:Int)<(b:Int))=false:=xaj (by omega)
def d0le(a:Nat):decide ((0:Int)≤(a:Int))=true:=xag (by omega)
def tn(a:Nat):Int.toNat (a:Int)=a:=rfl
def cmpN_lt(x y:Nat):decide (cmpN x y<0)=decide (x<y):=by
 unfold cmpN
 by_cases h:x<y
 ·rw[if_pos h,xag h];rfl
 ·rw[if_neg h,xaj h];split<;>rfl
def zfd{x y:Nat}(h:x≤y):(zav x).length≤(zav y).length:=by
 have h1:=(zaz y (zav y).length).1 (xak _)
 exact(zaz x _).2 (by omega)
def borrow_step{P v s lo h c c' x y a b:Nat}(hs:s+y+c=4294967296+x)(hlo:s=lo+4294967296*h)(hc:c'+h=1)(e:v+b=a+P*c):v+P*lo+(b+P*y)=a+P*x+P*4294967296*c':=by
 have e1:lo+y+c=x+4294967296*c':=by omega
 have e2:=xbx (P * ·) e1
 simp only[xcz,←xbr]at e2
 omega
def d171_eq{a b:List Int}(ha:IsL a)(hb:IsL b)(la:a.length≤1073741824)(lb:b.length≤1073741824):d171 a b=some (if nv a<nv b then([],false)else(zav (nv a-nv b),true)):=by
 unfold d171
 rw[zce (by omega),zce (by omega)]
 simp only[xab,xaa,zcr ha,zcr hb]
 have hla:=zbq ha
 have hlb:=zbq hb
 have hA:=zaj (nv a)
 have hB:=zaj (nv b)
 have eA:=zas (nv a)
 have eB:=zas (nv b)
 have hm:=@zfd (nv b) (nv a)
 generalize hxA:zav (nv a)=A at *
 generalize hxB:zav (nv b)=B at *
 clear hxA hxB
 rw[d164_eq hA hB (by omega) (by omega),eA,eB]
 simp only[xaa,cmpN_lt]
 by_cases hlt:nv a<nv b
 ·rw[xag hlt,if_pos hlt];rfl
 rw[xaj hlt,if_neg hlt]
 have hBA:=hm (by omega)
 simp only[xac,xah,d0le,zce (n:=A.length) (by omega),xai,xab,tn]
 refine zcq (Q:=fun r=>r=some (zav (nv a-nv b),true)) (fun(i:Nat) (st:(List Int)×(List Int)×(List Int)×Int×Int×Int)=>∃(out:List Int) (c:Nat),st=(A,B,out,(c:Int),(A.length:Int),(i:Int))∧IsL out∧out.length=A.length∧c≤1∧nv out+nv (B.take i)=nv (A.take i)+4294967296^i*c∧nv out<4294967296^i) A.length ?_ ?_ ?_
 ·exact⟨List.replicate A.length 0,0,rfl,IsL.zeros _,by simp,by omega,by simp[zfi,nv],by simp[zfi]⟩
 ·rintro i st hi ⟨out,c,rfl,hL,hlen,hc,hv,hv2⟩
  obtain⟨x,hx1,hx2,hx3⟩:=zfl hA i
  obtain⟨y,hy1,hy2,hy3⟩:=zfl hB i
  obtain⟨s,hs⟩:∃s,4294967296+x-y-c=s:=⟨_,rfl⟩
  have s1:wu64 (4294967296+(x:Int))=4294967296+(x:Int):=zbw (by omega) (by omega)
  have s2:wu64 (4294967296+(x:Int)-(y:Int))=4294967296+(x:Int)-y:=zbw (by omega) (by omega)
  have s3:wu64 (4294967296+(x:Int)-(y:Int)-(c:Int))=(s:Int):=by rw[zbw (by omega) (by omega)];omega
  have s4:wu64 (((s/4294967296:Nat):Int))=((s/4294967296:Nat):Int):=zba (by omega)
  have s5:wu64 (1-((s/4294967296:Nat):Int))=((1-s/4294967296:Nat):Int):=by rw[zbw (by omega) (by omega)];omega
  simp only[ziy hA,ziy hB,dlt hi,d0le,dlt (show i<out.length by omega),zbk (show i<9223372036854775807 by omega),hx1,hy1,s1,s2,s3,shr32,s4,s5,zei,xab,xai,xaa,tn]
  have e1:=zoa hL (i:=i) (((s%4294967296:Nat):Int)) (by omega) hv2
  rw[xaf]at e1
  refine⟨_,rfl,_,_,rfl,hL.set i (by omega) (by omega),by simpa using hlen,by omega,?_,?_⟩
  ·rw[e1,hx3,hy3,xch]
   exact borrow_step (s:=s) (h:=s/4294967296) (by omega) (by omega) (by omega) hv
  ·rw[e1,xch]
   exact pow_digit hv2 (by omega)
 ·rintro st ⟨out,c,rfl,hL,hlen,hc,hv,hv2⟩
  refine⟨out,by simp only[nlt (xak A.length),xac],?_⟩
  rw[xbi (xak _),xbi hBA,eA,eB]at hv
  have hc0:c=0:=by
   rcases xda c with h|h
   ·exact h
   ·have:c=1:=by omega
    subst this
    omega
  subst hc0
  show(d135 out).bind _=_
  rw[ziz hL (by omega),show nv out=nv a-nv b by omega]
  rfl
def mul_step{P v s lo hi c x y o t:Nat}(hs:s=x*y+o+c)(hlo:s=lo+4294967296*hi):P*lo+P*4294967296*hi=P*(x*y)+P*o+P*c:=by
 have e2:=xbx (P * ·) (hlo.symm.trans hs)
 simp only[xcz,←xbr]at e2 ⊢
 omega
def zlp{a b:List Int}(ha:IsL a)(hb:IsL b)(la:a.length≤1073741824)(lb:b.length≤1073741824):d140 a b=some (zav (nv a*nv b)):=by
 unfold d140
 rw[zce (by omega),zce (by omega)]
 simp only[xab,xaa,zcr ha,zcr hb]
 have hla:=zbq ha
 have hlb:=zbq hb
 have hA:=zaj (nv a)
 have hB:=zaj (nv b)
 have eA:=zas (nv a)
 have eB:=zas (nv b)
 generalize hxA:zav (nv a)=A at *
 generalize hxB:zav (nv b)=B at *
 clear hxA hxB
 simp only[wadd (show A.length+B.length≤9223372036854775807 by omega),xah,d0le,zce (n:=A.length+B.length) (by omega),xai,xab,tn]
 refine zcq (Q:=fun r=>r=some (zav (nv a*nv b))) (fun(i:Nat) (st:(List Int)×(List Int)×(List Int)×Int×Int)=>∃(out:List Int),st=(B,out,A,(A.length:Int),(i:Int))∧IsL out∧out.length=A.length+B.length∧nv out=nv (A.take i)*nv B) A.length ?_ ?_ ?_
 ·exact⟨_,rfl,IsL.zeros _,by simp,by simp[zfi,nv]⟩
 ·rintro i st hi ⟨out,rfl,hL,hlen,hv⟩
  obtain⟨x,hx1,hx2,hx3⟩:=zfl hA i
  have hlt0:nv out<4294967296^(i+B.length):=by
   rw[hv,xfb]
   exact Nat.mul_lt_mul'' (top_lt hA i) (zvz hB)
  simp only[dlt hi,d0le,xab,xai,tn,hx1]
  refine zcq (Q:=fun(r:Option (((List Int)×(List Int)×(List Int)×Int×Int)⊕(List Int)))=>∃a',r=some (.inl a')∧∃(out:List Int),a'=(B,out,A,(A.length:Int),((i+1:Nat):Int))∧IsL out∧out.length=A.length+B.length∧nv out=nv (A.take (i+1))*nv B)
   (fun(j:Nat) (st:(List Int)×(List Int)×Int×Int×Int×(List Int)×Int×Int×(List Int)×Int×Int)=>∃(o:List Int) (c:Nat),st=(B,o,(i:Int),(x:Int),(c:Int),A,(A.length:Int),(i:Int),B,(B.length:Int),(j:Int))∧IsL o∧o.length=A.length+B.length∧c<4294967296∧nv o+4294967296^i*4294967296^j*c=nv out+4294967296^i*(x*nv (B.take j))∧nv o<4294967296^(i+B.length)) B.length ?_ ?_ ?_
  ·exact⟨out,0,rfl,hL,hlen,by omega,by simp[nv],hlt0⟩
  ·rintro j st hj ⟨o,c,rfl,hL',hlen',hc,hv',hlt'⟩
   obtain⟨y,hy1,hy2,hy3⟩:=zfl hB j
   have hz:=hL'.getD (i+j)
   obtain⟨z,hz1⟩:∃z:Nat,o.getD (i+j) 0=(z:Int):=⟨_,(xir hz.1).symm⟩
   rw[hz1]at hz
   obtain⟨p,hp⟩:∃p,x*y=p:=⟨_,rfl⟩
   have hpl:p≤4294967295*4294967295:=by rw[←hp];exact xdf (by omega) (by omega)
   have hxy:(x:Int)*(y:Int)=(p:Int):=by rw[←hp];simp
   have s1:wu64 ((p:Int)+(z:Int))=((p+z:Nat):Int):=by rw[zbw (by omega) (by omega)];omega
   have s2:wu64 (((p+z:Nat):Int)+(c:Int))=((p+z+c:Nat):Int):=by rw[zbw (by omega) (by omega)];omega
   obtain⟨s,hs⟩:∃s,p+z+c=s:=⟨_,rfl⟩
   have s4:wu64 (((s/4294967296:Nat):Int))=((s/4294967296:Nat):Int):=zba (by omega)
   simp only[dlt hj,d0le,wadd (show i+j≤9223372036854775807 by omega),dlt (show i+j<o.length by omega),xab,xai,tn,hy1,hz1,zba (show x<18446744073709551616 by omega),zba (show y<18446744073709551616 by omega),zba (show z<18446744073709551616 by omega),hxy,zba (show p<18446744073709551616 by omega),s1,s2,hs,zei,shr32,s4,zbk (show j<9223372036854775807 by omega)]
   have e1:=zme o (i+j) (((s%4294967296:Nat):Int)) (by omega)
   rw[xaf,hz1,xaf]at e1
   refine⟨_,rfl,_,_,rfl,hL'.set _ (by omega) (by omega),by simpa using hlen',by omega,?_,zmd hL' (by omega) (by omega) (by omega) hlt'⟩
   rw[hy3,xch]
   rw[xfb]at e1
   have e2:s=x*y+z+c:=by rw[hp,hs]
   have e3:=mul_step (P:=4294967296^i*4294967296^j) (v:=0) (t:=0) e2 (show s=s%4294967296+4294967296*(s/4294967296) by omega)
   have e4:4294967296^i*(x*(nv (B.take j)+4294967296^j*y))=4294967296^i*(x*nv (B.take j))+4294967296^i*4294967296^j*(x*y):=by
    rw[xcz,xcz]
    congr 1
    rw[Nat.mul_left_comm x,←xbr]
   rw[e4]
   rw[←xbr (4294967296^i) (4294967296^j) 4294967296]
   omega
  ·rintro st ⟨o,c,rfl,hL',hlen',hc,hv',hlt'⟩
   refine⟨_,by simp only[nlt (xak B.length),xac];rfl,?_⟩
   simp only[d0le,wadd (show i+B.length≤9223372036854775807 by omega),dlt (show i+B.length<o.length by omega),xab,xai,tn,zbk (show i<9223372036854775807 by omega),zei,xeb hc]
   have e1:=zoa hL' (i:=i+B.length) (c:Int) (by omega) hlt'
   rw[xaf]at e1
   refine⟨_,rfl,_,rfl,hL'.set _ (by omega) (by omega),by simpa using hlen',?_⟩
   rw[xbi (xak _)]at hv'
   rw[e1,hx3,xcl,xfb,hv',hv,xbr]
 ·rintro st ⟨out,rfl,hL,hlen,hv⟩
  refine⟨out,by simp only[nlt (xak A.length),xac],?_⟩
  rw[xbi (xak _),eA,eB]at hv
  show(d135 out).bind _=_
  rw[ziz hL (by omega),hv]
  rfl
end Go.Proofs.YtfgjbkjddcjlfaaGreat
