/- Part 14 of what stands below the statement. -/
import Derived.Test.YtmipjomnjkmdbaaGreatZ13
set_option linter.unusedSimpArgs false
set_option linter.unusedVariables false
open Go Go.Proofs Go.X
namespace Go.Proofs.YtmipjomnjkmdbaaGreat
def outs(n:Int)(l:List Int):Nat→List Int
 | 0=>[]
 |i+1=>if l.getD i 0%n∈outs n l i then outs n l i else outs n l i++[l.getD i 0%n]
def bal(n:Int)(l:List Int):List Int:=outs n l (zcq (fun i=>decide (n≤((outs n l i).length:Int))) l.length)
theorem outs_len(n:Int)(l:List Int):∀i,(outs n l i).length≤i
 | 0=>Nat.le_refl 0
 |i+1=>by
  have:=outs_len n l i
  unfold outs
  split
  ·omega
  ·simp;omega
theorem outs_in{n:Int}(hn:0<n)(l:List Int):∀i,∀x∈outs n l i,0≤x∧x<n
 | 0,x,hx=>by simp[outs]at hx
 |i+1,x,hx=>by
  unfold outs at hx
  split at hx
  ·exact outs_in hn l i x hx
  ·rcases List.mem_append.1 hx with hx|hx
   ·exact outs_in hn l i x hx
   ·simp at hx
    rw[hx]
    exact zke _ hn
theorem zkb(n:Int)(l:List Int):∀i,(outs n l i).Nodup
 | 0=>List.nodup_nil
 |i+1=>by
  unfold outs
  split
  ·exact zkb n l i
  ·rename_i h
   refine xeh.2 ⟨zkb n l i,by simp,fun x hx y hy=>?_⟩
   simp at hy
   rintro rfl
   exact h (by rw[xab,←hy];exact hx)
theorem d99_eq{n:Int}{l:List Int}(hn:0<n)(hn':n≤1000)(hl:WT (.slice (.int .i64)) l):d99 n l=some (bal n l):=by
 unfold d99 bal
 have hlen:=wt_len hl
 have hle:=zey (fun i=>decide (n≤((outs n l i).length:Int))) l.length
 have hstep:∀i:Nat,i<l.length→w ((i:Int)+1)=((i+1:Nat):Int):=fun i hi=>by rw[w_id (by omega) (by omega)];omega
 refine zad (b:=outs n l (zcq (fun i=>decide (n≤((outs n l i).length:Int))) l.length)) (fun i=>(n,l,outs n l i,(i:Int))) (zcq (fun i=>decide (n≤((outs n l i).length:Int))) l.length) rfl (fun i hi=>?_) ?_ rfl
 ·have h1:=zcw _ _ i hi
  simp only[xav]at h1
  have h1':((outs n l i).length:Int)<n:=by omega
  have h2:(i:Int)<(l.length:Int):=by omega
  have h3:(0:Int)≤(i:Int):=by omega
  have hx:WT (.int .i64) (l.getD i 0):=by
   rw[xab,xad (by omega)]
   exact hl.2 _ (xbr _)
  have hlim:((outs n l i).length:Int)+(([l.getD i 0%n]:List Int).length:Int)≤LIM:=by rw[zfu];simp;omega
  have ho:=outs_len n l i
  simp only[h2,h3,h1',xaz,cond_true,xac,letJ,xak,zng hx hn (by omega),Option.bind_some,d49_eq (l:=outs n l i) _ (by omega),hstep i (by omega),hlim]
  have e:outs n l (i+1)=if l.getD i 0%n∈outs n l i then outs n l i else outs n l i++[l.getD i 0%n]:=rfl
  by_cases c:l.getD i 0%n∈outs n l i
  ·rw[if_pos c]at e
   simp only[c,e];rfl
  ·rw[if_neg c]at e
   simp only[c,e];rfl
 ·by_cases h:zcq (fun i=>decide (n≤((outs n l i).length:Int))) l.length<l.length
  ·have h1:=zez _ _ h
   simp only[xaf]at h1
   have h1':¬((outs n l (zcq (fun i=>decide (n≤((outs n l i).length:Int))) l.length)).length:Int)<n:=by omega
   have h2:((zcq (fun i=>decide (n≤((outs n l i).length:Int))) l.length:Nat):Int)<(l.length:Int):=by omega
   simp only[h2,h1',letJ,xaz,xci,cond_true,cond_false]
  ·have h2:¬((zcq (fun i=>decide (n≤((outs n l i).length:Int))) l.length:Nat):Int)<(l.length:Int):=by omega
   simp only[h2,letJ,xci,cond_false]
end Go.Proofs.YtmipjomnjkmdbaaGreat
open Go Go.Proofs Go.X
namespace Go.Proofs.YtmipjomnjkmdbaaGreat
theorem zeq{α β γ:Type}{f:α→Option (α⊕β)}{k:β→Option γ}{a0:α}{r:Option γ}(st:Nat→α)(p:Nat→Bool)(n:Nat)(bx:Nat→β)(e:β)(h0:st 0=a0)
  (hs:∀i,i<n→f (st i)=if p i then some (.inr (bx i))else some (.inl (st (i+1)))) (he:f (st n)=some (.inr e))
  (h1:∀i,i<n→p i=true→(∀j,j<i→p j=false)→k (bx i)=r) (h2:(∀i,i<n→p i=false)→k e=r):(zaa f a0).bind k=r:=by
 have hle:=zey p n
 by_cases h:zcq p n<n
 ·refine zad (b:=bx (zcq p n)) st (zcq p n) h0 (fun i hi=>?_) ?_ (h1 _ h (zez p n h) (zcw p n))
  ·have:=hs i (by omega)
   rw[zcw p n i hi]at this
   exact this
  ·have:=hs _ h
   rw[zez p n h]at this
   exact this
 ·have hall:=(zok p n).1 h
  refine zad (b:=e) st n h0 (fun i hi=>?_) he (h2 hall)
  have:=hs i hi
  rw[hall i hi]at this
  exact this
theorem zbh{α:Type}(l:List α)(d:α){i:Nat}(h:i<l.length):l.getD i d=l[i]:=by
 rw[xab,xad h,Option.getD_some]
def isB(n:Int)(l:List Int):Prop:=l.Nodup∧∀x∈l,0≤x∧x<n
instance(n:Int)(l:List Int):Decidable (isB n l):=inferInstanceAs (Decidable (_∧_))
theorem zqc(n:Int)(l:List Int):isB n l↔∀i,i<l.length→0≤l.getD i 0∧l.getD i 0<n∧l.getD i 0∉l.take i:=by
 constructor
 ·rintro⟨h1,h2⟩ i hi
  rw[zbh l 0 hi]
  refine⟨(h2 _ (xbr hi)).1,(h2 _ (xbr hi)).2,fun hm=>?_⟩
  obtain⟨j,hj,e⟩:=xfk.1 hm
  exact xcu.1 h1 j i (by omega) hi (by omega) e
 ·intro h
  refine⟨xcu.2 fun i j hi hj hij e=>?_,fun x hx=>?_⟩
  ·have:=(h j hj).2.2
   rw[zbh l 0 hj,←e]at this
   exact this (xfk.2 ⟨i,by omega,rfl⟩)
  ·obtain⟨i,hi,rfl⟩:=xbu hx
   have:=h i hi
   rw[zbh l 0 hi]at this
   exact⟨this.1,this.2.1⟩
theorem zob(l:List Int):∀i,(zkv l i).length=7
 | 0=>rfl
 |i+1=>by unfold zkv;rw[List.length_set];exact zob l i
theorem zmh(l:List Int):∀i,i≤l.length→(∀j,j<i→0≤l.getD j 0∧l.getD j 0<7)→∀c:Nat,c<7→(zkv l i).getD c false=decide ((c:Int)∈l.take i)
 | 0,_,_,c,hc=>by
  have:c=0∨c=1∨c=2∨c=3∨c=4∨c=5∨c=6:=by omega
  rcases this with h|h|h|h|h|h|h<;>subst h<;>rfl
 |i+1,hi,hb,c,hc=>by
  have ih:=zmh l i (by omega) (fun j hj=>hb j (by omega)) c hc
  have hl:=zob l i
  have hx:=hb i (by omega)
  unfold zkv
  rw[xfd,xij]at ih
  rw[xfd,xij,xab,List.getElem?_set,hl,xeg,List.mem_append,←ih,xad (by omega:i<l.length)]
  rw[zbh l 0 (by omega:i<l.length)]at hx ⊢
  generalize l[i]=x at hx
  by_cases e:x.toNat=c
  ·have e':(c:Int)=x:=by omega
   rw[if_pos e,if_pos (by omega)]
   simp[e']
  ·have e':¬(c:Int)=x:=by omega
   rw[if_neg e]
   simp[e',xab]
theorem zko{i n:Nat}(h:i≤n):zck 0 (i:Int) n=true:=by
 unfold zck
 simp only[xag,xaf]
 omega
theorem d32_eq(n:Int){l:List Int}(hl:l.length≤281474976710656):d32 n l=some (decide (isB n l)):=by
 unfold d32
 have hstep:∀i:Nat,i<l.length→w ((i:Int)+1)=((i+1:Nat):Int):=fun i hi=>by rw[w_id (by omega) (by omega)];omega
 refine zeq (fun i=>(n,l,(i:Int))) (fun i=>decide (l.getD i 0<0)||(decide (n≤l.getD i 0)||decide (l.getD i 0∈l.take i))) l.length (fun _=>.inr false) (.inl ()) rfl (fun i hi=>?_) ?_ (fun i hi hp hj=>?_) (fun hall=>?_)
 ·have h2:(i:Int)<(l.length:Int):=by omega
  have h3:(0:Int)≤(i:Int):=by omega
  simp only[h2,h3,letJ,xaz,cond_true,xac,xak,hstep i hi,zko (xex hi),xhe,d49_eq (l:=l.take i) _ (by simp;omega),Option.bind_some]
  by_cases c1:l.getD i 0<0
  ·simp only[c1];rfl
  ·by_cases c2:n≤l.getD i 0
   ·simp only[c1,c2];rfl
   ·by_cases c3:l.getD i 0∈l.take i
    ·simp only[c1,c2,c3];rfl
    ·simp only[c1,c2,c3];rfl
 ·simp
 ·have:¬isB n l:=fun h=>by
   have:=(zqc n l).1 h i hi
   simp only[xcw,xaf]at hp
   rcases hp with hp|hp|hp
   ·omega
   ·omega
   ·exact this.2.2 hp
  simp[this]
 ·have:isB n l:=(zqc n l).2 fun i hi=>by
   have:=hall i hi
   simp only[xbw,xav]at this
   exact⟨by omega,by omega,this.2.2⟩
  simp[this]
theorem d149_eq{l:List Int}(x:Int)(hl:l.length≤281474976710656):d149 l x=some (zar (fun z=>decide (x=z)) l:Int):=by
 unfold d149
 have hle:=zem (fun z=>decide (x=z)) l
 have hstep:∀i:Nat,i<l.length→w ((i:Int)+1)=((i+1:Nat):Int):=fun i hi=>by rw[w_id (by omega) (by omega)];omega
 by_cases h:zar (fun z=>decide (x=z)) l<l.length
 ·have hat:=zen _ l h
  refine zad (b:=.inr (zar (fun z=>decide (x=z)) l:Int)) (fun i=>(l,x,(i:Int))) (zar (fun z=>decide (x=z)) l) rfl ?_ ?_ rfl
  ·intro i hi
   have h1:=xcn (zcn _ l i hi)
   have h2:(i:Int)<(l.length:Int):=by omega
   have h3:(0:Int)≤(i:Int):=by omega
   have h4:¬l.getD i 0=x:=fun e=>h1 e.symm
   simp only[h2,h3,h4,xaz,xci,cond_true,cond_false,xac,xak,hstep i (by omega)]
  ·have h1:=of_decide_eq_true hat
   have h2:(zar (fun z=>decide (x=z)) l:Int)<(l.length:Int):=by omega
   have h3:(0:Int)≤(zar (fun z=>decide (x=z)) l:Int):=by omega
   simp only[h2,h3,←h1,xaz,cond_true,xac,xak]
 ·refine zad (b:=.inl l) (fun i=>(l,x,(i:Int))) l.length rfl ?_ ?_ (by simp;omega)
  ·intro i hi
   have h1:=xcn (zcn (fun z=>decide (x=z)) l i (by omega))
   have h2:(i:Int)<(l.length:Int):=by omega
   have h3:(0:Int)≤(i:Int):=by omega
   have h4:¬l.getD i 0=x:=fun e=>h1 e.symm
   simp only[h2,h3,h4,xaz,xci,cond_true,cond_false,xac,xak,hstep i (by omega)]
  ·simp
end Go.Proofs.YtmipjomnjkmdbaaGreat
open Go Go.Proofs Go.X
namespace Go.Proofs.YtmipjomnjkmdbaaGreat
theorem zkt{α β γ:Type}{f:α→Option (α⊕β)}{k:β→Option γ}{a0:α}{r:Option γ}(st:Nat→α)(p:Nat→Bool)(n:Nat)(bx:Nat→β)(e:β)(h0:st 0=a0)
  (hs:∀i,i<n→(∀j,j<i→p j=false)→f (st i)=if p i then some (.inr (bx i))else some (.inl (st (i+1)))) (he:(∀j,j<n→p j=false)→f (st n)=some (.inr e))
  (h1:∀i,i<n→p i=true→(∀j,j<i→p j=false)→k (bx i)=r) (h2:(∀i,i<n→p i=false)→k e=r):(zaa f a0).bind k=r:=by
 have hle:=zey p n
 by_cases h:zcq p n<n
 ·refine zad (b:=bx (zcq p n)) st (zcq p n) h0 (fun i hi=>?_) ?_ (h1 _ h (zez p n h) (zcw p n))
  ·have:=hs i (by omega) (fun j hj=>zcw p n j (by omega))
   rw[zcw p n i hi]at this
   exact this
  ·have:=hs _ h (zcw p n)
   rw[zez p n h]at this
   exact this
 ·have hall:=(zok p n).1 h
  refine zad (b:=e) st n h0 (fun i hi=>?_) (he hall) (h2 hall)
  have:=hs i hi (fun j hj=>hall j (by omega))
  rw[hall i hi]at this
  exact this
theorem lt_at:∀(i:Nat) (a b:List Int),i<a.length→i<b.length→(∀j,j<i→a.getD j 0=b.getD j 0)→a.getD i 0≠b.getD i 0→(a<b↔a.getD i 0<b.getD i 0)
 |_,[],_,h,_,_,_=>by simp at h
 |_,_::_,[],_,h,_,_=>by simp at h
 | 0,x::a,y::b,_,_,_,hne=>by
  rw[xee]
  simp only[xel]at hne ⊢
  constructor
  ·rintro(h|⟨h,_⟩)
   ·exact h
   ·exact absurd h hne
  ·exact .inl
 |i+1,x::a,y::b,h1,h2,h3,hne=>by
  rw[xee]
  have h0:=h3 0 (by omega)
  simp only[xel]at h0
  subst h0
  simp only[List.getD_cons_succ]at hne ⊢
  have:=lt_at i a b (by simp at h1;omega) (by simp at h2;omega) (fun j hj=>by have:=h3 (j+1) (by omega);simpa using this) hne
  constructor
  ·rintro(h|⟨_,h⟩)
   ·omega
   ·exact this.1 h
  ·exact fun h=>.inr ⟨by first | rfl | trivial,this.2 h⟩
theorem lt_end:∀(a b:List Int),(∀j,j<a.length→j<b.length→a.getD j 0=b.getD j 0)→(a<b↔a.length<b.length)
 | [],[],_=>by simp
 | [],y::b,_=>by simp
 |x::a,[],_=>by simp
 |x::a,y::b,h=>by
  have h0:=h 0 (by simp) (by simp)
  simp only[xel]at h0
  subst h0
  have:=lt_end a b fun j h1 h2=>by have:=h (j+1) (by simp;omega) (by simp;omega);simpa using this
  rw[xee]
  simp only[xbo,Nat.add_lt_add_iff_right]
  rw[←this]
  constructor
  ·rintro(h|⟨_,h⟩)
   ·omega
   ·exact h
  ·exact fun h=>.inr ⟨by first | rfl | trivial,h⟩
theorem lex_tri:∀(a b:List Int),a<b∨a=b∨b<a
 | [],[]=>.inr (.inl rfl)
 | [],y::b=>.inl (by simp)
 |x::a,[]=>.inr (.inr (by simp))
 |x::a,y::b=>by
  simp only[xee]
  rcases Int.lt_trichotomy x y with h|h|h
  ·exact .inl (.inl h)
  ·subst h
   rcases lex_tri a b with h|h|h
   ·exact .inl (.inr ⟨rfl,h⟩)
   ·subst h;exact .inr (.inl rfl)
   ·exact .inr (.inr (.inr ⟨rfl,h⟩))
  ·exact .inr (.inr (.inl h))
theorem zel:∀(a:List Int),¬a<a
 | []=>by simp
 |x::a=>by
  rw[xee]
  rintro(h|⟨_,h⟩)
  ·omega
  ·exact zel a h
theorem zjh:∀{a b c:List Int},a<b→b<c→a<c
 | [],_,[],_,h=>by simp at h
 | [],_,z::c,_,_=>by simp
 |x::a,[],_,h,_=>by simp at h
 |x::a,y::b,[],_,h=>by simp at h
 |x::a,y::b,z::c,h1,h2=>by
  rw[xee]at *
  rcases h1 with h1|⟨h1,h3⟩
  ·rcases h2 with h2|⟨h2,_⟩
   ·exact .inl (by omega)
   ·exact .inl (by omega)
  ·rcases h2 with h2|⟨h2,h4⟩
   ·exact .inl (by omega)
   ·exact .inr ⟨by omega,zjh h3 h4⟩
theorem lex_asymm{a b:List Int}(h:a<b):¬b<a:=fun h'=>zel a (zjh h h')
theorem d97_eq{a b:List Int}(ha:a.length≤281474976710656)(hb:b.length≤281474976710656):d97 a b=some (decide (a<b)):=by
 unfold d97
 refine zeq (fun i=>(a,b,(i:Int))) (fun i=>!decide (a.getD i 0=b.getD i 0)) (min a.length b.length) (fun i=>.inr (decide (a.getD i 0<b.getD i 0))) (.inl (a,b)) rfl (fun i hi=>?_) ?_ (fun i hi hp hj=>?_) (fun hall=>?_)
 ·have h1:(i:Int)<(a.length:Int):=by omega
  have h2:(i:Int)<(b.length:Int):=by omega
  have h3:(0:Int)≤(i:Int):=by omega
  have hw:w ((i:Int)+1)=((i+1:Nat):Int):=by rw[w_id (by omega) (by omega)];omega
  simp only[h1,h2,h3,hw,letJ,xaz,cond_true,xac,xak]
  by_cases c:a.getD i 0=b.getD i 0
  ·simp only[c];rfl
  ·simp only[c];rfl
 ·simp only[letJ]
  by_cases c:a.length≤b.length
  ·have h1:¬((min a.length b.length:Nat):Int)<(a.length:Int):=by omega
   simp only[h1,xci,cond_false]
  ·have h1:((min a.length b.length:Nat):Int)<(a.length:Int):=by omega
   have h2:¬((min a.length b.length:Nat):Int)<(b.length:Int):=by omega
   simp only[h1,h2,xaz,xci,cond_true,cond_false]
 ·have hne:a.getD i 0≠b.getD i 0:=by simpa using hp
  have:=lt_at i a b (by omega) (by omega) (fun j hj'=>by have:=hj j hj';simpa using this) hne
  simp[this]
 ·have:=lt_end a b fun j h1 h2=>by have:=hall j (by omega);simpa using this
  have e:((a.length:Int)<(b.length:Int))↔a<b:=by rw[this];omega
  simp[e]
theorem znf{a b:List Int}(ha:a.length≤281474976710656)(hb:b.length≤281474976710656):d38 a b=some (decide (a=b)):=by
 unfold d38
 rw[d97_eq ha hb,d97_eq hb ha]
 simp only[Option.bind_some]
 rcases lex_tri a b with h|h|h
 ·have:a≠b:=fun e=>zel a (by rw[←e]at h;exact h)
  simp[h,this]
 ·subst h
  simp[zel a]
 ·have:a≠b:=fun e=>zel a (by rw[←e]at h;exact h)
  have h':=lex_asymm h
  simp[h,h',this]
theorem d198_eq(x y:Int):d198 x y=some (if x<y then -1 else if y<x then 1 else 0):=by
 unfold d198 d215
 by_cases h:x<y
 ·simp[h]
 ·by_cases h':y<x
  ·simp[h,h']
  ·simp[h,h']
def cmpL(a b:List Int):Int:=if a<b then -1 else if b<a then 1 else 0
theorem d166_eq{a b:List Int}(ha:a.length≤281474976710656)(hb:b.length≤281474976710656):d166 a b=some (cmpL a b):=by
 unfold d166 cmpL
 refine zeq (fun i=>(a,b,a,(a.length:Int),(i:Int))) (fun i=>decide (b.length≤i)|| !decide (a.getD i 0=b.getD i 0)) a.length (fun i=>.inr (if b.length≤i then 1 else if a.getD i 0<b.getD i 0 then -1 else 1)) (.inl (a,b)) rfl (fun i hi=>?_) ?_ (fun i hi hp hj=>?_) (fun hall=>?_)
 ·have h1:(i:Int)<(a.length:Int):=by omega
  have h3:(0:Int)≤(i:Int):=by omega
  have hw:w ((i:Int)+1)=((i+1:Nat):Int):=by rw[w_id (by omega) (by omega)];omega
  simp only[h1,h3,hw,xaz,cond_true,xac,xak,d198_eq,Option.bind_some]
  by_cases c0:b.length≤i
  ·have h2:(b.length:Int)≤(i:Int):=by omega
   simp[h2,c0]
  ·have h2:¬(b.length:Int)≤(i:Int):=by omega
   have h4:(i:Int)<(b.length:Int):=by omega
   simp only[h2,h4,c0,xaz,xci,cond_true,cond_false,xcm,xat]
   rcases Int.lt_trichotomy (a.getD i 0) (b.getD i 0)with h|h|h
   ·have h5:¬a.getD i 0=b.getD i 0:=by omega
    simp only[h,h5,if_true];rfl
   ·have h5:¬a.getD i 0<b.getD i 0:=by omega
    have h6:¬b.getD i 0<a.getD i 0:=by omega
    simp only[h,xcm];simp
   ·have h5:¬a.getD i 0=b.getD i 0:=by omega
    have h6:¬a.getD i 0<b.getD i 0:=by omega
    simp only[h,h5,h6,if_true,xcm];rfl
 ·simp
 ·simp only[xah]
  by_cases c0:b.length≤i
  ·have h1:=lt_end b a fun j h1 h2=>by
    have:=hj j (by omega)
    simp only[xbw,xav,xeu,xaf]at this
    exact this.2.symm
   have h2:b<a:=h1.2 (by omega)
   simp[c0,h2,lex_asymm h2]
  ·have heq:∀j,j<i→a.getD j 0=b.getD j 0:=fun j hj'=>by
    have:=hj j hj'
    simp only[xbw,xav,xeu,xaf]at this
    exact this.2
   have hne:a.getD i 0≠b.getD i 0:=by simpa[c0]using hp
   have h1:=lt_at i a b hi (by omega) heq hne
   have h2:=lt_at i b a (by omega) hi (fun j hj'=>(heq j hj').symm) (Ne.symm hne)
   simp only[c0,xcm,h1,h2]
   by_cases c:a.getD i 0<b.getD i 0
   ·simp only[c,if_true]
   ·have:b.getD i 0<a.getD i 0:=by omega
    simp only[c,this,if_true,xcm]
 ·have key:∀j,j<a.length→j<b.length∧a.getD j 0=b.getD j 0:=fun j h1=>by
   have:=hall j h1
   simp only[xbw,xav,xeu,xaf]at this
   omega
  have h1:=lt_end a b fun j h1 h2=>(key j h1).2
  have h2:=lt_end b a fun j h1 h2=>(key j h2).2.symm
  have h3:a.length≤b.length:=by
   rcases xbk a.length with h|h
   ·omega
   ·have:=(key (a.length-1) (by omega)).1;omega
  have h4:¬b<a:=by rw[h2];omega
  simp only[h4,xcm]
  by_cases c:a<b
  ·have:(a.length:Int)<(b.length:Int):=by have:=h1.1 c;omega
   simp[c,this]
  ·have:¬(a.length:Int)<(b.length:Int):=by rw[h1]at c;omega
   simp[c,this]
abbrev Grp:=List Int×Int
def addG:List Grp→List Int→Int→List Grp
 | [],p,k=>[(p,k)]
 |g::gs,p,k=>if g.1<p then g::addG gs p k else if g.1=p then(g.1,g.2+k)::gs else(p,k)::g::gs
def zjr(gs:List Grp)(p:List Int):Bool:=gs.all fun g=>decide (g.1<p)
theorem addG_app:∀(gs:List Grp) (g:Grp) (p:List Int) (k:Int),addG (gs++[g]) p k=if zjr gs p then gs++addG [g] p k else addG gs p k++[g]
 | [],g,p,k=>by simp[zjr]
 |h::gs,g,p,k=>by
  have ih:=addG_app gs g p k
  unfold zjr at ih ⊢
  rw[xbx]
  unfold addG
  by_cases c:h.1<p
  ·simp only[c,if_true,ih,xil,xaz,xap]
   by_cases c2:(gs.all fun g=>decide (g.1<p))=true
   ·rw[if_pos c2,if_pos c2]
    simp[addG]
   ·rw[if_neg c2,if_neg c2]
    simp
  ·by_cases c2:h.1=p
   ·have:¬h.1<h.1:=zel _
    subst c2
    simp[this]
   ·simp[c,c2]
theorem addG_all{gs:List Grp}{p:List Int}(k:Int)(h:zjr gs p=true):addG gs p k=gs++[(p,k)]:=by
 induction gs with
 |nil=>rfl
 |cons g gs ih=>
  unfold zjr at h ih
  simp only[xil,xag,xaf]at h
  unfold addG
  simp only[h.1,if_true,ih h.2,xbx]
theorem zis{α:Type}(l:List α)(d:α){i:Nat}(h:i<l.length):l.take (i+1)=l.take i++[l.getD i d]:=by
 rw[xeg,xad h,zbh l d h]
 rfl
theorem addG_len:∀(gs:List Grp) (p:List Int) (k:Int),(addG gs p k).length≤gs.length+1
 | [],p,k=>by simp[addG]
 |g::gs,p,k=>by
  have:=addG_len gs p k
  unfold addG
  split
  ·simp;omega
  ·split<;>simp
theorem d98_eq{gs:List Grp}{p:List Int}{k:Int}(hl:gs.length≤1000000)(hp:p.length≤281474976710656)(hk:0≤k∧k≤1000000)(hg:∀g∈gs,g.1.length≤281474976710656∧0≤g.2∧g.2≤1000000):d98 gs p k=some (addG gs p k):=by
 unfold d98
 refine zad (b:=(p,k,(if zjr gs p then gs else addG gs p k),!zjr gs p)) (fun i=>(gs,p,k,(if zjr (gs.take i) p then gs.take i else addG (gs.take i) p k),!zjr (gs.take i) p,(i:Int))) gs.length rfl (fun i hi=>?_) ?_ ?_
 ·have h1:(i:Int)<(gs.length:Int):=by omega
  have h3:(0:Int)≤(i:Int):=by omega
  have hw:w ((i:Int)+1)=((i+1:Nat):Int):=by rw[w_id (by omega) (by omega)];omega
  have hm:gs.getD i ([],0)∈gs:=by rw[zbh gs _ hi];exact xbr _
  obtain⟨g1,g2,g3⟩:=hg _ hm
  have ht:=zis gs ([],0) hi
  have hw2:w ((gs.getD i ([],0)).2+k)=(gs.getD i ([],0)).2+k:=w_id (by omega) (by omega)
  simp only[h1,h3,hw,letJ,xaz,cond_true,xac,xak]
  generalize gs.getD i ([],0)=g at *
  have hl1:(gs.take i).length≤1000000:=by simp;omega
  have hl2:=addG_len (gs.take i) p k
  have hlim:∀(l:List Grp) (z:Grp),l.length≤1000002→((l.length:Int)+(([z]:List Grp).length:Int)≤LIM):=fun l z h=>by rw[zfu];simp;omega
  have happ:=addG_app (gs.take i) g p k
  have hall:zjr (gs.take i++[g]) p=(zjr (gs.take i) p&&decide (g.1<p)):=by simp[zjr]
  rw[ht,hall,happ]
  generalize gs.take i=T at *
  have e1:∀z,((T.length:Int)+(([z]:List Grp).length:Int)≤LIM):=fun z=>hlim T z (by omega)
  have e2:∀z,(((addG T p k).length:Int)+(([z]:List Grp).length:Int)≤LIM):=fun z=>hlim _ z (by omega)
  have e3:∀z z',(((T++[z']).length:Int)+(([z]:List Grp).length:Int)≤LIM):=fun z z'=>hlim _ z (by simp;omega)
  simp only[d97_eq g1 hp,znf g1 hp,Option.bind_some,hw2]
  cases hT:zjr T p
  ·simp only[xbg,xcm,e2,xae,xaj,cond_false,xar,xaz,cond_true]
  ·simp only[xaj,xae,cond_true,xap,if_true]
   by_cases c:g.1<p
   ·simp only[c,e1,xaz,xaj,cond_false,cond_true,if_true]
   ·by_cases c2:g.1=p
    ·subst c2
     simp only[c,e1,xaz,xci,xae,cond_true,addG,if_true,xcm]
     simp
    ·simp only[c,c2,e1,e3,xaz,xci,xae,cond_true,cond_false,addG,xcm]
     simp
 ·have h1:¬((gs.length:Int)<(gs.length:Int)):=by omega
  simp only[h1,xci,cond_false,xbd]
 ·cases hT:zjr gs p
  ·simp[letJ]
  ·have hlim:((gs.length:Int)+(([(p,k)]:List Grp).length:Int)≤LIM):=by rw[zfu];simp;omega
   simp only[xaj,xae,cond_true,letJ,if_true,hlim,xaz,addG_all k hT]
def wsum(f:List Int→Int):List Grp→Int
 | []=>0
 |g::gs=>g.2*f g.1+wsum f gs
theorem zlj(f:List Int→Int):∀(a b:List Grp),wsum f (a++b)=wsum f a+wsum f b
 | [],b=>by simp[wsum]
 |g::a,b=>by
  have:=zlj f a b
  simp only[xbx,wsum,this]
  omega
theorem zlt(f:List Int→Int):∀(gs:List Grp) (p:List Int) (k:Int),wsum f (addG gs p k)=wsum f gs+k*f p
 | [],p,k=>by simp[addG,wsum]
 |g::gs,p,k=>by
  have ih:=zlt f gs p k
  unfold addG
  split
  ·simp only[wsum,ih];omega
  ·split
   ·rename_i h
    simp only[wsum,h,Int.add_mul];omega
   ·simp only[wsum];omega
theorem zra:∀{gs:List Grp} {p:List Int} {k:Int} {g:Grp},g∈addG gs p k→(g.1=p∧(g.2=k∨∃h∈gs,h.1=p∧g.2=h.2+k))∨g∈gs
 | [],p,k,g,h=>by
  simp[addG]at h
  exact .inl ⟨by rw[h],.inl (by rw[h])⟩
 |a::gs,p,k,g,h=>by
  unfold addG at h
  split at h
  ·rcases xaw.1 h with h|h
   ·exact .inr (by simp[h])
   ·rcases zra h with⟨h1,h2⟩|h1
    ·refine .inl ⟨h1,h2.imp id fun⟨x,h3,h4⟩=>⟨x,xai _ h3,h4⟩⟩
    ·exact .inr (xai _ h1)
  ·split at h
   ·rename_i hp
    rcases xaw.1 h with h|h
    ·exact .inl ⟨by rw[h];exact hp,.inr ⟨a,by simp,hp,by rw[h]⟩⟩
    ·exact .inr (xai _ h)
   ·rcases xaw.1 h with h|h
    ·exact .inl ⟨by rw[h],.inl (by rw[h])⟩
    ·exact .inr h
def zjz(gs:List Grp):Prop:=gs.Pairwise fun g h=>g.1<h.1
theorem zno:∀{gs:List Grp} (p:List Int) (k:Int),zjz gs→zjz (addG gs p k)
 | [],p,k,_=>by simp[addG,zjz]
 |a::gs,p,k,h=>by
  unfold zjz at h
  rw[xdb]at h
  unfold addG
  split
  ·rename_i hlt
   refine xdb.2 ⟨fun g hg=>?_,zno p k h.2⟩
   rcases zra hg with⟨h1,_⟩|h1
   ·rw[h1];exact hlt
   ·exact h.1 g h1
  ·rename_i hlt
   split
   ·exact xdb.2 ⟨fun g hg=>h.1 g hg,h.2⟩
   ·rename_i hne
    have hp:p<a.1:=by
     rcases lex_tri a.1 p with h|h|h
     ·exact absurd h hlt
     ·exact absurd h hne
     ·exact h
    refine xdb.2 ⟨fun g hg=>?_,xdb.2 h⟩
    rcases xaw.1 hg with rfl|hg
    ·exact hp
    ·exact zjh hp (h.1 g hg)
structure PileOK(n:Int)(gs:List Grp)(N:Int):Prop where
 ballots:∀g∈gs,isB n g.1∧1≤g.2
 sorted:zjz gs
 total:wsum (fun _=>1) gs=N
 most:N≤100000
theorem zhn{n:Int}:∀{gs:List Grp},(∀g∈gs,isB n g.1∧1≤g.2)→∀{f:List Int→Int},(∀p,0≤f p∧f p≤1)→0≤wsum f gs∧wsum f gs≤wsum (fun _=>1) gs
 | [],_,f,_=>by simp[wsum]
 |g::gs,h,f,hf=>by
  have ih:=zhn (gs:=gs) (fun x hx=>h x (xai _ hx)) hf
  have h1:=(h g (by simp)).2
  have h2:=hf g.1
  have h3:0≤g.2*f g.1:=Int.mul_nonneg (by omega) h2.1
  have h4:g.2*f g.1≤g.2*1:=Int.mul_le_mul_of_nonneg_left h2.2 (by omega)
  simp only[wsum]
  omega
theorem zpt{n:Int}:∀{gs:List Grp},(∀g∈gs,isB n g.1∧1≤g.2)→∀g∈gs,g.2≤wsum (fun _=>1) gs
 | [],_,g,hg=>by cases hg
 |a::gs,h,g,hg=>by
  have h0:=(zhn (n:=n) (gs:=gs) (fun x hx=>h x (xai _ hx)) (f:=fun _=>1) (fun _=>by omega)).1
  have h1:=(h a (by simp)).2
  simp only[wsum]
  rcases xaw.1 hg with rfl|hg
  ·omega
  ·have:=zpt (n:=n) (gs:=gs) (fun x hx=>h x (xai _ hx)) g hg
   omega
theorem zps{n:Int}:∀{gs:List Grp},(∀g∈gs,isB n g.1∧1≤g.2)→(gs.length:Int)≤wsum (fun _=>1) gs
 | [],_=>by simp[wsum]
 |a::gs,h=>by
  have h1:=(h a (by simp)).2
  have:=zps (n:=n) (gs:=gs) (fun x hx=>h x (xai _ hx))
  simp only[wsum,xbo]
  omega
theorem zjc:∀(n:Nat) (l:List Int),l.Nodup→(∀x∈l,0≤x∧x<(n:Int))→l.length≤n
 | 0,l,_,h=>by
  cases l with
  |nil=>simp
  |cons x l=>have:=h x (by simp);omega
 |n+1,l,hd,h=>by
  by_cases hm:(n:Int)∈l
  ·have h1:=zjc n (l.erase (n:Int)) (hd.erase _) fun x hx=>by
    have h2:=(hd.mem_erase_iff).1 hx
    have:=h x h2.2
    have:=h2.1
    omega
   rw[List.length_erase_of_mem hm]at h1
   omega
  ·have:=zjc n l hd fun x hx=>by
    have h1:=h x hx
    have:x≠(n:Int):=fun e=>hm (e▸hx)
    omega
   omega
theorem zki{n:Int}{l:List Int}(h:isB n l)(hn:n≤7):l.length≤7:=zjc 7 l h.1 fun x hx=>by have:=h.2 x hx;omega
theorem PileOK.add{n:Int}{gs:List Grp}{N:Int}(h:PileOK n gs N){p:List Int}(hp:isB n p)(hN:N+1≤100000):PileOK n (addG gs p 1) (N+1) where
 ballots:=fun g hg=>by
  rcases zra hg with⟨h1,h2⟩|h1
  ·refine⟨by rw[h1];exact hp,?_⟩
   rcases h2 with h2|⟨x,hx,_,h2⟩
   ·omega
   ·have:=(h.ballots x hx).2;omega
  ·exact h.ballots g h1
 sorted:=zno _ _ h.sorted
 total:=by rw[zlt,h.total];omega
 most:=hN
theorem PileOK.nil(n:Int):PileOK n [] 0:=⟨fun _ hg=>absurd hg (by simp),List.Pairwise.nil,rfl,by omega⟩
theorem PileOK.d98{n:Int}{gs:List Grp}{N:Int}(h:PileOK n gs N)(hn:n≤7){p:List Int}(hp:isB n p):d98 gs p 1=some (addG gs p 1):=by
 have h1:=zps h.ballots
 have h2:=h.total
 have h3:=h.most
 refine d98_eq (by omega) (by have:=zki hp hn;omega) (by omega) fun g hg=>?_
 have h4:=zpt h.ballots g hg
 have h5:=h.ballots g hg
 have:=zki h5.1 hn
 omega
end Go.Proofs.YtmipjomnjkmdbaaGreat
open Go Go.Proofs Go.X
namespace Go.Proofs.YtmipjomnjkmdbaaGreat
theorem d165_eq{n:Int}(hn:n≤7){l:List Int}(hl:l.length≤281474976710656):d165 n l=some (decide (isB n l)):=by
 unfold d165
 refine zeq (fun i=>(n,zkv l i,l,(l.length:Int),(i:Int))) (fun i=>decide (l.getD i 0<0)||(decide (n≤l.getD i 0)||(zkv l i).getD (Int.toNat (l.getD i 0)) false)) l.length (fun _=>.inr false) (.inl ()) rfl (fun i hi=>?_) ?_ (fun i hi hp hj=>?_) (fun hall=>?_)
 ·have h2:(i:Int)<(l.length:Int):=by omega
  have h3:(0:Int)≤(i:Int):=by omega
  have hw:w ((i:Int)+1)=((i+1:Nat):Int):=by rw[w_id (by omega) (by omega)];omega
  simp only[h2,h3,letJ,xaz,cond_true,xac,xak,hw]
  by_cases c1:l.getD i 0<0
  ·simp only[c1];rfl
  ·by_cases c2:n≤l.getD i 0
   ·simp only[c1,c2];rfl
   ·have c3:0≤l.getD i 0:=by omega
    have c4:l.getD i 0<7:=by omega
    simp only[c1,c2,c3,c4]
    cases(zkv l i).getD (Int.toNat (l.getD i 0)) false<;>rfl
 ·simp
 ·have:¬isB n l:=fun h=>by
   have hb:=(zqc n l).1 h
   have h1:=hb i hi
   have h2:=zmh l i (by omega) (fun j hj=>by have:=hb j (by omega);omega) (Int.toNat (l.getD i 0)) (by omega)
   rw[show((l.getD i 0).toNat:Int)=l.getD i 0 by omega]at h2
   rw[h2]at hp
   simp only[xcw,xaf]at hp
   rcases hp with hp|hp|hp
   ·omega
   ·omega
   ·exact h1.2.2 hp
  simp[this]
 ·have hb:∀i,i<l.length→0≤l.getD i 0∧l.getD i 0<n:=fun i hi=>by
   have:=hall i hi
   simp only[xbw,xav]at this
   omega
  have:isB n l:=(zqc n l).2 fun i hi=>by
   have h1:=hb i hi
   have h0:=hall i hi
   simp only[xbw,xav]at h0
   have h2:=zmh l i (by omega) (fun j hj=>by have:=hb j (by omega);omega) (Int.toNat (l.getD i 0)) (by omega)
   rw[show((l.getD i 0).toNat:Int)=l.getD i 0 by omega,h0.2.2]at h2
   exact⟨h1.1,h1.2,fun hm=>xcn h2.symm hm⟩
  simp[this]
def tot(gs:List Grp)(i:Nat):Int:=wsum (fun _=>1) (gs.take i)
def badG(n:Int)(gs:List Grp)(i:Nat):Bool:=decide ((gs.getD i ([],0)).2<1)||(decide (100000-tot gs i<(gs.getD i ([],0)).2)||(!decide (isB n (gs.getD i ([],0)).1)||(decide (0<i)&&decide (0≤cmpL (gs.getD (i-1) ([],0)).1 (gs.getD i ([],0)).1))))
theorem zdf(f:List Int→Int)(gs:List Grp){i:Nat}(h:i<gs.length):wsum f (gs.take (i+1))=wsum f (gs.take i)+(gs.getD i ([],0)).2*f (gs.getD i ([],0)).1:=by
 rw[zis gs ([],0) h,zlj]
 simp[wsum]
theorem zhp{n:Int}{gs:List Grp}:∀{i:Nat},i≤gs.length→(∀j,j<i→badG n gs j=false)→0≤tot gs i∧tot gs i≤100000
 | 0,_,_=>by simp[tot,wsum]
 |i+1,h,hb=>by
  have ih:=zhp (n:=n) (gs:=gs) (i:=i) (by omega) fun j hj=>hb j (by omega)
  have h1:=hb i (by omega)
  unfold badG at h1
  simp only[xbw,xav]at h1
  have h2:tot gs (i+1)=tot gs i+(gs.getD i ([],0)).2*1:=zdf _ gs (by omega)
  omega
theorem d124_eq{n:Int}(hn:n≤7){gs:List Grp}(hl:gs.length≤281474976710656)(hg:∀g∈gs,g.1.length≤281474976710656∧-9223372036854775808≤g.2∧g.2≤9223372036854775807):d124 n gs=some (decide (∀i,i<gs.length→badG n gs i=false)):=by
 unfold d124
 have hgi:∀i,i<gs.length→(gs.getD i ([],0)).1.length≤281474976710656:=fun i hi=>by
  rw[zbh gs _ hi]
  exact(hg _ (xbr _)).1
 refine zkt (fun i=>(n,gs,tot gs i,gs,(gs.length:Int),(i:Int))) (badG n gs) gs.length (fun _=>.inr false) (.inl ()) rfl (fun i hi hj=>?_) (fun _=>?_) (fun i hi hp hj=>?_) (fun hall=>?_)
 ·have h2:(i:Int)<(gs.length:Int):=by omega
  have h3:(0:Int)≤(i:Int):=by omega
  have hw:w ((i:Int)+1)=((i+1:Nat):Int):=by rw[w_id (by omega) (by omega)];omega
  have ht:=zhp (n:=n) (gs:=gs) (i:=i) (by omega) hj
  have hw2:w (100000-tot gs i)=100000-tot gs i:=w_id (by omega) (by omega)
  have hgl:=hgi i hi
  have hgp:=hgi (i-1) (by omega)
  have hts:tot gs (i+1)=tot gs i+(gs.getD i ([],0)).2*1:=zdf _ gs (by omega)
  have hw3:1≤(gs.getD i ([],0)).2→(gs.getD i ([],0)).2≤100000-tot gs i→w (tot gs i+(gs.getD i ([],0)).2)=tot gs (i+1):=fun a b=>by rw[w_id (by omega) (by omega)];omega
  have hb:badG n gs i=(decide ((gs.getD i ([],0)).2<1)||(decide (100000-tot gs i<(gs.getD i ([],0)).2)||(!decide (isB n (gs.getD i ([],0)).1)||(decide (0<i)&&decide (0≤cmpL (gs.getD (i-1) ([],0)).1 (gs.getD i ([],0)).1))))):=rfl
  rw[hb]
  simp only[h2,h3,letJ,xaz,cond_true,xac,xak,hw,hw2]
  rw[d165_eq hn hgl]
  obtain⟨g,hgd⟩:∃g,gs.getD i ([],0)=g:=⟨_,rfl⟩
  simp only[hgd]at hgl hts hw3 ⊢
  by_cases c1:g.2<1
  ·simp only[c1];rfl
  ·by_cases c2:100000-tot gs i<g.2
   ·simp only[c1,c2];rfl
   ·rw[hw3 (by omega) (by omega)]
    by_cases c3:isB n g.1
    ·by_cases c4:0<i
     ·have c5:(0:Int)<(i:Int):=by omega
      have hwp:w ((i:Int)-1)=((i-1:Nat):Int):=by rw[w_id (by omega) (by omega)];omega
      have h5:(0:Int)≤((i-1:Nat):Int):=by omega
      have h6:((i-1:Nat):Int)<(gs.length:Int):=by omega
      simp only[c1,c2,c3,c4,c5,hwp,h5,h6,xak,d166_eq hgp hgl,Option.bind_some,xaz,xci,xaj,xae,cond_true,cond_false,xac,xap,xat]
      cases decide (0≤cmpL (gs.getD (i-1) ([],0)).1 g.1)<;>rfl
     ·have c5:¬(0:Int)<(i:Int):=by omega
      simp only[c1,c2,c3,c4,c5];rfl
    ·simp only[c1,c2,c3];rfl
 ·simp
 ·have:¬∀i,i<gs.length→badG n gs i=false:=fun h=>by rw[h i hi]at hp;cases hp
  simp[this]
 ·have:∀i,i<gs.length→badG n gs i=false:=hall
  simp only[decide_eq_true this]
theorem PileOK.good{n:Int}{gs:List Grp}{N:Int}(h:PileOK n gs N):∀i,i<gs.length→badG n gs i=false:=fun i hi=>by
 have hm:gs.getD i ([],0)∈gs:=by rw[zbh gs _ hi];exact xbr _
 have h1:=h.ballots _ hm
 have h2:tot gs (i+1)=tot gs i+(gs.getD i ([],0)).2*1:=zdf _ gs hi
 have h3:wsum (fun _=>1) gs=tot gs (i+1)+wsum (fun _=>1) (gs.drop (i+1)):=by
  unfold tot
  rw[←zlj,xdc]
 have h4:=(zhn (n:=n) (gs:=gs.drop (i+1)) (fun x hx=>h.ballots x (xia hx)) (f:=fun _=>1) (fun _=>by omega)).1
 have h5:=h.total
 have h6:=h.most
 unfold badG
 have c1:¬(gs.getD i ([],0)).2<1:=by omega
 have c2:¬100000-tot gs i<(gs.getD i ([],0)).2:=by omega
 simp only[c1,c2,h1.1,xaz,xci,xaj,xat]
 by_cases c3:0<i
 ·have h7:(gs.getD (i-1) ([],0)).1<(gs.getD i ([],0)).1:=by
   rw[zbh gs _ hi,zbh gs _ (by omega:i-1<gs.length)]
   exact xcu.1 h.sorted (i-1) i (by omega) hi (by omega)
  have c4:cmpL (gs.getD (i-1) ([],0)).1 (gs.getD i ([],0)).1=-1:=if_pos h7
  rw[c4]
  simp
 ·simp[c3]
theorem PileOK.sizes{n:Int}{gs:List Grp}{N:Int}(h:PileOK n gs N)(hn:n≤7):gs.length≤100000∧∀g∈gs,g.1.length≤7∧1≤g.2∧g.2≤100000:=by
 have h1:=zps h.ballots
 have h2:=h.total
 have h3:=h.most
 refine⟨by omega,fun g hg=>?_⟩
 have h4:=zpt h.ballots g hg
 have h5:=h.ballots g hg
 exact⟨zki h5.1 hn,by omega,by omega⟩
theorem PileOK.d124{n:Int}{gs:List Grp}{N:Int}(h:PileOK n gs N)(hn:n≤7):d124 n gs=some true:=by
 obtain⟨h1,h2⟩:=h.sizes hn
 rw[d124_eq hn (by omega) fun g hg=>by have:=h2 g hg;omega]
 rw[decide_eq_true h.good]
theorem PileOK.wide{n:Int}{gs:List Grp}{N:Int}(h:PileOK n gs N)(hn:n≤7):PileOK 7 gs N where
 ballots:=fun g hg=>by
  have:=h.ballots g hg
  exact⟨⟨this.1.1,fun x hx=>by have:=this.1.2 x hx;omega⟩,this.2⟩
 sorted:=h.sorted
 total:=h.total
 most:=h.most
theorem PileOK.d100{n:Int}{gs:List Grp}{N:Int}(h:PileOK n gs N)(hn:n≤7):d100 gs=some true:=by
 unfold Go.Proofs.YtmipjomnjkmdbaaGreat.d100
 rw[(h.wide hn).d124 (by omega)]
 rfl
theorem PileOK.part{n:Int}{gs:List Grp}{N:Int}(h:PileOK n gs N){f:List Int→Int}(hf:∀p,0≤f p∧f p≤1)(i:Nat):0≤wsum f (gs.take i)∧wsum f (gs.take i)≤100000:=by
 have h1:=zhn (n:=n) (gs:=gs.take i) (fun x hx=>h.ballots x (xbv hx)) hf
 have h2:=zhn (n:=n) (gs:=gs.drop i) (fun x hx=>h.ballots x (xia hx)) (f:=fun _=>1) (fun _=>by omega)
 have h3:wsum (fun _=>1) gs=wsum (fun _=>1) (gs.take i)+wsum (fun _=>1) (gs.drop i):=by rw[←zlj,xdc]
 have h4:=h.total
 have h5:=h.most
 omega
def zba(p:List Int):Int:=if p=[]then 0 else 1
theorem PileOK.d52{n:Int}{gs:List Grp}{N:Int}(h:PileOK n gs N)(hn:n≤7):d52 gs=some (wsum zba gs):=by
 obtain⟨hl,hg⟩:=h.sizes hn
 have hf:∀p,0≤zba p∧zba p≤1:=fun p=>by unfold zba;split<;>omega
 unfold Go.Proofs.YtmipjomnjkmdbaaGreat.d52
 rw[h.d100 hn]
 simp only[Option.bind_some,xaj,cond_false]
 have:d104 gs (fun a=>d105 a)=some (wsum zba gs):=by
  unfold d104
  refine zad (b:=wsum zba gs) (fun i=>(fun a=>d105 a,wsum zba (gs.take i),gs,(gs.length:Int),(i:Int))) gs.length rfl (fun i hi=>?_) ?_ rfl
  ·have h2:(i:Int)<(gs.length:Int):=by omega
   have h3:(0:Int)≤(i:Int):=by omega
   have hw:w ((i:Int)+1)=((i+1:Nat):Int):=by rw[w_id (by omega) (by omega)];omega
   have e:=zdf zba gs hi
   have b0:=h.part hf i
   have b1:=h.part hf (i+1)
   simp only[h2,h3,hw,xaz,cond_true,xac,xak]
   obtain⟨g,hgd⟩:∃g,gs.getD i ([],0)=g:=⟨_,rfl⟩
   simp only[hgd]at e ⊢
   obtain⟨p,k⟩:=g
   unfold d105
   simp only at e ⊢
   match p with
   | []=>
    have h0:zba []=0:=by simp[zba]
    rw[h0]at e
    have hw2:w (wsum zba (gs.take i)+0)=wsum zba (gs.take (i+1)):=by rw[w_id (by omega) (by omega)];omega
    simp only[xea,Int.ofNat_zero,xaz,cond_true,Option.bind_some,hw2]
   |y::p=>
    have h0:zba (y::p)=1:=by simp[zba]
    rw[h0]at e
    have h4:¬((((y::p).length:Nat):Int)=0):=by simp;omega
    have hw2:w (wsum zba (gs.take i)+k)=wsum zba (gs.take (i+1)):=by rw[w_id (by omega) (by omega)];omega
    simp only[h4,xci,cond_false,Option.bind_some,hw2]
  ·have h1:¬((gs.length:Int)<(gs.length:Int)):=by omega
   simp only[h1,xci,cond_false,xbd]
 rw[this]
 rfl
end Go.Proofs.YtmipjomnjkmdbaaGreat
open Go Go.Proofs Go.X
namespace Go.Proofs.YtmipjomnjkmdbaaGreat
theorem d101_on{s:List Int}{f:Int→Option Bool}{g:Int→Bool}(hf:∀c∈s,f c=some (g c))(hs:s.length≤281474976710656):d101 s f=some (if zar g s<s.length then(zar g s:Int)else -1):=by
 have hle:=zem g s
 unfold d101
 have hstep:∀i,i<zar g s→w ((i:Int)+1)=((i+1:Nat):Int):=fun i hi=>by rw[w_id (by omega) (by omega)];omega
 have hfi:∀i,i<s.length→f (s.getD i 0)=some (g (s.getD i 0)):=fun i hi=>by rw[zbh s 0 hi];exact hf _ (xbr _)
 by_cases h:zar g s<s.length
 ·have hat:=zen _ s h
  refine zad (b:=.inr (zar g s:Int)) (fun i=>(s,f,(s.length:Int),(i:Int))) (zar g s) rfl ?_ ?_ (by simp[h])
  ·intro i hi
   have h1:=zcn g s i hi
   have h2:(i:Int)<(s.length:Int):=by omega
   have h3:(0:Int)≤(i:Int):=by omega
   simp only[h2,h3,xaz,cond_true,xac,xak,hfi i (by omega),h1,Option.bind_some,hstep i hi,cond_false]
  ·have h2:(zar g s:Int)<(s.length:Int):=by omega
   have h3:(0:Int)≤(zar g s:Int):=by omega
   simp only[h2,h3,xaz,cond_true,xac,xak,hfi _ h,hat,Option.bind_some]
 ·refine zad (b:=.inl ()) (fun i=>(s,f,(s.length:Int),(i:Int))) s.length rfl ?_ ?_ (by simp[h])
  ·intro i hi
   have h1:=zcn g s i (by omega)
   have h2:(i:Int)<(s.length:Int):=by omega
   have h3:(0:Int)≤(i:Int):=by omega
   simp only[h2,h3,xaz,cond_true,xac,xak,hfi i (by omega),h1,Option.bind_some,hstep i (by omega),cond_false]
  ·simp
end Go.Proofs.YtmipjomnjkmdbaaGreat
open Go Go.Proofs Go.X
namespace Go.Proofs.YtmipjomnjkmdbaaGreat
theorem wt_part{l:List Int}(h:WT (.slice (.int .i64)) l)(k:Nat):WT (.slice (.int .i64)) (l.take k):=⟨by have:=h.1;simp;omega,fun x hx=>h.2 x (xbv hx)⟩
theorem bal_isB{n:Int}(hn:0<n)(l:List Int):isB n (bal n l):=⟨zkb n l _,fun x hx=>outs_in hn l _ x hx⟩
def balF(n:Int)(x:List Int):List Int:=bal n (x.take 12)
def bals(n:Int)(l:List (List Int))(most:Nat):List (List Int):=(l.take most).map (balF n)
theorem lim_small{α:Type}(l:List α)(z:α)(h:l.length≤1000000):((l.length:Int)+(([z]:List α).length:Int)≤LIM):=by rw[zfu];simp;omega
theorem d46_eq{n:Int}(hn:0<n)(hn':n≤7){l:List (List Int)}(hl:l.length≤281474976710656)(hw:∀x∈l,WT (.slice (.int .i64)) x){most:Nat}(hm:most≤100):d46 n l (most:Int)=some (bals n l most):=by
 unfold d46
 refine zad (b:=bals n l most) (fun i=>(n,l,(most:Int),(l.take i).map (balF n),(i:Int))) (min l.length most) rfl (fun i hi=>?_) ?_ rfl
 ·have h1:(i:Int)<(l.length:Int):=by omega
  have h2:(i:Int)<(most:Int):=by omega
  have h3:(0:Int)≤(i:Int):=by omega
  have hwi:w ((i:Int)+1)=((i+1:Nat):Int):=by rw[w_id (by omega) (by omega)];omega
  have hx:=hw (l.getD i []) (by rw[zbh l [] (by omega)];exact xbr _)
  have ht:=zis l [] (by omega:i<l.length)
  simp only[h1,h2,h3,hwi,letJ,xaz,cond_true,xac,xak]
  obtain⟨x,hxd⟩:∃x,l.getD i []=x:=⟨_,rfl⟩
  simp only[hxd]at hx ht ⊢
  have hc:zck 0 (bif decide (12<(x.length:Int))then 12 else(x.length:Int)) x.length=true∧List.drop 0 (List.take (Int.toNat (bif decide (12<(x.length:Int))then 12 else(x.length:Int))) x)=x.take 12:=by
   by_cases c:12<x.length
   ·have c':(12:Int)<(x.length:Int):=by omega
    simp only[c',xaz,cond_true,xhe]
    exact⟨zko (i:=12) (by omega),rfl⟩
   ·have c':¬(12:Int)<(x.length:Int):=by omega
    simp only[c',xci,cond_false,xhe,xak]
    exact⟨zko (Nat.le_refl _),by rw[xan (Nat.le_refl _),xan (by omega)]⟩
  rw[hc.1,hc.2,d99_eq hn (by omega) (wt_part hx 12)]
  have hlim:=lim_small ((l.take i).map (balF n)) (bal n (x.take 12)) (by simp;omega)
  simp only[cond_true,Option.bind_some,hlim,xaz,ht,xcp,xcx,xez]
  rfl
 ·have hb:(l.take (min l.length most)).map (balF n)=bals n l most:=by
   unfold bals
   congr 1
   by_cases c:l.length≤most
   ·rw[xdu c,xan (Nat.le_refl _),xan c]
   ·rw[Nat.min_eq_right (by omega)]
  simp only[letJ,hb]
  by_cases c:l.length≤most
  ·have h1:¬((min l.length most:Nat):Int)<(l.length:Int):=by omega
   simp only[h1,xci,cond_false]
  ·have h1:((min l.length most:Nat):Int)<(l.length:Int):=by omega
   have h2:¬((min l.length most:Nat):Int)<(most:Int):=by omega
   simp only[h1,h2,xaz,xci,cond_true,cond_false]
theorem bals_isB{n:Int}(hn:0<n){l:List (List Int)}{most:Nat}:∀b∈bals n l most,isB n b:=fun b hb=>by
 obtain⟨x,_,rfl⟩:=xed.1 hb
 exact bal_isB hn _
theorem bals_len{n:Int}{l:List (List Int)}{most:Nat}:(bals n l most).length≤most:=by simp[bals];omega
def zdw(bs:List (List Int)):List Grp:=bs.foldl (fun gs b=>addG gs b 1) []
def bsum(f:List Int→Int):List (List Int)→Int
 | []=>0
 |b::bs=>f b+bsum f bs
theorem bsum_app(f:List Int→Int):∀a b,bsum f (a++b)=bsum f a+bsum f b
 | [],b=>by simp[bsum]
 |x::a,b=>by have:=bsum_app f a b;simp only[xbx,bsum,this];omega
theorem zmo(bs:List (List Int))(b:List Int):zdw (bs++[b])=addG (zdw bs) b 1:=by simp[zdw]
theorem zmp{n:Int}(bs:List (List Int))(hb:∀b∈bs,isB n b)(hl:bs.length≤100000):PileOK n (zdw bs) (bs.length:Int)∧∀f,wsum f (zdw bs)=bsum f bs:=by
 have key:∀k,k≤bs.length→PileOK n (zdw (bs.take k)) (k:Int)∧∀f,wsum f (zdw (bs.take k))=bsum f (bs.take k):=by
  intro k
  induction k with
  |zero=>intro _;exact⟨PileOK.nil n,fun f=>rfl⟩
  |succ k ih=>
   intro hk
   obtain⟨h1,h2⟩:=ih (by omega)
   have ht:=zis bs [] (by omega:k<bs.length)
   have hm:=hb (bs.getD k []) (by rw[zbh bs [] (by omega)];exact xbr _)
   rw[ht,zmo]
   refine⟨?_,fun f=>by rw[zlt,h2 f,bsum_app];simp[bsum]⟩
   have:=h1.add hm (by omega)
   rwa[show(k:Int)+1=((k+1:Nat):Int) by omega]at this
 have:=key bs.length (Nat.le_refl _)
 rwa[xbd]at this
theorem d48_eq{n:Int}(h1:1≤n)(hn:n≤7){bs:List (List Int)}(hb:∀b∈bs,isB n b)(hl:bs.length≤100000):d48 n bs=some (zdw bs,0):=by
 unfold d48 letJ
 have c1:¬n<1:=by omega
 have c2:¬7<n:=by omega
 have c3:¬(100000:Int)<(bs.length:Int):=by omega
 simp only[c1,c2,c3,xci,xae,cond_true,cond_false]
 refine zad (b:=.inl (zdw bs)) (fun i=>(n,bs,zdw (bs.take i),(i:Int))) bs.length rfl (fun i hi=>?_) ?_ rfl
 ·have h2:(i:Int)<(bs.length:Int):=by omega
  have h3:(0:Int)≤(i:Int):=by omega
  have hwi:w ((i:Int)+1)=((i+1:Nat):Int):=by rw[w_id (by omega) (by omega)];omega
  have hm:=hb (bs.getD i []) (by rw[zbh bs [] hi];exact xbr _)
  have hbl:=zki hm hn
  have ht:=zis bs [] hi
  have hp:=(zmp (bs.take i) (fun b h=>hb b (xbv h)) (by simp;omega)).1
  simp only[h2,h3,hwi,xaz,cond_true,xac,xak,ht,zmo]
  obtain⟨x,hxd⟩:∃x,bs.getD i []=x:=⟨_,rfl⟩
  simp only[hxd]at hm hbl ⊢
  have hlim:(([]:List Int).length:Int)+(x.length:Int)≤LIM:=by rw[zfu];simp;omega
  rw[d32_eq n (by omega),hp.d98 hn hm]
  simp only[hm,hlim,xaz,cond_true,xaj,cond_false,Option.bind_some]
 ·have h1:¬((bs.length:Int)<(bs.length:Int)):=by omega
  simp only[h1,xci,cond_false,xbd]
theorem d26_eq{n:Int}(h1:1≤n)(hn:n≤7){l:List (List Int)}(hl:l.length≤281474976710656)(hw:∀x∈l,WT (.slice (.int .i64)) x){most:Nat}(hm:most≤100):d26 n l (most:Int)=some (zdw (bals n l most)):=by
 have hbl:=bals_len (n:=n) (l:=l) (most:=most)
 unfold d26
 rw[d46_eq (by omega) hn hl hw hm]
 simp only[Option.bind_some]
 rw[d48_eq h1 hn (bals_isB (by omega)) (by omega)]
 rfl
end Go.Proofs.YtmipjomnjkmdbaaGreat
open Go Go.Proofs Go.X
namespace Go.Proofs.YtmipjomnjkmdbaaGreat
def GsOK(gs:List Grp):Prop:=gs.length≤281474976710656∧∀g∈gs,g.1.length≤281474976710656∧-9223372036854775808≤g.2∧g.2≤9223372036854775807
theorem GsOK.at{gs:List Grp}(h:GsOK gs){i:Nat}(hi:i<gs.length):(gs.getD i ([],0)).1.length≤281474976710656∧-9223372036854775808≤(gs.getD i ([],0)).2∧(gs.getD i ([],0)).2≤9223372036854775807:=by
 rw[zbh gs _ hi]
 exact h.2 _ (xbr _)
def goodP(n:Int)(gs:List Grp):Bool:=decide (∀i,i<gs.length→badG n gs i=false)
def zii(n:Int)(gs:List Grp):Bool:=decide (1≤n∧n≤7)&&goodP n gs
theorem cmpL_lt(a b:List Int):decide (0≤cmpL a b)=!decide (a<b):=by
 unfold cmpL
 by_cases h:a<b
 ·simp[h]
 ·by_cases h':b<a
  ·simp[h,h']
  ·simp[h,h']
theorem d70_eq{n:Int}{gs:List Grp}(h:GsOK gs):d70 n gs=some (zii n gs):=by
 unfold d70 zii
 simp only[letJ]
 by_cases h1:n<1
 ·have:¬(1≤n∧n≤7):=by omega
  simp[h1,this]
 ·by_cases h2:7<n
  ·have:¬(1≤n∧n≤7):=by omega
   simp[h1,h2,this]
  ·have hn:1≤n∧n≤7:=by omega
   simp only[h1,h2,hn,and_self,xaz,xci,xae,cond_true,cond_false,xap]
   refine zkt (fun i=>(n,gs,100000-tot gs i,(i:Int))) (badG n gs) gs.length (fun _=>.inr false) (.inl ()) rfl (fun i hi hj=>?_) (fun _=>?_) (fun i hi hp hj=>?_) (fun hall=>?_)
   ·have hl:=h.1
    have g2:(i:Int)<(gs.length:Int):=by omega
    have g3:(0:Int)≤(i:Int):=by omega
    have hw:w ((i:Int)+1)=((i+1:Nat):Int):=by rw[w_id (by omega) (by omega)];omega
    have ht:=zhp (n:=n) (gs:=gs) (i:=i) (by omega) hj
    have hgl:=(h.at hi).1
    have hgp:=(h.at (show i-1<gs.length by omega)).1
    have hts:tot gs (i+1)=tot gs i+(gs.getD i ([],0)).2*1:=zdf _ gs (by omega)
    have hw3:1≤(gs.getD i ([],0)).2→(gs.getD i ([],0)).2≤100000-tot gs i→w (100000-tot gs i-(gs.getD i ([],0)).2)=100000-tot gs (i+1):=fun a b=>by rw[w_id (by omega) (by omega)];omega
    have hb:badG n gs i=(decide ((gs.getD i ([],0)).2<1)||(decide (100000-tot gs i<(gs.getD i ([],0)).2)||(!decide (isB n (gs.getD i ([],0)).1)||(decide (0<i)&&decide (0≤cmpL (gs.getD (i-1) ([],0)).1 (gs.getD i ([],0)).1))))):=rfl
    rw[hb]
    simp only[g2,g3,xaz,cond_true,xac,xak,hw]
    obtain⟨g,hgd⟩:∃g,gs.getD i ([],0)=g:=⟨_,rfl⟩
    simp only[hgd]at hgl hts hw3 ⊢
    rw[d32_eq n hgl]
    simp only[Option.bind_some,cmpL_lt]
    by_cases c3:isB n g.1
    ·by_cases c1:g.2<1
     ·simp only[c1,c3];rfl
     ·by_cases c2:100000-tot gs i<g.2
      ·simp only[c1,c2,c3];rfl
      ·rw[hw3 (by omega) (by omega)]
       by_cases c4:0<i
       ·have c5:(0:Int)<(i:Int):=by omega
        have hwp:w ((i:Int)-1)=((i-1:Nat):Int):=by rw[w_id (by omega) (by omega)];omega
        have h5:(0:Int)≤((i-1:Nat):Int):=by omega
        have h6:((i-1:Nat):Int)<(gs.length:Int):=by omega
        simp only[c1,c2,c3,c4,c5,hwp,h5,h6,xak,d97_eq hgp hgl,Option.bind_some,xaz,xci,xaj,xae,cond_true,cond_false,xac,xap,xat]
        cases decide ((gs.getD (i-1) ([],0)).1<g.1)<;>rfl
       ·have c5:¬(0:Int)<(i:Int):=by omega
        simp only[c1,c2,c3,c4,c5];rfl
    ·have hor:(decide (g.2<1)||(decide (100000-tot gs i<g.2)||(!decide (isB n g.1)||(decide (0<i)&& !decide ((gs.getD (i-1) ([],0)).1<g.1)))))=true:=by simp[c3]
     rw[hor]
     simp only[c3];rfl
   ·have g1:¬((gs.length:Int)<(gs.length:Int)):=by omega
    simp only[g1,xci,cond_false]
   ·have:goodP n gs=false:=decide_eq_false fun hh=>by rw[hh i hi]at hp;cases hp
    simp[this]
   ·have:goodP n gs=true:=decide_eq_true hall
    simp[this]
theorem good_tot{n:Int}{gs:List Grp}(h:∀i,i<gs.length→badG n gs i=false):PileOK n gs (wsum (fun _=>1) gs) where
 ballots:=fun g hg=>by
  obtain⟨i,hi,rfl⟩:=xbu hg
  have:=h i hi
  unfold badG at this
  rw[zbh gs _ hi]at this
  simp only[xbw,xav,xeu,xaf]at this
  exact⟨this.2.2.1,by omega⟩
 sorted:=by
  have step:∀i,i+1<gs.length→(gs.getD i ([],0)).1<(gs.getD (i+1) ([],0)).1:=fun i hi=>by
   have:=h (i+1) hi
   unfold badG at this
   simp only[xbw]at this
   have:=this.2.2.2
   rw[cmpL_lt]at this
   simpa using this
  refine xcu.2 fun i j hi hj hij=>?_
  have key:∀k,i+k+1<gs.length→(gs.getD i ([],0)).1<(gs.getD (i+k+1) ([],0)).1:=by
   intro k
   induction k with
   |zero=>intro hk;exact step i hk
   |succ k ih=>
    intro hk
    exact zjh (ih (by omega)) (step (i+k+1) (by omega))
  have:=key (j-i-1) (by omega)
  rw[show i+(j-i-1)+1=j by omega,zbh gs _ hi,zbh gs _ hj]at this
  exact this
 total:=rfl
 most:=by
  have:=(zhp (n:=n) (gs:=gs) (i:=gs.length) (Nat.le_refl _) fun j hj=>h j hj).2
  unfold tot at this
  rwa[xbd]at this
theorem pileB_ok{n:Int}{gs:List Grp}(h:zii n gs=true):1≤n∧n≤7∧PileOK n gs (wsum (fun _=>1) gs):=by
 unfold zii at h
 simp only[xag,xaf]at h
 exact⟨h.1.1,h.1.2,good_tot (of_decide_eq_true h.2)⟩
theorem PileOK.gs{n:Int}{gs:List Grp}{N:Int}(h:PileOK n gs N)(hn:n≤7):GsOK gs:=by
 obtain⟨h1,h2⟩:=h.sizes hn
 exact⟨by omega,fun g hg=>by have:=h2 g hg;omega⟩
end Go.Proofs.YtmipjomnjkmdbaaGreat
namespace Go.Proofs.YtmipjomnjkmdbaaGreat
open Go Go.X
def nv:List Int→Nat
 | []=>0
 |x::l=>x.toNat+4294967296*nv l
def IsL(l:List Int):Prop:=∀x∈l,0≤x∧x<4294967296
def NF(l:List Int):Prop:=IsL l∧l.getLast?≠some 0
theorem IsL.nil:IsL []:=fun _ h=>absurd h (by simp)
theorem IsL.cons{x:Int}{l:List Int}(h0:0≤x)(h1:x<4294967296)(h:IsL l):IsL (x::l):=fun y hy=>by
 rcases xaw.1 hy with rfl|hy
 ·exact⟨h0,h1⟩
 ·exact h y hy
theorem IsL.tail{x:Int}{l:List Int}(h:IsL (x::l)):IsL l:=fun y hy=>h y (xai _ hy)
theorem IsL.head{x:Int}{l:List Int}(h:IsL (x::l)):0≤x∧x<4294967296:=h x xcj
theorem IsL.take{l:List Int}(h:IsL l)(k:Nat):IsL (l.take k):=fun y hy=>h y (xbv hy)
theorem IsL.getD{l:List Int}(h:IsL l)(i:Nat):0≤l.getD i 0∧l.getD i 0<4294967296:=by
 rw[xab]
 cases hi:l[i]? with
 |none=>simp
 |some x=>
  obtain⟨h1,h2⟩:=xdt.1 hi
  exact h x (h2▸xbr h1)
theorem IsL.set{l:List Int}(h:IsL l)(i:Nat){x:Int}(h0:0≤x)(h1:x<4294967296):IsL (l.set i x):=fun y hy=>by
 rcases List.mem_or_eq_of_mem_set hy with hy|rfl
 ·exact h y hy
 ·exact⟨h0,h1⟩
theorem IsL.zeros(n:Nat):IsL (List.replicate n 0):=fun y hy=>by rw[xej hy];omega
theorem zjb:∀(a b:List Int),nv (a++b)=nv a+4294967296^a.length*nv b
 | [],b=>by simp[nv]
 |x::a,b=>by
  simp only[xbx,nv,zjb a b,xbo,xbj]
  generalize 4294967296^a.length=P
  rw[xbq,xch,←xbf,xbb P 4294967296]
theorem zdr:∀n:Nat,nv (List.replicate n 0)=0
 | 0=>rfl
 |n+1=>by simp[List.replicate_succ,nv,zdr n]
theorem zpv:∀{l:List Int},IsL l→nv l<4294967296^l.length
 | [],_=>by simp[nv]
 |x::l,h=>by
  have ih:=zpv h.tail
  have hx:=h.head
  simp only[nv,xbo,xbj]
  generalize 4294967296^l.length=P at *
  have:x.toNat<4294967296:=by omega
  omega
theorem NF.tail{x:Int}{l:List Int}(h:NF (x::l)):NF l:=⟨h.1.tail,fun he=>h.2 (by
 cases l with
 |nil=>simp at he
 |cons y l=>rw[xhj];exact he)⟩
theorem NF.nil:NF []:=⟨IsL.nil,by simp⟩
theorem NF.pos:∀{l:List Int},NF l→l≠ []→0<nv l
 | [],_,h=>absurd rfl h
 | [x],h,_=>by
  have hx:=h.1.head
  have:x≠0:=fun e=>h.2 (by simp[e])
  simp only[nv];omega
 |x::y::l,h,_=>by
  have:=NF.pos h.tail (by simp)
  simp only[nv]at this ⊢;omega
theorem nv_inj:∀{a b:List Int},NF a→NF b→nv a=nv b→a=b
 | [],[],_,_,_=>rfl
 | [],y::b,_,hb,h=>absurd (NF.pos hb (by simp)) (by rw[←h];simp[nv])
 |x::a,[],ha,_,h=>absurd (NF.pos ha (by simp)) (by rw[h];simp[nv])
 |x::a,y::b,ha,hb,h=>by
  have hx:=ha.1.head
  have hy:=hb.1.head
  simp only[nv]at h
  have h1:nv a=nv b:=by omega
  have h2:x=y:=by omega
  rw[h2,nv_inj ha.tail hb.tail h1]
def zan(n:Nat):List Int:=if h:n=0 then []else((n%4294967296:Nat):Int)::zan (n/4294967296)
 termination_by n
 decreasing_by exact xfu (xda h) (by omega)
theorem zcf:zan 0=[]:=by rw[zan];simp
theorem zev{n:Nat}(h:n≠0):zan n=((n%4294967296:Nat):Int)::zan (n/4294967296):=by rw[zan];simp[h]
theorem zpx(n:Nat):NF (zan n)∧nv (zan n)=n:=by
 induction n using Nat.strongRecOn with
 |_ n ih=>
  by_cases h:n=0
  ·subst h;rw[zcf];exact⟨NF.nil,rfl⟩
  ·have⟨h1,h2⟩:=ih (n/4294967296) (xfu (by omega) (by omega))
   rw[zev h]
   refine⟨⟨h1.1.cons (by omega) (by omega),?_⟩,?_⟩
   ·cases hl:zan (n/4294967296)with
    |nil=>
     rw[hl]at h2
     simp only[nv]at h2
     simp only[List.getLast?_singleton,ne_eq,xah]
     omega
    |cons y l=>
     rw[xhj,←hl]
     exact h1.2
   ·simp only[nv,h2];omega
theorem zjs(n:Nat):NF (zan n):=(zpx n).1
theorem zas(n:Nat):IsL (zan n):=(zpx n).1.1
theorem zav(n:Nat):nv (zan n)=n:=(zpx n).2
theorem limbs_nv{l:List Int}(h:NF l):zan (nv l)=l:=nv_inj (zjs _) h (zav _)
theorem limbs_inj{a b:Nat}(h:zan a=zan b):a=b:=by rw[←zav a,h,zav]
theorem zmu{n:Nat}:zan n=[]↔n=0:=⟨fun h=>by rw[←zav n,h];rfl,fun h=>by rw[h,zcf]⟩
theorem zeg{n:Nat}:0<(zan n).length↔0<n:=by
 rw[xcg,ne_eq,zmu];omega
theorem zat(n:Nat):∀k:Nat,(zan n).length≤k↔n<4294967296^k:=by
 induction n using Nat.strongRecOn with
 |_ n ih=>
  intro k
  by_cases h:n=0
  ·subst h;rw[zcf];simp;exact xev (by omega)
  ·rw[zev h,xbo]
   cases k with
   |zero=>simp;omega
   |succ k=>
    have:=ih (n/4294967296) (xfu (by omega) (by omega)) k
    rw[Nat.succ_le_succ_iff,this,xbj]
    exact xdl (by omega)
theorem zir(l:List Int){n:Nat}(h:n<l.length):l.take (n+1)=l.take n++[l.getD n 0]:=by
 rw[xeg,xab,xad h];rfl
theorem take_tlen{l:List Int}(h:IsL l):∀n,n≤l.length→l.take (tlen l n)=zan (nv (l.take n))
 | 0,_=>by simp[tlen,nv,zcf]
 |n+1,hn=>by
  have ih:=take_tlen h n (by omega)
  have hs:=zir l (n:=n) (by omega)
  unfold tlen
  split
  ·rename_i h0
   rw[ih,hs,zjb,h0];simp[nv]
  ·rename_i h0
   refine(limbs_nv ⟨h.take _,?_⟩).symm
   rw[hs,List.getLast?_append];simp;exact h0
theorem take_tl{l:List Int}(h:IsL l):l.take (tlen l l.length)=zan (nv l):=by
 have:=take_tlen h l.length (Nat.le_refl _)
 rwa[xbd]at this
theorem tlen_eq{l:List Int}(h:IsL l):tlen l l.length=(zan (nv l)).length:=by
 have:=xbh List.length (take_tl h)
 rw[xaq,xdu (tlen_le _ _)]at this
 exact this
theorem limbs_le{l:List Int}(h:IsL l):(zan (nv l)).length≤l.length:=by rw[←tlen_eq h];exact tlen_le _ _
theorem digit_low{U V W top s t u0 z q r h:Nat}(hV:V=(h*4294967296+s)*W+t)(hU:U=(top*4294967296+u0)*W+z)(hz:z<W)(hq:q*h+r=top)(hc:r*4294967296+u0<q*s):U<q*V:=by
 have h1:(top*4294967296+u0)+1≤q*(h*4294967296+s):=by
  rw[←hq,xbq,xbl,←xbf];omega
 have h2:=xam W h1
 rw[xbl,xih]at h2
 rw[hV,xbq,←xbf,hU]
 omega
theorem zoo{U V W top s t u0 z q r h:Nat}(hV:V=(h*4294967296+s)*W+t)(hU:U=(top*4294967296+u0)*W+z)(ht:t<W)(hh:1≤h)(hq:q*h+r=top)(hq2:q<4294967296)(hc:q*s≤r*4294967296+u0):q*V<U+V:=by
 have h1:q*(h*4294967296+s)≤top*4294967296+u0:=by
  rw[←hq,xbq,xbl,←xbf];omega
 have h2:=xam W h1
 have h3:q*t≤4294967296*W:=Nat.mul_le_mul (by omega) (by omega)
 have h4:q*t<4294967296*W:=by
  rcases xbk q with h0|h0
  ·subst h0;rw[xek];omega
  ·exact xao (Nat.mul_lt_mul_of_pos_left ht h0) (xam _ (by omega))
 have h5:4294967296*W≤V:=by
  rw[hV]
  have:4294967296*W≤(h*4294967296+s)*W:=xam _ (by omega)
  omega
 have h6:q*V=q*(h*4294967296+s)*W+q*t:=by rw[hV,xbq,←xbf]
 omega
end Go.Proofs.YtmipjomnjkmdbaaGreat
namespace Go.Proofs.YtmipjomnjkmdbaaGreat
open Go Go.X
theorem zoy(i:Nat):0<4294967296^i:=xev (by decide)
theorem nv_split(l:List Int)(i:Nat)(h:i≤l.length):nv l=nv (l.take i)+4294967296^i*nv (l.drop i):=by
 have:=zjb (l.take i) (l.drop i)
 rw[xdc,xaq,xdu h]at this
 exact this
theorem nv_drop{l:List Int}(hl:IsL l){i:Nat}(h:i≤l.length):nv (l.drop i)=nv l/4294967296^i:=by
 have h1:=zpv (hl.take i)
 rw[xaq,xdu h]at h1
 rw[nv_split l i h,xhy _ _ (zoy i),xec h1,Nat.zero_add]
theorem zne(l:List Int){i:Nat}(h:i<l.length):l.drop i=l.getD i 0::l.drop (i+1):=by
 rw[xab,xad h]
 exact xfm h
theorem zfi{l:List Int}(hl:IsL l)(i:Nat):l.getD i 0=((nv l/4294967296^i%4294967296:Nat):Int):=by
 by_cases h:i<l.length
 ·have h1:=nv_drop hl (xex h)
  rw[zne l h]at h1
  simp only[nv]at h1
  have h2:=hl.getD i
  rw[←h1]
  omega
 ·have h1:=zpv hl
  rw[xab,xcc (by omega)]
  have h2:nv l<4294967296^i:=xao h1 (xdd (by decide) (by omega))
  rw[xec h2]
  rfl
theorem zja:∀(l:List Int) (i:Nat) (x:Int),i<l.length→nv (l.set i x)+4294967296^i*(l.getD i 0).toNat=nv l+4294967296^i*x.toNat
 | [],i,x,h=>by simp at h
 |y::l,0,x,h=>by simp[nv];omega
 |y::l,i+1,x,h=>by
  have ih:=zja l i x (by simpa using h)
  simp only[List.set_cons_succ,nv,List.getD_cons_succ,xbj]
  generalize hP:4294967296^i=P at ih ⊢
  generalize(l.getD i 0).toNat=c at ih ⊢
  generalize x.toNat=e at ih ⊢
  have e1:P*4294967296*c=4294967296*(P*c):=by rw[xbb P 4294967296,xbf]
  have e2:P*4294967296*e=4294967296*(P*e):=by rw[xbb P 4294967296,xbf]
  rw[e1,e2]
  omega
theorem zkd{l:List Int}(hl:IsL l){i:Nat}(x:Int)(h:i<l.length)(h0:nv l<4294967296^i):nv (l.set i x)=nv l+4294967296^i*x.toNat:=by
 have h1:=zja l i x h
 rw[zfi hl,xec h0]at h1
 simpa using h1
theorem zbo{n:Nat}(h:n≤4294967296):decide ((n:Int)≤LIM)=true:=by
 rw[zfu];exact decide_eq_true (by omega)
theorem zcc{l:List Int}(h:IsL l):l.take (zaq l)=zan (nv l):=take_tl h
theorem zbn{l:List Int}(h:IsL l):(zan (nv l)).length≤l.length:=limbs_le h
theorem zbs{n:Int}(h0:0≤n)(h1:n<18446744073709551616):wu64 n=n:=by
 show IntKind.u64.wrap n=n
 simp[IntKind.wrap,IntKind.bits,IntKind.signed];omega
theorem zio(n:Int):wu32 n=n%4294967296:=by
 show IntKind.u32.wrap n=_
 simp[IntKind.wrap,IntKind.bits,IntKind.signed]
theorem wu64_mod(n:Int):wu64 n=n%18446744073709551616:=by
 show IntKind.u64.wrap n=_
 simp[IntKind.wrap,IntKind.bits,IntKind.signed]
theorem zbi{n:Int}(h0:-9223372036854775808≤n)(h1:n≤9223372036854775807):w n=n:=IntWalk.i64_in n ⟨h0,h1⟩
theorem sh32(n:Int):Int.fdiv n (2^(min (Int.toNat 32) 64))=n/4294967296:=by
 show Int.fdiv n 4294967296=_
 exact xfi n (by decide)
theorem zae{α β R:Type}(f:α→β)(g:(α→β)→Option R):letJ f g=g f:=by
 cases h:letJ f g
 ·exact h.symm
 ·exact h.symm
theorem zbj{α β γ:Type}{f:α→Option (α⊕β)}{k:β→Option γ}{a0:α}{Q:Option γ→Prop}(R:Nat→α→Prop)(n:Nat)(h0:R 0 a0)(hs:∀i a,i<n→R i a→∃a',f a=some (.inl a')∧R (i+1) a')(he:∀a,R n a→∃b,f a=some (.inr b)∧Q (k b)):Q ((zaa f a0).bind k):=by
 have key:∀m i a,i+m=n→R i a→∃b,zaa f a=some b∧Q (k b):=by
  intro m
  induction m with
  |zero=>
   intro i a hi hr
   obtain rfl:i=n:=by omega
   obtain⟨b,h1,h2⟩:=he a hr
   exact⟨b,zdo h1,h2⟩
  |succ m ih=>
   intro i a hi hr
   obtain⟨a',h1,h2⟩:=hs i a (by omega) hr
   obtain⟨b,h3,h4⟩:=ih (i+1) a' (by omega) h2
   exact⟨b,zho h1 h3,h4⟩
 obtain⟨b,h1,h2⟩:=key n 0 a0 (by omega) h0
 rw[h1]
 exact h2
end Go.Proofs.YtmipjomnjkmdbaaGreat
namespace Go.Proofs.YtmipjomnjkmdbaaGreat
open Go Go.X
theorem d173_eq{xs:List Int}(h:xs.length≤4294967296):d173 xs=some xs:=by
 unfold d173;rw[zbo h];rfl
theorem zgp{a:List Int}(ha:IsL a)(h:a.length≤4294967296):d171 a=some (zan (nv a)):=by
 unfold d171
 have:=zbn ha
 rw[zbo h,cond_true,Option.bind_some,zcc ha,d173_eq (by omega)]
 rfl
theorem zqo{n:Int}(h0:0≤n)(h1:n<18446744073709551616):d129 n=some (zan n.toNat):=by
 unfold d129
 have e1:wu32 n=n%4294967296:=zio n
 have e2:wu32 (wu64 (Int.fdiv n (2^(min (Int.toNat 32) 64))))=n/4294967296:=by
  rw[sh32,zbs (by omega) (by omega),zio]
  omega
 rw[e1,e2]
 have hL:IsL [n%4294967296,n/4294967296]:=IsL.cons (by omega) (by omega) (IsL.cons (by omega) (by omega) IsL.nil)
 rw[zgp hL (by simp)]
 have:nv [n%4294967296,n/4294967296]=n.toNat:=by simp only[nv];omega
 rw[this]
 rfl
theorem d217_eq{a:List Int}(ha:IsL a){i:Int}(h0:0≤i):d217 a i=some (a.getD i.toNat 0):=by
 unfold d217
 have hg:=ha.getD i.toNat
 by_cases h:i<(a.length:Int)
 ·simp only[h,h0,xaz,cond_true,xac]
  rw[zbs hg.1 (by omega)]
 ·simp only[h,xci,cond_false]
  rw[xab,xcc (by omega)]
  rfl
theorem zgo{a:List Int}(ha:IsL a)(i:Nat):d217 a (i:Int)=some (a.getD i 0):=by
 rw[d217_eq ha (by omega)];rfl
def cmpN(x y:Nat):Int:=if x<y then -1 else if y<x then 1 else 0
theorem zhc{l:List Int}{k:Nat}(h:k<l.length):nv (l.take (k+1))=nv (l.take k)+4294967296^k*(l.getD k 0).toNat:=by
 rw[zir l h,zjb,xaq,xdu (by omega)]
 simp[nv]
theorem top_lt{l:List Int}(hl:IsL l)(k:Nat):nv (l.take k)<4294967296^k:=by
 have h1:=zpv (hl.take k)
 exact xao h1 (xdd (by decide) (by rw[xaq];omega))
theorem digit_cmp{P p q x y:Nat}(hp:p<P)(hq:q<P)(h:x<y):p+P*x<q+P*y:=by
 have:P*(x+1)≤P*y:=xby _ h
 rw[xbq,xdj]at this
 omega
theorem d201_eq{a b:List Int}(ha:IsL a)(hb:IsL b)(la:a.length≤4294967296)(lb:b.length≤4294967296):d201 a b=some (cmpN (nv a) (nv b)):=by
 unfold d201
 rw[zbo la,zbo lb]
 simp only[cond_true,Option.bind_some,zcc ha,zcc hb]
 have hla:=zbn ha
 have hlb:=zbn hb
 have hA:=zas (nv a)
 have hB:=zas (nv b)
 have eA:=zav (nv a)
 have eB:=zav (nv b)
 have cA:=zat (nv a)
 have cB:=zat (nv b)
 generalize hxA:zan (nv a)=A at *
 generalize hxB:zan (nv b)=B at *
 by_cases hne:A.length=B.length
 ·have e1:decide ((A.length:Int)=(B.length:Int))=true:=decide_eq_true (by omega)
  simp only[e1,xaj,cond_false]
  have key:∀k,k≤A.length→nv (A.drop k)=nv (B.drop k)→(zaa (β:=Unit⊕Int) (fun((a_1,b_1,i):(List Int)×(List Int)×Int)=>
    bif (decide (0≤i))then
     bif (decide (0≤i)&&decide (i<(a_1.length:Int)))then
      bif (decide (0≤i)&&decide (i<(b_1.length:Int)))then
       bif (decide ((List.getD a_1 (Int.toNat i) 0)<(List.getD b_1 (Int.toNat i) 0)))then
        some (Sum.inr (Sum.inr (-1)))
       else
        bif (decide (0≤i)&&decide (i<(a_1.length:Int)))then
         bif (decide (0≤i)&&decide (i<(b_1.length:Int)))then
          bif (decide ((List.getD b_1 (Int.toNat i) 0)<(List.getD a_1 (Int.toNat i) 0)))then
           some (Sum.inr (Sum.inr 1))
          else
           some (Sum.inl (a_1,b_1,(w (i-1))))
         else none
        else none
      else none
     else none
    else
     some (Sum.inr (Sum.inl ()))) (A,B,(k:Int)-1)).bind (fun
  |Sum.inl _=>
   some 0
  |Sum.inr t4=>
   some t4)=some (cmpN (nv (A.take k)) (nv (B.take k))):=by
   intro k
   induction k with
   |zero=>
    intro _ _
    rw[zdo (b:=Sum.inl ()) (by rfl)]
    rfl
   |succ k ih=>
    intro hk hd
    have hkA:k<A.length:=by omega
    have hkB:k<B.length:=by omega
    have i1:((k+1:Nat):Int)-1=(k:Int):=by omega
    rw[i1]
    have d0:decide ((0:Int)≤(k:Int))=true:=decide_eq_true (by omega)
    have dA:decide ((k:Int)<(A.length:Int))=true:=decide_eq_true (by omega)
    have dB:decide ((k:Int)<(B.length:Int))=true:=decide_eq_true (by omega)
    have tA:=zhc hkA
    have tB:=zhc hkB
    have lA:=top_lt hA k
    have lB:=top_lt hB k
    have gA:=hA.getD k
    have gB:=hB.getD k
    rw[tA,tB]
    have hkn:Int.toNat (k:Int)=k:=rfl
    rcases Int.lt_trichotomy (A.getD k 0) (B.getD k 0)with h|h|h
    ·rw[zdo (b:=Sum.inr (-1)) (by simp only[d0,dA,dB,hkn,decide_eq_true h,cond_true,xac])]
     have:=digit_cmp lA lB (show(A.getD k 0).toNat<(B.getD k 0).toNat by omega)
     simp only[Option.bind_some]
     unfold cmpN
     rw[if_pos this]
    ·have hd':nv (A.drop k)=nv (B.drop k):=by
      rw[zne A hkA,zne B hkB]
      simp only[nv,hd,h]
     have:=ih (by omega) hd'
     have hw:w ((k:Int)-1)=(k:Int)-1:=zbi (by omega) (by omega)
     obtain⟨z,hz⟩:∃z,cmpN (nv (A.take k)+4294967296^k*(A.getD k 0).toNat) (nv (B.take k)+4294967296^k*(B.getD k 0).toNat)=z:=⟨_,rfl⟩
     have hzz:cmpN (nv (A.take k)) (nv (B.take k))=z:=by
      rw[←hz,h];unfold cmpN
      generalize 4294967296^k*(B.getD k 0).toNat=q
      (repeat' split)<;>omega
     rw[hz]
     rw[hzz]at this
     simp only[xbi]at this ⊢
     obtain⟨b,hb1,hb2⟩:=this
     refine⟨b,zho ?_ hb1,hb2⟩
     have n1:decide (A.getD k 0<B.getD k 0)=false:=decide_eq_false (by omega)
     have n2:decide (B.getD k 0<A.getD k 0)=false:=decide_eq_false (by omega)
     simp only[d0,dA,dB,hkn,n1,n2,cond_true,cond_false,xac,hw]
    ·have n1:decide (A.getD k 0<B.getD k 0)=false:=decide_eq_false (by omega)
     rw[zdo (b:=Sum.inr 1) (by simp only[d0,dA,dB,hkn,n1,decide_eq_true h,cond_true,cond_false,xac])]
     have:=digit_cmp lB lA (show(B.getD k 0).toNat<(A.getD k 0).toNat by omega)
     simp only[Option.bind_some]
     unfold cmpN
     rw[if_neg (by omega),if_pos this]
  have:=key A.length (Nat.le_refl _) (by rw[List.drop_length,hne,List.drop_length])
  rw[xbd,hne,xbd,eA,eB]at this
  rw[zbi (by omega) (by omega),hne]
  exact this
 ·have e1:decide ((A.length:Int)=(B.length:Int))=false:=decide_eq_false (by omega)
  simp only[e1,xae,cond_true]
  rcases xdf A.length B.length with h|h
  ·have e2:decide ((A.length:Int)<(B.length:Int))=true:=decide_eq_true (by omega)
   have h1:=(cA A.length).1 (Nat.le_refl _)
   have h2:¬nv b<4294967296^A.length:=fun hh=>by have:=(cB A.length).2 hh;omega
   simp only[e2,cond_true]
   unfold cmpN
   rw[if_pos (by omega)]
  ·have e2:decide ((A.length:Int)<(B.length:Int))=false:=decide_eq_false (by omega)
   have h1:=(cB B.length).1 (Nat.le_refl _)
   have h2:¬nv a<4294967296^B.length:=fun hh=>by have:=(cA B.length).2 hh;omega
   simp only[e2,cond_false]
   unfold cmpN
   rw[if_neg (by omega),if_pos (by omega)]
end Go.Proofs.YtmipjomnjkmdbaaGreat
namespace Go.Proofs.YtmipjomnjkmdbaaGreat
open Go Go.X
theorem nv_takeS{l:List Int}(k:Nat):nv (l.take (k+1))=nv (l.take k)+4294967296^k*(l.getD k 0).toNat:=by
 by_cases h:k<l.length
 ·exact zhc h
 ·rw[xan (by omega),xan (by omega),xab,xcc (by omega)]
  simp
theorem zdk{l:List Int}(hl:IsL l)(k:Nat):∃x:Nat,l.getD k 0=(x:Int)∧x<4294967296∧nv (l.take (k+1))=nv (l.take k)+4294967296^k*x:=by
 have:=hl.getD k
 refine⟨(l.getD k 0).toNat,by omega,by omega,nv_takeS k⟩
theorem pow_digit{P v x:Nat}(hv:v<P)(hx:x<4294967296):v+P*x<P*4294967296:=by
 have:P*(x+1)≤P*4294967296:=xby _ hx
 rw[xbq,xdj]at this
 omega
theorem lenmax(x y:Nat):(bif decide ((x:Int)<(y:Int))then(y:Int)else(x:Int))=((max x y:Nat):Int):=by
 by_cases h:(x:Int)<(y:Int)
 ·rw[decide_eq_true h,cond_true];omega
 ·rw[decide_eq_false h,cond_false];omega
theorem carry_step{P v s lo hi c x y a b:Nat}(hs:s=x+y+c)(hlo:lo=s%4294967296)(hhi:hi=s/4294967296)(h:v+P*c=a+b):v+P*lo+P*4294967296*hi=a+P*x+(b+P*y):=by
 have e:s=lo+4294967296*hi:=by omega
 have:P*s=P*lo+P*4294967296*hi:=by rw[e,xbq,xbf]
 have e2:P*s=P*x+P*y+P*c:=by rw[hs,xbq,xbq]
 omega
theorem d209_eq{a b:List Int}(ha:IsL a)(hb:IsL b)(la:a.length≤1073741824)(lb:b.length≤1073741824):d209 a b=some (zan (nv a+nv b)):=by
 unfold d209
 rw[zbo (by omega),zbo (by omega)]
 simp only[cond_true,Option.bind_some,zcc ha,zcc hb]
 have hla:=zbn ha
 have hlb:=zbn hb
 have hA:=zas (nv a)
 have hB:=zas (nv b)
 have eA:=zav (nv a)
 have eB:=zav (nv b)
 generalize hxA:zan (nv a)=A at *
 generalize hxB:zan (nv b)=B at *
 clear hxA hxB
 simp only[lenmax]
 obtain⟨n,hn⟩:∃n,max A.length B.length=n:=⟨_,rfl⟩
 have hnA:A.length≤n:=by omega
 have hnB:B.length≤n:=by omega
 have hn1:n≤1073741824:=by omega
 rw[hn]
 have w1:w ((n:Int)+1)=((n+1:Nat):Int):=by rw[zbi (by omega) (by omega)];omega
 have g1:decide ((0:Int)≤((n+1:Nat):Int))=true:=decide_eq_true (by omega)
 simp only[w1,xaz,g1,zbo (n:=n+1) (by omega),xac,cond_true]
 refine zbj (Q:=fun r=>r=some (zan (nv a+nv b))) (fun(i:Nat) (st:(List Int)×(List Int)×Int×(List Int)×Int×Int×Int)=>∃(out:List Int) (c:Nat),st=(A,B,(n:Int),out,(c:Int),(n:Int),(i:Int))∧IsL out∧out.length=n+1∧c≤1∧nv out+4294967296^i*c=nv (A.take i)+nv (B.take i)∧nv out<4294967296^i) n ?_ ?_ ?_
 ·exact⟨List.replicate (n+1) 0,0,rfl,IsL.zeros _,by simp,by omega,by simp[zdr,nv],by simp[zdr]⟩
 ·rintro i st hi ⟨out,c,rfl,hL,hlen,hc,hv,hlt⟩
  obtain⟨x,hx1,hx2,hx3⟩:=zdk hA i
  obtain⟨y,hy1,hy2,hy3⟩:=zdk hB i
  have q1:decide ((i:Int)<(n:Int))=true:=decide_eq_true (by omega)
  have q2:decide ((0:Int)≤(i:Int))=true:=decide_eq_true (by omega)
  have q3:decide ((i:Int)<(out.length:Int))=true:=decide_eq_true (by omega)
  have w2:w ((i:Int)+1)=((i+1:Nat):Int):=by rw[zbi (by omega) (by omega)];omega
  have s1:wu64 ((x:Int)+(y:Int))=(x:Int)+y:=zbs (by omega) (by omega)
  have s2:wu64 ((x:Int)+(y:Int)+(c:Int))=(x:Int)+y+c:=zbs (by omega) (by omega)
  have s3:wu32 ((x:Int)+(y:Int)+(c:Int))=(((x+y+c)%4294967296:Nat):Int):=by rw[zio];omega
  have s4:wu64 (((x:Int)+(y:Int)+(c:Int))/4294967296)=(((x+y+c)/4294967296:Nat):Int):=by rw[zbs (by omega) (by omega)];omega
  simp only[zgo hA,zgo hB,q1,q2,q3,w2,hx1,hy1,s1,s2,s3,sh32,s4,cond_true,xac,Option.bind_some,show Int.toNat (i:Int)=i from rfl]
  have e1:=zkd hL (i:=i) (((x+y+c)%4294967296:Nat):Int) (by omega) hlt
  rw[xak]at e1
  refine⟨_,rfl,_,_,rfl,hL.set i (by omega) (by omega),by simpa using hlen,by omega,?_,?_⟩
  ·rw[e1,hx3,hy3,xbj]
   exact carry_step rfl rfl rfl hv
  ·rw[e1,xbj]
   exact pow_digit hlt (by omega)
 ·rintro st ⟨out,c,rfl,hL,hlen,hc,hv,hlt⟩
  have q1:decide ((n:Int)<(n:Int))=false:=decide_eq_false (by omega)
  have q2:decide ((0:Int)≤(n:Int))=true:=decide_eq_true (by omega)
  have q3:decide ((n:Int)<(out.length:Int))=true:=decide_eq_true (by omega)
  have s3:wu32 (c:Int)=(c:Int):=by rw[zio];omega
  refine⟨((n:Int),out,(c:Int)),by simp only[q1,cond_false],?_⟩
  simp only[q2,q3,s3,cond_true,xac,show Int.toNat (n:Int)=n from rfl]
  have e1:=zkd hL (i:=n) (c:Int) (by omega) hlt
  rw[xak]at e1
  rw[xan hnA,xan hnB,eA,eB]at hv
  rw[zgp (hL.set n (by omega) (by omega)) (by simp;omega),e1,hv]
  rfl
end Go.Proofs.YtmipjomnjkmdbaaGreat
namespace Go.Proofs.YtmipjomnjkmdbaaGreat
open Go Go.X
theorem ziz{l:List Int}(hl:IsL l){k m:Nat}{x:Int}(h0:0≤x)(h1:x<4294967296)(hk:k<m)(hv:nv l<4294967296^m):nv (l.set k x)<4294967296^m:=by
 have hs:=hl.set k h0 h1
 by_cases h:m≤l.length
 ·have e1:(l.set k x).drop m=l.drop m:=xii hk
  have e2:=nv_drop hl h
  rw[xec hv]at e2
  rw[nv_split (l.set k x) m (by simpa using h),e1,e2,xew,xco]
  exact top_lt hs m
 ·have:=zpv hs
  rw[List.length_set]at this
  exact xao this (xdd (by decide) (by omega))
theorem or_add{a b n:Nat}(h:a<2^n):a|||b*2^n=a+b*2^n:=by
 rw[Nat.or_comm,xbb b,xgi,←Nat.two_pow_add_eq_or_of_lt h b]
theorem zfp(k n:Nat)(h:n<2^k):(BitVec.ofInt k (n:Int)).toNat=n:=by
 rw[BitVec.ofInt_natCast,xio,xcb h]
theorem or64{a b:Nat}(ha:a<4294967296)(hb:b<4294967296):(BitVec.ofInt 64 ((a*4294967296:Nat):Int)|||BitVec.ofInt 64 (b:Int)).toNat=a*4294967296+b:=by
 rw[xhw,zfp 64 _ (by omega),zfp 64 _ (by omega),Nat.or_comm]
 have:=or_add (a:=b) (b:=a) (n:=32) hb
 rw[show(2:Nat)^32=4294967296 from rfl]at this
 rw[this];omega
theorem zap{n:Nat}(h:n<18446744073709551616):wu64 (n:Int)=(n:Int):=zbs (by omega) (by omega)
theorem zcj{n:Nat}:wu32 (n:Int)=((n%4294967296:Nat):Int):=by rw[zio];omega
theorem shl32(n:Nat):(n:Int)*2^(min (Int.toNat 32) 64)=((n*4294967296:Nat):Int):=by
 show(n:Int)*4294967296=_
 omega
theorem shr32(n:Nat):Int.fdiv (n:Int) (2^(min (Int.toNat 32) 64))=((n/4294967296:Nat):Int):=by
 rw[sh32];omega
theorem or64w{a b:Nat}(ha:a<4294967296)(hb:b<4294967296):wu64 (((BitVec.ofInt 64 (wu64 ((a:Int)*2^(min (Int.toNat 32) 64)))|||BitVec.ofInt 64 (wu64 (b:Int))).toNat:Nat):Int)=((a*4294967296+b:Nat):Int):=by
 rw[shl32,zap (n:=a*4294967296) (by omega),zap (n:=b) (by omega),or64 ha hb,zap (by omega)]
theorem wadd{a b:Nat}(h:a+b≤9223372036854775807):w ((a:Int)+(b:Int))=((a+b:Nat):Int):=by rw[zbi (by omega) (by omega)];omega
theorem zau{a:Nat}(h:a<9223372036854775807):w ((a:Int)+1)=((a+1:Nat):Int):=by rw[zbi (by omega) (by omega)];omega
theorem zoz{a:Nat}(h:a<9223372036854775807):w (((a+1:Nat):Int)-1)=(a:Int):=by rw[zbi (by omega) (by omega)];omega
theorem dlt{a b:Nat}(h:a<b):decide ((a:Int)<(b:Int))=true:=decide_eq_true (by omega)
theorem nlt{a b:Nat}(h:b≤a):decide ((a:Int)<(b:Int))=false:=decide_eq_false (by omega)
theorem d0le(a:Nat):decide ((0:Int)≤(a:Int))=true:=decide_eq_true (by omega)
theorem tn(a:Nat):Int.toNat (a:Int)=a:=rfl
theorem cmpN_lt(x y:Nat):decide (cmpN x y<0)=decide (x<y):=by
 unfold cmpN
 by_cases h:x<y
 ·rw[if_pos h,decide_eq_true h];rfl
 ·rw[if_neg h,decide_eq_false h];split<;>rfl
theorem zdq{x y:Nat}(h:x≤y):(zan x).length≤(zan y).length:=by
 have h1:=(zat y (zan y).length).1 (Nat.le_refl _)
 exact(zat x _).2 (by omega)
theorem borrow_step{P v s lo h c c' x y a b:Nat}(hs:s+y+c=4294967296+x)(hlo:s=lo+4294967296*h)(hc:c'+h=1)(e:v+b=a+P*c):v+P*lo+(b+P*y)=a+P*x+P*4294967296*c':=by
 have e1:lo+y+c=x+4294967296*c':=by omega
 have e2:=xbh (P * ·) e1
 simp only[xbq,←xbf]at e2
 omega
theorem d210_eq{a b:List Int}(ha:IsL a)(hb:IsL b)(la:a.length≤1073741824)(lb:b.length≤1073741824):d210 a b=some (if nv a<nv b then([],false)else(zan (nv a-nv b),true)):=by
 unfold d210
 rw[zbo (by omega),zbo (by omega)]
 simp only[cond_true,Option.bind_some,zcc ha,zcc hb]
 have hla:=zbn ha
 have hlb:=zbn hb
 have hA:=zas (nv a)
 have hB:=zas (nv b)
 have eA:=zav (nv a)
 have eB:=zav (nv b)
 have hm:=@zdq (nv b) (nv a)
 generalize hxA:zan (nv a)=A at *
 generalize hxB:zan (nv b)=B at *
 clear hxA hxB
 rw[d201_eq hA hB (by omega) (by omega),eA,eB]
 simp only[Option.bind_some,cmpN_lt]
 by_cases hlt:nv a<nv b
 ·rw[decide_eq_true hlt,if_pos hlt];rfl
 rw[decide_eq_false hlt,if_neg hlt]
 have hBA:=hm (by omega)
 simp only[cond_false,xaz,d0le,zbo (n:=A.length) (by omega),xac,cond_true,tn]
 refine zbj (Q:=fun r=>r=some (zan (nv a-nv b),true)) (fun(i:Nat) (st:(List Int)×(List Int)×(List Int)×Int×Int×Int)=>∃(out:List Int) (c:Nat),st=(A,B,out,(c:Int),(A.length:Int),(i:Int))∧IsL out∧out.length=A.length∧c≤1∧nv out+nv (B.take i)=nv (A.take i)+4294967296^i*c∧nv out<4294967296^i) A.length ?_ ?_ ?_
 ·exact⟨List.replicate A.length 0,0,rfl,IsL.zeros _,by simp,by omega,by simp[zdr,nv],by simp[zdr]⟩
 ·rintro i st hi ⟨out,c,rfl,hL,hlen,hc,hv,hv2⟩
  obtain⟨x,hx1,hx2,hx3⟩:=zdk hA i
  obtain⟨y,hy1,hy2,hy3⟩:=zdk hB i
  obtain⟨s,hs⟩:∃s,4294967296+x-y-c=s:=⟨_,rfl⟩
  have s1:wu64 (4294967296+(x:Int))=4294967296+(x:Int):=zbs (by omega) (by omega)
  have s2:wu64 (4294967296+(x:Int)-(y:Int))=4294967296+(x:Int)-y:=zbs (by omega) (by omega)
  have s3:wu64 (4294967296+(x:Int)-(y:Int)-(c:Int))=(s:Int):=by rw[zbs (by omega) (by omega)];omega
  have s4:wu64 (((s/4294967296:Nat):Int))=((s/4294967296:Nat):Int):=zap (by omega)
  have s5:wu64 (1-((s/4294967296:Nat):Int))=((1-s/4294967296:Nat):Int):=by rw[zbs (by omega) (by omega)];omega
  simp only[zgo hA,zgo hB,dlt hi,d0le,dlt (show i<out.length by omega),zau (show i<9223372036854775807 by omega),hx1,hy1,s1,s2,s3,shr32,s4,s5,zcj,cond_true,xac,Option.bind_some,tn]
  have e1:=zkd hL (i:=i) (((s%4294967296:Nat):Int)) (by omega) hv2
  rw[xak]at e1
  refine⟨_,rfl,_,_,rfl,hL.set i (by omega) (by omega),by simpa using hlen,by omega,?_,?_⟩
  ·rw[e1,hx3,hy3,xbj]
   exact borrow_step (s:=s) (h:=s/4294967296) (by omega) (by omega) (by omega) hv
  ·rw[e1,xbj]
   exact pow_digit hv2 (by omega)
 ·rintro st ⟨out,c,rfl,hL,hlen,hc,hv,hv2⟩
  refine⟨out,by simp only[nlt (Nat.le_refl A.length),cond_false],?_⟩
  rw[xan (Nat.le_refl _),xan hBA,eA,eB]at hv
  have hc0:c=0:=by
   rcases xbk c with h|h
   ·exact h
   ·have:c=1:=by omega
    subst this
    omega
  subst hc0
  show(d171 out).bind _=_
  rw[zgp hL (by omega),show nv out=nv a-nv b by omega]
  rfl
theorem mul_step{P v s lo hi c x y o t:Nat}(hs:s=x*y+o+c)(hlo:s=lo+4294967296*hi):P*lo+P*4294967296*hi=P*(x*y)+P*o+P*c:=by
 have e2:=xbh (P * ·) (hlo.symm.trans hs)
 simp only[xbq,←xbf]at e2 ⊢
 omega
theorem d177_eq{a b:List Int}(ha:IsL a)(hb:IsL b)(la:a.length≤1073741824)(lb:b.length≤1073741824):d177 a b=some (zan (nv a*nv b)):=by
 unfold d177
 rw[zbo (by omega),zbo (by omega)]
 simp only[cond_true,Option.bind_some,zcc ha,zcc hb]
 have hla:=zbn ha
 have hlb:=zbn hb
 have hA:=zas (nv a)
 have hB:=zas (nv b)
 have eA:=zav (nv a)
 have eB:=zav (nv b)
 generalize hxA:zan (nv a)=A at *
 generalize hxB:zan (nv b)=B at *
 clear hxA hxB
 simp only[wadd (show A.length+B.length≤9223372036854775807 by omega),xaz,d0le,zbo (n:=A.length+B.length) (by omega),xac,cond_true,tn]
 refine zbj (Q:=fun r=>r=some (zan (nv a*nv b))) (fun(i:Nat) (st:(List Int)×(List Int)×(List Int)×Int×Int)=>∃(out:List Int),st=(B,out,A,(A.length:Int),(i:Int))∧IsL out∧out.length=A.length+B.length∧nv out=nv (A.take i)*nv B) A.length ?_ ?_ ?_
 ·exact⟨_,rfl,IsL.zeros _,by simp,by simp[zdr,nv]⟩
 ·rintro i st hi ⟨out,rfl,hL,hlen,hv⟩
  obtain⟨x,hx1,hx2,hx3⟩:=zdk hA i
  have hlt0:nv out<4294967296^(i+B.length):=by
   rw[hv,xdm]
   exact xgm (top_lt hA i) (zpv hB)
  simp only[dlt hi,d0le,cond_true,xac,tn,hx1]
  refine zbj (Q:=fun(r:Option (((List Int)×(List Int)×(List Int)×Int×Int)⊕(List Int)))=>∃a',r=some (.inl a')∧∃(out:List Int),a'=(B,out,A,(A.length:Int),((i+1:Nat):Int))∧IsL out∧out.length=A.length+B.length∧nv out=nv (A.take (i+1))*nv B)
   (fun(j:Nat) (st:(List Int)×(List Int)×Int×Int×Int×(List Int)×Int×Int×(List Int)×Int×Int)=>∃(o:List Int) (c:Nat),st=(B,o,(i:Int),(x:Int),(c:Int),A,(A.length:Int),(i:Int),B,(B.length:Int),(j:Int))∧IsL o∧o.length=A.length+B.length∧c<4294967296∧nv o+4294967296^i*4294967296^j*c=nv out+4294967296^i*(x*nv (B.take j))∧nv o<4294967296^(i+B.length)) B.length ?_ ?_ ?_
  ·exact⟨out,0,rfl,hL,hlen,by omega,by simp[nv],hlt0⟩
  ·rintro j st hj ⟨o,c,rfl,hL',hlen',hc,hv',hlt'⟩
   obtain⟨y,hy1,hy2,hy3⟩:=zdk hB j
   have hz:=hL'.getD (i+j)
   obtain⟨z,hz1⟩:∃z:Nat,o.getD (i+j) 0=(z:Int):=⟨_,(xgy hz.1).symm⟩
   rw[hz1]at hz
   obtain⟨p,hp⟩:∃p,x*y=p:=⟨_,rfl⟩
   have hpl:p≤4294967295*4294967295:=by rw[←hp];exact Nat.mul_le_mul (by omega) (by omega)
   have hxy:(x:Int)*(y:Int)=(p:Int):=by rw[←hp];simp
   have s1:wu64 ((p:Int)+(z:Int))=((p+z:Nat):Int):=by rw[zbs (by omega) (by omega)];omega
   have s2:wu64 (((p+z:Nat):Int)+(c:Int))=((p+z+c:Nat):Int):=by rw[zbs (by omega) (by omega)];omega
   obtain⟨s,hs⟩:∃s,p+z+c=s:=⟨_,rfl⟩
   have s4:wu64 (((s/4294967296:Nat):Int))=((s/4294967296:Nat):Int):=zap (by omega)
   simp only[dlt hj,d0le,wadd (show i+j≤9223372036854775807 by omega),dlt (show i+j<o.length by omega),cond_true,xac,tn,hy1,hz1,zap (show x<18446744073709551616 by omega),zap (show y<18446744073709551616 by omega),zap (show z<18446744073709551616 by omega),hxy,zap (show p<18446744073709551616 by omega),s1,s2,hs,zcj,shr32,s4,zau (show j<9223372036854775807 by omega)]
   have e1:=zja o (i+j) (((s%4294967296:Nat):Int)) (by omega)
   rw[xak,hz1,xak]at e1
   refine⟨_,rfl,_,_,rfl,hL'.set _ (by omega) (by omega),by simpa using hlen',by omega,?_,ziz hL' (by omega) (by omega) (by omega) hlt'⟩
   rw[hy3,xbj]
   rw[xdm]at e1
   have e2:s=x*y+z+c:=by rw[hp,hs]
   have e3:=mul_step (P:=4294967296^i*4294967296^j) (v:=0) (t:=0) e2 (show s=s%4294967296+4294967296*(s/4294967296) by omega)
   have e4:4294967296^i*(x*(nv (B.take j)+4294967296^j*y))=4294967296^i*(x*nv (B.take j))+4294967296^i*4294967296^j*(x*y):=by
    rw[xbq,xbq]
    congr 1
    rw[Nat.mul_left_comm x,←xbf]
   rw[e4]
   rw[←xbf (4294967296^i) (4294967296^j) 4294967296]
   omega
  ·rintro st ⟨o,c,rfl,hL',hlen',hc,hv',hlt'⟩
   refine⟨_,by simp only[nlt (Nat.le_refl B.length),cond_false];rfl,?_⟩
   simp only[d0le,wadd (show i+B.length≤9223372036854775807 by omega),dlt (show i+B.length<o.length by omega),cond_true,xac,tn,zau (show i<9223372036854775807 by omega),zcj,xcb hc]
   have e1:=zkd hL' (i:=i+B.length) (c:Int) (by omega) hlt'
   rw[xak]at e1
   refine⟨_,rfl,_,rfl,hL'.set _ (by omega) (by omega),by simpa using hlen',?_⟩
   rw[xan (Nat.le_refl _)]at hv'
   rw[e1,hx3,xbl,xdm,hv',hv,xbf]
 ·rintro st ⟨out,rfl,hL,hlen,hv⟩
  refine⟨out,by simp only[nlt (Nat.le_refl A.length),cond_false],?_⟩
  rw[xan (Nat.le_refl _),eA,eB]at hv
  show(d171 out).bind _=_
  rw[zgp hL (by omega),hv]
  rfl
end Go.Proofs.YtmipjomnjkmdbaaGreat
namespace Go.Proofs.YtmipjomnjkmdbaaGreat
open Go Go.X
theorem zjt{α β γ:Type}{f:α→Option (α⊕β)}{k:β→Option γ}{a0:α}{Q:Option γ→Prop}(R:Nat→α→Prop)(n:Nat)(h0:R n a0)(hs:∀i a,i<n→R (i+1) a→∃a',f a=some (.inl a')∧R i a')(he:∀a,R 0 a→∃b,f a=some (.inr b)∧Q (k b)):Q ((zaa f a0).bind k):=by
 refine zbj (Q:=Q) (fun i a=>i≤n∧R (n-i) a) n ⟨xbt _,h0⟩ ?_ ?_
 ·rintro i a hi ⟨h1,h2⟩
  rw[show n-i=n-(i+1)+1 by omega]at h2
  obtain⟨a',h3,h4⟩:=hs (n-(i+1)) a (by omega) h2
  exact⟨a',h3,hi,h4⟩
 ·rintro a ⟨_,h⟩
  rw[Nat.sub_self]at h
  exact he a h
theorem getD_set_ne(l:List Int){i j:Nat}(x:Int)(h:i≠j):(l.set i x).getD j 0=l.getD j 0:=by
 simp only[xab,xgo h]
theorem zoj(n i:Nat):(List.replicate n (0:Int)).getD i 0=0:=by
 rw[xab,xfy]
 split<;>rfl
theorem short_step{P V q r t x d X:Nat}(h:V=q*d+P*4294967296*r+(t+P*x))(hX:X=r*4294967296+x):V=(q+P*(X/d))*d+P*(X%d)+t:=by
 have e:=xey X d
 have e1:P*X=P*(X/d)*d+P*(X%d):=by
  rw[xbf,xbb (X/d),←xbq,e]
 have e2:P*X=P*4294967296*r+P*x:=by rw[hX,xbq,xbf,xbb r]
 rw[xbl]
 omega
theorem d202_eq{a:List Int}(ha:IsL a)(la:a.length≤1073741824){d:Nat}(hd:0<d)(hd2:d<4294967296):∃q,d202 a (d:Int)=some (q,((nv a%d:Nat):Int))∧IsL q∧q.length=a.length∧nv q=nv a/d:=by
 unfold d202
 simp only[xaz,d0le,zbo (n:=a.length) (by omega),xac,cond_true,tn]
 have hd0:decide ((d:Int)=0)=false:=decide_eq_false (by omega)
 refine zjt (Q:=fun r=>∃q,r=some (q,((nv a%d:Nat):Int))∧IsL q∧q.length=a.length∧nv q=nv a/d) (fun(i:Nat) (st:(List Int)×Int×(List Int)×Int×Int)=>∃(q:List Int) (r:Nat),st=(a,(d:Int),q,(r:Int),(i:Int)-1)∧i≤a.length∧IsL q∧q.length=a.length∧r<d∧(∀k,k<i→q.getD k 0=0)∧nv a=nv q*d+4294967296^i*r+nv (a.take i)) a.length ?_ ?_ ?_
 ·refine⟨_,0,by rw[zbi (by omega) (by omega)];rfl,Nat.le_refl _,IsL.zeros _,by simp,hd,fun k _=>zoj _ k,by simp[zdr]⟩
 ·rintro i st hi ⟨q,r,rfl,hia,hL,hlen,hr,hz,hv⟩
  obtain⟨x,hx1,hx2,hx3⟩:=zdk ha i
  have hi1:(((i+1:Nat):Int))-1=(i:Int):=by omega
  obtain⟨X,hX⟩:∃X,r*4294967296+x=X:=⟨_,rfl⟩
  have hX1:X/d<4294967296:=by
   rw[xdl hd]
   have:(r+1)*4294967296≤d*4294967296:=xam _ hr
   rw[xbb 4294967296]
   omega
  have hX2:X%d<d:=xdk _ hd
  have t1:Int.tdiv (X:Int) (d:Int)=((X/d:Nat):Int):=rfl
  have t2:Int.tmod (X:Int) (d:Int)=((X%d:Nat):Int):=rfl
  have hw:w ((i:Int)-1)=(i:Int)-1:=zbi (by omega) (by omega)
  simp only[hi1,d0le,dlt (show i<a.length by omega),dlt (show i<q.length by omega),hd0,xae,cond_true,xac,tn,hx1,or64w (show r<4294967296 by omega) hx2,hX,t1,t2,zap (show X/d<18446744073709551616 by omega),zap (show X%d<18446744073709551616 by omega),zcj,xcb hX1,hw]
  have e1:=zja q i (((X/d:Nat):Int)) (by omega)
  rw[hz i (by omega),xak]at e1
  refine⟨_,rfl,_,_,rfl,by omega,hL.set i (xim _) (by rw[show(4294967296:Int)=((4294967296:Nat):Int)from rfl];exact Int.ofNat_lt.2 hX1),by simpa using hlen,hX2,fun k hk=>by rw[getD_set_ne _ _ (by omega)];exact hz k (by omega),?_⟩
  have e2:nv (q.set i (((X/d:Nat):Int)))=nv q+4294967296^i*(X/d):=by simpa using e1
  rw[e2]
  rw[xbj,hx3]at hv
  exact short_step hv hX.symm
 ·rintro st ⟨q,r,rfl,hia,hL,hlen,hr,hz,hv⟩
  refine⟨(q,(r:Int)),rfl,q,?_,hL,hlen,?_⟩
  ·simp only[xct,nv,xgg,xih,xco]at hv
   rw[hv,xbb,Nat.mul_add_mod,xcb hr]
  ·simp only[xct,nv,xgg,xih,xco]at hv
   rw[hv,xbb,Nat.mul_add_div hd,xec hr,xco]
theorem shl_nat{x n:Nat}(hn:n≤31):(x:Int)*2^(min (Int.toNat (n:Int)) 64)=((x*2^n:Nat):Int):=by
 rw[tn,show min n 64=n by omega];simp
theorem shr_nat{x n:Nat}(hn:n≤31):Int.fdiv (x:Int) (2^(min (Int.toNat (n:Int)) 64))=((x/2^n:Nat):Int):=by
 rw[tn,show min n 64=n by omega]
 have:((2:Int)^n)=((2^n:Nat):Int):=by simp
 rw[this,xfi _ (xim _)]
 rfl
theorem zmn{n:Nat}(hn:n≤31):2^n*2^(32-n)=4294967296:=by
 rw[←xdm,show n+(32-n)=32 by omega]
theorem low_half{x n:Nat}(hn:n≤31):x*2^n%4294967296=x%2^(32-n)*2^n:=by
 rw[←zmn hn,xbb x,Nat.mul_mod_mul_left,xbb]
theorem low_top{x n o:Nat}(hn:n≤31)(ho:o<2^n):o+x*2^n%4294967296<4294967296:=by
 rw[low_half hn]
 have h1:x%2^(32-n)<2^(32-n):=xdk _ (xev (by decide))
 have h2:=xam (2^n) h1
 rw[xbb (2^(32-n)),zmn hn,xfq]at h2
 omega
theorem or32{o x n:Nat}(hn:n≤31)(ho:o<2^n):(BitVec.ofInt 32 (o:Int)|||BitVec.ofInt 32 ((x*2^n%4294967296:Nat):Int)).toNat=o+x*2^n%4294967296:=by
 have h2:o<4294967296:=by have:=low_top (x:=x) hn ho;omega
 rw[xhw,zfp 32 _ (by omega),zfp 32 _ (xdk _ (by decide)),low_half hn]
 exact or_add ho
theorem left_step{P v lo hi x t T:Nat}(hv:v=t*T)(hlo:x*T=lo+4294967296*hi):v+P*lo+P*4294967296*hi=(t+P*x)*T:=by
 rw[xbl,←hv,xbf P x T,hlo,xbq,←xbf];omega
theorem set_set_nv{out:List Int}(hL:IsL out){i o lo hi:Nat}(h:i+1<out.length)(ho:out.getD i 0=(o:Int))(hlt:nv out<4294967296^(i+1))(h1:o+lo<4294967296)(h2:hi<4294967296) :
  IsL ((out.set i ((o+lo:Nat):Int)).set (i+1) (hi:Int))∧nv ((out.set i ((o+lo:Nat):Int)).set (i+1) (hi:Int))=nv out+4294967296^i*lo+4294967296^i*4294967296*hi:=by
 have q1:=hL.set i (x:=((o+lo:Nat):Int)) (by omega) (by omega)
 refine⟨q1.set _ (by omega) (by omega),?_⟩
 have e1:=zja out i ((o+lo:Nat):Int) (by omega)
 rw[ho,xak,xak,xbq]at e1
 have e2:=zkd q1 (i:=i+1) (hi:Int) (by simpa using h) (ziz hL (by omega) (by omega) (by omega) hlt)
 rw[e2,xak,xbj]
 omega
theorem d204_eq{a:List Int}(ha:IsL a)(la:a.length≤1073741824){n:Nat}(hn:n≤31):∃out,d204 a (n:Int)=some out∧IsL out∧out.length=a.length+1∧nv out=nv a*2^n:=by
 unfold d204
 have hT:2^n<4294967296:=xhx (by decide) (show n<32 by omega)
 have hT0:0<2^n:=xev (by decide)
 simp only[zau (show a.length<9223372036854775807 by omega),xaz,d0le,zbo (n:=a.length+1) (by omega),xac,cond_true,tn]
 refine zbj (Q:=fun r=>∃out,r=some out∧IsL out∧out.length=a.length+1∧nv out=nv a*2^n) (fun(i:Nat) (st:Int×(List Int)×(List Int)×Int×Int)=>∃(out:List Int),st=((n:Int),out,a,(a.length:Int),(i:Int))∧IsL out∧out.length=a.length+1∧nv out=nv (a.take i)*2^n) a.length ?_ ?_ ?_
 ·exact⟨_,rfl,IsL.zeros _,by simp,by simp[zdr,nv]⟩
 ·rintro i st hi ⟨out,rfl,hL,hlen,hv⟩
  obtain⟨x,hx1,hx2,hx3⟩:=zdk ha i
  have htop:=top_lt ha i
  have hlt:nv out<4294967296^i*2^n:=by rw[hv];exact xgu htop hT0
  have ho1:out.getD i 0=((nv out/4294967296^i:Nat):Int):=by
   rw[zfi hL]
   have:nv out/4294967296^i<2^n:=xef hlt
   rw[xcb (by omega)]
  have ho2:nv out/4294967296^i<2^n:=xef hlt
  obtain⟨o,ho⟩:∃o,nv out/4294967296^i=o:=⟨_,rfl⟩
  rw[ho]at ho1 ho2
  have hlt1:nv out<4294967296^(i+1):=by
   rw[xbj]
   exact xao hlt (xby _ (by omega))
  obtain⟨v,hvx⟩:∃v,x*2^n=v:=⟨_,rfl⟩
  have hv64:v<4294967296*4294967296:=by rw[←hvx];exact xgm hx2 hT
  have hor:=or32 (x:=x) hn ho2
  have hlo:=low_top (x:=x) hn ho2
  rw[hvx]at hor hlo
  have s1:wu32 ((o+v%4294967296:Nat):Int)=((o+v%4294967296:Nat):Int):=by rw[zcj,xcb hlo]
  have hhi:v/4294967296<4294967296:=by omega
  have s2:wu32 ((v/4294967296:Nat):Int)=((v/4294967296:Nat):Int):=by rw[zcj,xcb hhi]
  simp only[dlt hi,d0le,dlt (show i<out.length by omega),zau (show i<9223372036854775807 by omega),List.length_set,dlt (show i+1<out.length by omega),cond_true,xac,tn,hx1,ho1,zap (show x<18446744073709551616 by omega)]
  rw[show(x:Int)*2^(min n 64)=(v:Int) by have:=shl_nat (x:=x) hn;rw[tn,hvx]at this;exact this]
  simp only[zap (show v<18446744073709551616 by omega),zcj (n:=v),hor,s1,shr32,zap (show v/4294967296<18446744073709551616 by omega),s2]
  obtain⟨q1,q2⟩:=set_set_nv hL (i:=i) (lo:=v%4294967296) (hi:=v/4294967296) (by omega) ho1 hlt1 hlo hhi
  refine⟨_,rfl,_,rfl,q1,by simpa using hlen,?_⟩
  rw[q2,hx3]
  exact left_step hv (by rw[hvx];omega)
 ·rintro st ⟨out,rfl,hL,hlen,hv⟩
  rw[xan (Nat.le_refl _)]at hv
  exact⟨out,by simp only[nlt (Nat.le_refl a.length),cond_false],out,rfl,hL,hlen,hv⟩
theorem right_digit{X n:Nat}(hn:n≤31):(X%4294967296+X/4294967296%4294967296*4294967296)/2^n%4294967296=X/2^n%4294967296:=by
 have hT0:0<2^n:=xev (by decide)
 obtain⟨z,hz⟩:∃z,X%4294967296+X/4294967296%4294967296*4294967296=z:=⟨_,rfl⟩
 have e:X=z+2^n*(2^(32-n)*(X/4294967296/4294967296)*4294967296):=by
  rw[xbf,←xbf (2^n),zmn hn]
  omega
 rw[hz]
 conv=>rhs;rw[e]
 rw[xhy _ _ hT0,Nat.add_mul_mod_self_right]
theorem or64r{a b:Nat}(ha:a<4294967296)(hb:b<4294967296):wu64 (((BitVec.ofInt 64 (b:Int)|||BitVec.ofInt 64 (wu64 ((a:Int)*2^(min (Int.toNat 32) 64)))).toNat:Nat):Int)=((b+a*4294967296:Nat):Int):=by
 rw[shl32,zap (n:=a*4294967296) (by omega),xhw,Nat.or_comm,←xhw,or64 ha hb,zap (by omega)]
 congr 1
 omega
theorem d206_eq{a:List Int}(ha:IsL a)(la:a.length≤1073741824){n:Nat}(hn:n≤31):∃out,d206 a (n:Int)=some out∧IsL out∧out.length=a.length∧nv out=nv a/2^n:=by
 unfold d206
 have hT0:0<2^n:=xev (by decide)
 simp only[xaz,d0le,zbo (n:=a.length) (by omega),xac,cond_true,tn]
 refine zbj (Q:=fun r=>∃out,r=some out∧IsL out∧out.length=a.length∧nv out=nv a/2^n) (fun(i:Nat) (st:(List Int)×Int×(List Int)×Int×Int)=>∃(out:List Int),st=(a,(n:Int),out,(a.length:Int),(i:Int))∧IsL out∧out.length=a.length∧nv out=nv a/2^n%4294967296^i) a.length ?_ ?_ ?_
 ·exact⟨_,rfl,IsL.zeros _,by simp,by simp[zdr,nv,Nat.mod_one]⟩
 ·rintro i st hi ⟨out,rfl,hL,hlen,hv⟩
  have g0:=zfi ha i
  have g1:=zfi ha (i+1)
  rw[xbj,←xdg]at g1
  have hlt:nv out<4294967296^i:=by rw[hv];exact xdk _ (zoy i)
  have hd:=right_digit (X:=nv a/4294967296^i) hn
  obtain⟨X,hX⟩:∃X,nv a/4294967296^i=X:=⟨_,rfl⟩
  rw[hX]at g0 g1 hd
  have b0:X%4294967296<4294967296:=xdk _ (by decide)
  have b1:X/4294967296%4294967296<4294967296:=xdk _ (by decide)
  obtain⟨z,hz⟩:∃z,X%4294967296+X/4294967296%4294967296*4294967296=z:=⟨_,rfl⟩
  rw[hz]at hd
  have hzb:z<18446744073709551616:=by omega
  have hzd:z/2^n<18446744073709551616:=xeq (xcv _ _) hzb
  have sh:Int.fdiv (z:Int) (2^(min n 64))=((z/2^n:Nat):Int):=by have:=shr_nat (x:=z) hn;rwa[tn]at this
  simp only[dlt hi,zgo ha,zau (show i<9223372036854775807 by omega),d0le,dlt (show i<out.length by omega),cond_true,xac,Option.bind_some,g0,g1,or64r b1 b0,hz,tn,sh,zap hzd,zcj,hd]
  have e1:=zkd hL (i:=i) (((X/2^n%4294967296:Nat):Int)) (by omega) hlt
  rw[xak]at e1
  refine⟨_,rfl,_,rfl,hL.set i (by omega) (by omega),by simpa using hlen,?_⟩
  rw[e1,hv,←hX,xdg,xbb (4294967296^i) (2^n),←xdg,Nat.mod_pow_succ]
 ·rintro st ⟨out,rfl,hL,hlen,hv⟩
  refine⟨out,by simp only[nlt (Nat.le_refl a.length),cond_false],out,rfl,hL,hlen,?_⟩
  rw[hv]
  exact xcb (xeq (xcv _ _) (zpv ha))
end Go.Proofs.YtmipjomnjkmdbaaGreat
namespace Go.Proofs.YtmipjomnjkmdbaaGreat
open Go Go.X
theorem zco{α β γ:Type}{f:α→Option (α⊕β)}{k:β→Option γ}{a0:α}{Q:Option γ→Prop}(R:Nat→α→Prop)(n:Nat)(h0:R n a0)(hs:∀m a,R m a→(∃a' m',f a=some (.inl a')∧m'<m∧R m' a')∨∃b,f a=some (.inr b)∧Q (k b)):Q ((zaa f a0).bind k):=by
 have key:∀M m a,m<M→R m a→∃b,zaa f a=some b∧Q (k b):=by
  intro M
  induction M with
  |zero=>intro m a h;omega
  |succ M ih=>
   intro m a hm hr
   rcases hs m a hr with⟨a',m',h1,h2,h3⟩|⟨b,h1,h2⟩
   ·obtain⟨b,h4,h5⟩:=ih m' a' (by omega) h3
    exact⟨b,zho h1 h4,h5⟩
   ·exact⟨b,zdo h1,h2⟩
 obtain⟨b,h1,h2⟩:=key (n+1) n a0 (by omega) h0
 rw[h1]
 exact h2
theorem two_top{v:List Int}(hv:IsL v){m:Nat}(hm:v.length=m+2):∃h s t:Nat,v.getD (m+1) 0=(h:Int)∧v.getD m 0=(s:Int)∧h<4294967296∧s<4294967296∧t<4294967296^m∧nv v=(h*4294967296+s)*4294967296^m+t:=by
 have g0:=zfi hv m
 have g1:=zfi hv (m+1)
 rw[xbj,←xdg]at g1
 have hlt:=zpv hv
 rw[hm,show m+2=m+1+1 by omega,xbj,xbj,xbf]at hlt
 have hY:=xef hlt
 have hdm:=xey (nv v) (4294967296^m)
 have hml:=xdk (nv v) (zoy m)
 generalize nv v/4294967296^m=Y at *
 refine⟨Y/4294967296,Y%4294967296,nv v%4294967296^m,?_,g0,by omega,by omega,hml,?_⟩
 ·rw[g1];omega
 ·rw[show Y/4294967296*4294967296+Y%4294967296=Y by omega,xbb Y];omega
theorem three_top{u:List Int}(hu:IsL u){j m:Nat}(hlt:nv u<4294967296^(j+m+3)):∃a b c z:Nat,u.getD (j+m+2) 0=(a:Int)∧u.getD (j+m+1) 0=(b:Int)∧u.getD (j+m) 0=(c:Int)∧a<4294967296∧b<4294967296∧c<4294967296∧z<4294967296^m∧nv u/4294967296^j=((a*4294967296+b)*4294967296+c)*4294967296^m+z:=by
 have g0:=zfi hu (j+m)
 have g1:=zfi hu (j+m+1)
 have g2:=zfi hu (j+m+2)
 rw[show j+m+2=j+m+1+1 by omega,xbj,←xdg]at g2
 rw[xbj,←xdg]at g1 g2
 rw[xdm,←xdg]at g0 g1 g2
 have hl2:nv u/4294967296^j/4294967296^m<4294967296*4294967296*4294967296:=by
  rw[xdg,←xdm]
  refine xef ?_
  rw[show j+m+3=j+m+1+1+1 by omega,xbj,xbj,xbj]at hlt
  rw[←xbf,←xbf]
  exact hlt
 generalize nv u/4294967296^j=U at *
 have hdm:=xey U (4294967296^m)
 have hml:=xdk U (zoy m)
 generalize U/4294967296^m=Y at *
 refine⟨Y/4294967296/4294967296,Y/4294967296%4294967296,Y%4294967296,U%4294967296^m,?_,g1,g0,by omega,by omega,by omega,hml,?_⟩
 ·rw[show j+m+2=j+m+1+1 by omega,g2];omega
 ·rw[show(Y/4294967296/4294967296*4294967296+Y/4294967296%4294967296)*4294967296+Y%4294967296=Y by omega,xbb Y];omega
theorem guess_low{U V W top h s t u0 z q r:Nat}(hV:V=(h*4294967296+s)*W+t)(hU:U=(top*4294967296+u0)*W+z)(hz:z<W)(hu:u0<4294967296)(hq:q*h+r=top)(hr:r<h):U<(q+1)*V:=by
 have h1:top+1≤(q+1)*h:=by rw[xfq];omega
 have h2:top*4294967296+u0+1≤(q+1)*(h*4294967296+s):=by
  rw[xbq,←xbf]
  have:=xam 4294967296 h1
  omega
 have h3:=xam W h2
 rw[hV,xbq,←xbf,hU]
 rw[xfq]at h3
 omega
theorem top_bound{B U V W x c y t z:Nat}(hV:V=y*W+t)(hU:U=(x*B+c)*W+z)(ht:t<W)(hlt:U<B*V):x≤y:=by
 refine Nat.not_lt.1 fun h1=>?_
 have h2:(y+1)*B≤x*B:=xam B h1
 have h3:=xam W h2
 have h4:B*V≤B*((y+1)*W):=by
  refine xby B ?_
  rw[hV,xfq];omega
 rw[xbb (y+1) B,xbf]at h3
 rw[xbl]at hU
 omega
theorem q_small{q h r:Nat}(hq:q*h+r≤h*4294967296+4294967295)(hr:4294967296≤r):q<4294967296:=by
 refine Nat.not_le.1 fun h1=>?_
 have:=xam h h1
 rw[xbb 4294967296]at this
 omega
theorem d216_eq{u v:List Int}(hu:IsL u)(hv:IsL v){j m:Nat}(hm:v.length=m+2)(hlen:j+m+2<u.length)(lu:u.length≤1073741825)(hlt:nv u<4294967296^(j+m+3))(hh:v.getD (m+1) 0≠0)(hUV:nv u/4294967296^j<4294967296*nv v) :
  ∃q:Nat,d216 u v (j:Int)=some (q:Int)∧q<4294967296∧nv u/4294967296^j<(q+1)*nv v∧q*nv v<nv u/4294967296^j+nv v:=by
 obtain⟨h,s,t,v1,v2,hh1,hs1,ht1,hV⟩:=two_top hv hm
 obtain⟨a,b,c,z,u1,u2,u3,ha1,hb1,hc1,hz1,hU⟩:=three_top hu hlt
 have hb0:=top_bound hV hU ht1 hUV
 generalize nv u/4294967296^j=U at *
 generalize nv v=V at *
 generalize 4294967296^m=W at *
 rw[v1]at hh
 have hh0:0<h:=by omega
 obtain⟨top,htop⟩:∃top,a*4294967296+b=top:=⟨_,rfl⟩
 rw[htop]at hU hb0
 have htl:top<18446744073709551616:=by omega
 unfold d216
 have i1:w ((j:Int)+((m+2:Nat):Int))=((j+m+2:Nat):Int):=by rw[zbi (by omega) (by omega)];omega
 have i2:w (((j+m+2:Nat):Int)-1)=((j+m+1:Nat):Int):=by rw[zbi (by omega) (by omega)];omega
 have i3:w (((m+2:Nat):Int)-1)=((m+1:Nat):Int):=by rw[zbi (by omega) (by omega)];omega
 have i4:w (((m+2:Nat):Int)-2)=((m:Nat):Int):=by rw[zbi (by omega) (by omega)];omega
 have i5:w (((j+m+2:Nat):Int)-2)=((j+m:Nat):Int):=by rw[zbi (by omega) (by omega)];omega
 have hne:decide ((h:Int)=0)=false:=decide_eq_false (by omega)
 have hd1:top/h<18446744073709551616:=xeq (xcv _ _) htl
 have hd2:top%h<h:=xdk _ hh0
 have t1:Int.tdiv (top:Int) (h:Int)=((top/h:Nat):Int):=rfl
 have t2:Int.tmod (top:Int) (h:Int)=((top%h:Nat):Int):=rfl
 simp only[hm,i1,i2,i3,d0le,dlt (show j+m+2<u.length by omega),dlt (show j+m+1<u.length by omega),dlt (show m+1<m+2 by omega),cond_true,xac,tn,v1,u1,u2,zap (show h<18446744073709551616 by omega),zap (show a<18446744073709551616 by omega),hne,xae,or64w ha1 hb1,htop,t1,t2,zap hd1,zap (show top%h<18446744073709551616 by omega)]
 refine zco (Q:=fun r=>∃q:Nat,r=some (q:Int)∧q<4294967296∧U<(q+1)*V∧q*V<U+V) (fun(M:Nat) (st:(List Int)×(List Int)×Int×Int×Int×Int×Int)=>∃(q r:Nat),M=q∧st=(u,v,(j:Int),((m+2:Nat):Int),(h:Int),(q:Int),(r:Int))∧q*h+r=top∧r<4294967296∧q<18446744073709551616∧U<(q+1)*V) (top/h) ?_ ?_
 ·exact⟨_,_,rfl,rfl,by rw[xbb];exact xey top h,by omega,hd1,guess_low hV hU hz1 hc1 (by rw[xbb];exact xey top h) hd2⟩
 ·rintro M st ⟨q,r,rfl,rfl,hq,hr,hq64,hlow⟩
  have e2:wu64 ((r:Int)+(h:Int))=((r+h:Nat):Int):=by rw[zbs (by omega) (by omega)];omega
  have e1:0<M→wu64 ((M:Int)-1)=((M-1:Nat):Int):=fun h0=>by rw[zbs (by omega) (by omega)];omega
  have down:0<M→U<M*V→(4294967296≤r+h∧M-1<4294967296∧U<(M-1+1)*V∧(M-1)*V<U+V)∨(r+h<4294967296∧(M-1)*h+(r+h)=top∧U<(M-1+1)*V):=by
   intro h0 hU1
   have e3:(M-1)*h+(r+h)=top:=by
    rw[←hq]
    obtain⟨M',rfl⟩:∃M',M=M'+1:=⟨M-1,by omega⟩
    rw[Nat.add_sub_cancel,xfq];omega
   have e4:M-1+1=M:=by omega
   rw[e4]
   by_cases hb:4294967296≤r+h
   ·have hqs:=q_small (h:=h) (r:=r+h) (by rw[e3];omega) hb
    refine .inl ⟨hb,hqs,hU1,zoo hV hU ht1 hh0 e3 hqs ?_⟩
    have:(M-1)*s≤4294967296*4294967296:=Nat.mul_le_mul (by omega) (by omega)
    omega
   ·exact .inr ⟨by omega,e3,hU1⟩
  by_cases hq1:4294967296≤M
  ·have d1:decide ((4294967296:Int)≤(M:Int))=true:=decide_eq_true (by omega)
   have hM:0<M:=by omega
   rcases down hM (xao hUV (xam V hq1))with⟨k1,k2,k3,k4⟩|⟨k1,k2,k3⟩
   ·have d2:decide ((4294967296:Int)≤((r+h:Nat):Int))=true:=decide_eq_true (by omega)
    exact .inr ⟨((M-1:Nat):Int),by simp only[zae,d1,xaj,cond_false,cond_true,e1 hM,e2,d2],M-1,rfl,k2,k3,k4⟩
   ·have d2:decide ((4294967296:Int)≤((r+h:Nat):Int))=false:=decide_eq_false (by omega)
    exact .inl ⟨_,M-1,by simp only[zae,d1,xaj,cond_false,cond_true,e1 hM,e2,d2],by omega,M-1,r+h,rfl,rfl,k2,k1,by omega,k3⟩
  ·have d1:decide ((4294967296:Int)≤(M:Int))=false:=decide_eq_false (by omega)
   obtain⟨p,hp⟩:∃p,M*s=p:=⟨_,rfl⟩
   have hpl:p≤4294967295*4294967295:=by rw[←hp];exact Nat.mul_le_mul (by omega) (by omega)
   have hpi:(M:Int)*(s:Int)=(p:Int):=by rw[←hp];simp
   simp only[zae,d1,xae,cond_true,i1,i4,i5,d0le,dlt (show m<m+2 by omega),hm,dlt (show j+m<u.length by omega),xac,tn,v2,u3,or64w hr hc1,zap (show s<18446744073709551616 by omega),hpi,zap (show p<18446744073709551616 by omega)]
   by_cases hc:r*4294967296+c<p
   ·simp only[dlt hc]
    rw[←hp]at hc
    have hM:0<M:=by
     rcases xbk M with h0|h0
     ·subst h0;rw[xek]at hc;omega
     ·exact h0
    rcases down hM (digit_low hV hU hz1 hq hc)with⟨k1,k2,k3,k4⟩|⟨k1,k2,k3⟩
    ·have d2:decide ((4294967296:Int)≤((r+h:Nat):Int))=true:=decide_eq_true (by omega)
     exact .inr ⟨((M-1:Nat):Int),by simp only[cond_false,cond_true,e1 hM,e2,d2],M-1,rfl,k2,k3,k4⟩
    ·have d2:decide ((4294967296:Int)≤((r+h:Nat):Int))=false:=decide_eq_false (by omega)
     exact .inl ⟨_,M-1,by simp only[cond_false,cond_true,e1 hM,e2,d2],by omega,M-1,r+h,rfl,rfl,k2,k1,by omega,k3⟩
   ·rw[nlt (a:=r*4294967296+c) (b:=p) (by omega)]
    refine .inr ⟨(M:Int),by simp only[cond_false],M,rfl,by omega,hlow,?_⟩
    exact zoo hV hU ht1 hh0 hq (by omega) (by rw[hp];omega)
end Go.Proofs.YtmipjomnjkmdbaaGreat
namespace Go.Proofs.YtmipjomnjkmdbaaGreat
open Go Go.X
theorem and_low{p:Nat}(h:p<18446744073709551616):wu64 (((BitVec.ofInt 64 (p:Int)&&&BitVec.ofInt 64 4294967295).toNat:Nat):Int)=((p%4294967296:Nat):Int):=by
 have:BitVec.ofInt 64 4294967295=BitVec.ofNat 64 4294967295:=rfl
 rw[this,BitVec.toNat_and,zfp 64 _ (by omega),xio]
 have e:=Nat.and_two_pow_sub_one_eq_mod p 32
 rw[show(2:Nat)^32-1=4294967295 from rfl,show(2:Nat)^32=4294967296 from rfl]at e
 rw[show 4294967295%2^64=4294967295 from rfl,e,zap (by omega)]
theorem sub_step{X N N' N2 T x y q dig lo h bo bo' ca ca' s p Y:Nat}(hN:N+X*(q*T)=N'+X*Y*(bo+ca))(h2:N2+X*Y*x=N+X*Y*dig)(hp:q*y+ca=p)(hlo:p=lo+4294967296*ca')(hs:s+lo+bo=4294967296+x)(hd:s=dig+4294967296*h)(hb:bo'+h=1):N2+X*(q*(T+Y*y))=N'+X*(Y*4294967296)*(bo'+ca'):=by
 have e:dig+q*y+ca+bo=x+4294967296*(bo'+ca'):=by omega
 have e1:=xbh ((X*Y) * ·) e
 simp only[xbq]at e1 hN ⊢
 have e2:X*(q*(Y*y))=X*Y*(q*y):=by rw[Nat.mul_left_comm q,←xbf]
 have e3:X*Y*(4294967296*bo')=X*(Y*4294967296)*bo':=by simp only[xbf]
 have e4:X*Y*(4294967296*ca')=X*(Y*4294967296)*ca':=by simp only[xbf]
 omega
theorem add_step{X N N' N2 T x y dig c c' s Y:Nat}(hN:N+X*Y*c=N'+X*T)(h2:N2+X*Y*x=N+X*Y*dig)(hs:x+y+c=s)(hd:s=dig+4294967296*c'):N2+X*(Y*4294967296)*c'=N'+X*(T+Y*y):=by
 have e:dig+4294967296*c'=x+y+c:=by omega
 have e1:=xbh ((X*Y) * ·) e
 simp only[xbq]at e1 hN ⊢
 have e2:X*(Y*y)=X*Y*y:=by rw[xbf]
 have e4:X*Y*(4294967296*c')=X*(Y*4294967296)*c':=by simp only[xbf]
 omega
theorem below_next{N X U q V:Nat}(hX:0<X)(hU:N/X=U)(h:U<(q+1)*V):N<X*(q*V)+X*V:=by
 have h1:N<X*(U+1):=by
  have:=xey N X
  have:=xdk N hX
  rw[hU]at *
  rw[xbq,xdj]
  omega
 have h2:X*(U+1)≤X*((q+1)*V):=xby _ h
 have e:X*((q+1)*V)=X*(q*V)+X*V:=by rw[xfq,xbq]
 omega
theorem floor_le{N X U Y:Nat}(hU:N/X=U)(h:Y≤U):X*Y≤N:=by
 have:=xey N X
 rw[hU]at this
 have h2:X*Y≤X*U:=xby _ h
 omega
set_option maxHeartbeats 1000000 in
theorem d205_eq{u v:List Int}(hu:IsL u)(hv:IsL v){m k:Nat}(hm:v.length=m+2)(hk:u.length=k+(m+2))(lu:u.length≤1073741825)(hh:v.getD (m+1) 0≠0)(hlt:nv u<nv v*4294967296^k) :
  ∃q r,d205 u v=some (q,r)∧IsL q∧IsL r∧q.length=k∧r.length=u.length∧nv q=nv u/nv v∧nv r=nv u%nv v:=by
 have hV0:0<nv v:=by
  rcases xbk (nv v)with h0|h0
  ·rw[h0,xek]at hlt;omega
  ·exact h0
 have hVB:=zpv hv
 unfold d205
 have i1:w ((u.length:Int)-(v.length:Int))=(k:Int):=by rw[zbi (by omega) (by omega)];omega
 have i2:w ((v.length:Int)+1)=((m+3:Nat):Int):=by rw[zbi (by omega) (by omega)];omega
 have i3:w ((k:Int)-1)=(k:Int)-1:=zbi (by omega) (by omega)
 simp only[i1,xaz,d0le,zbo (n:=k) (by omega),xac,cond_true,tn,i3]
 refine zjt (Q:=fun r=>∃q r',r=some (q,r')∧IsL q∧IsL r'∧q.length=k∧r'.length=u.length∧nv q=nv u/nv v∧nv r'=nv u%nv v) (fun(i:Nat) (st:(List Int)×(List Int)×Int×(List Int)×Int)=>∃(u' out:List Int),st=(u',v,(v.length:Int),out,(i:Int)-1)∧i≤k∧IsL u'∧u'.length=u.length∧IsL out∧out.length=k∧(∀t,t<i→out.getD t 0=0)∧nv u=nv u'+nv out*nv v∧nv u'<nv v*4294967296^i) k ?_ ?_ ?_
 ·exact⟨u,_,rfl,Nat.le_refl _,hu,rfl,IsL.zeros _,by simp,fun t _=>zoj _ t,by rw[zdr];omega,hlt⟩
 ·rintro i st hi ⟨u',out,rfl,hik,hu',hlu,hL,hlo,hz,hv1,hv2⟩
  obtain⟨X,hX⟩:∃X,4294967296^i=X:=⟨_,rfl⟩
  have hX0:0<X:=by rw[←hX];exact zoy i
  rw[xbj,hX]at hv2
  have hB3:nv u'<4294967296^(i+m+3):=by
   refine xao hv2 ?_
   rw[show i+m+3=(m+2)+(i+1) by omega,xdm,xbj _ i,hX,←hm]
   exact xam _ (xex hVB)
  have hUV:nv u'/4294967296^i<4294967296*nv v:=by
   rw[hX]
   refine xef ?_
   rw[←xbf,xbb]
   exact hv2
  obtain⟨q,hq0,hq1,hq2,hq3⟩:=d216_eq hu' hv (j:=i) hm (by omega) (by omega) hB3 hh hUV
  have j1:((i+1:Nat):Int)-1=(i:Int):=by omega
  have wi1:w ((i:Int)-1)=(i:Int)-1:=zbi (by omega) (by omega)
  rw[hX]at hq2 hq3
  simp only[j1,d0le,cond_true,hq0,Option.bind_some,i2]
  refine zbj (Q:=fun(r:Option (((List Int)×(List Int)×Int×(List Int)×Int)⊕((List Int)×(List Int))))=>∃a',r=some (.inl a')∧∃(u' out:List Int),a'=(u',v,(v.length:Int),out,(i:Int)-1)∧i≤k∧IsL u'∧u'.length=u.length∧IsL out∧out.length=k∧(∀t,t<i→out.getD t 0=0)∧nv u=nv u'+nv out*nv v∧nv u'<nv v*4294967296^i)
   (fun(d:Nat) (st:(List Int)×(List Int)×Int×(List Int)×Int×Int×Int×Int×Int×Int)=>∃(z:List Int) (bo ca:Nat),st=(z,v,(v.length:Int),out,(i:Int),(q:Int),(bo:Int),(ca:Int),((m+3:Nat):Int),(d:Int))∧IsL z∧z.length=u.length∧bo≤1∧ca<4294967296∧(d≤m+2∨ca=0)∧nv z+X*(q*nv (v.take d))=nv u'+X*4294967296^d*(bo+ca)∧nv z<4294967296^(i+m+3)) (m+3) ?_ ?_ ?_
  ·exact⟨u',0,0,rfl,hu',hlu,by omega,by omega,.inl (by omega),by simp[nv],hB3⟩
  ·rintro d st hd ⟨z,bo,ca,rfl,hzL,hzl,hbo,hca,hor,heq,hzb⟩
   obtain⟨y,hy1,hy2,hy3⟩:=zdk hv d
   have hx:=hzL.getD (d+i)
   obtain⟨x,hx1⟩:∃x:Nat,z.getD (d+i) 0=(x:Int):=⟨_,(xgy hx.1).symm⟩
   rw[hx1]at hx
   obtain⟨qy,hqy⟩:∃p,q*y=p:=⟨_,rfl⟩
   have hpl:qy≤4294967295*4294967295:=by rw[←hqy];exact Nat.mul_le_mul (by omega) (by omega)
   have hqi:(q:Int)*(y:Int)=(qy:Int):=by rw[←hqy];simp
   have s1:wu64 ((qy:Int)+(ca:Int))=((qy+ca:Nat):Int):=by rw[zbs (by omega) (by omega)];omega
   obtain⟨p,hp⟩:∃p,qy+ca=p:=⟨_,rfl⟩
   obtain⟨lo,hlo'⟩:∃lo,p%4294967296=lo:=⟨_,rfl⟩
   have s2:wu64 (4294967296+(x:Int))=4294967296+(x:Int):=zbs (by omega) (by omega)
   have s3:wu64 (4294967296+(x:Int)-(lo:Int))=4294967296+(x:Int)-lo:=zbs (by omega) (by omega)
   obtain⟨s,hs⟩:∃s,4294967296+x-lo-bo=s:=⟨_,rfl⟩
   have s4:wu64 (4294967296+(x:Int)-(lo:Int)-(bo:Int))=(s:Int):=by rw[zbs (by omega) (by omega)];omega
   have s5:wu64 (1-((s/4294967296:Nat):Int))=((1-s/4294967296:Nat):Int):=by rw[zbs (by omega) (by omega)];omega
   simp only[dlt hd,zgo hv,hy1,Option.bind_some,wadd (show d+i≤9223372036854775807 by omega),d0le,dlt (show d+i<z.length by omega),cond_true,xac,tn,hx1,hqi,zap (show qy<18446744073709551616 by omega),s1,hp,and_low (show p<18446744073709551616 by omega),hlo',zap (show x<18446744073709551616 by omega),s2,s3,s4,shr32,zap (show s/4294967296<18446744073709551616 by omega),s5,zap (show p/4294967296<18446744073709551616 by omega),zcj,zau (show d<9223372036854775807 by omega)]
   have e1:=zja z (d+i) (((s%4294967296:Nat):Int)) (by omega)
   rw[hx1,xak,xak,xgi d i,xdm,hX,xgi i d]at e1
   refine⟨_,rfl,_,_,_,rfl,hzL.set _ (by omega) (by omega),by simpa using hzl,by omega,by omega,?_,?_,ziz hzL (by omega) (by omega) (by omega) hzb⟩
   ·by_cases hdm:d+1≤m+2
    ·exact .inl hdm
    ·right
     have hy0:y=0:=by
      have:v.getD d 0=0:=by rw[xab,xcc (by omega)];rfl
      omega
     rw[hy0,xew]at hqy
     omega
   ·rw[hy3,xbj]
    exact sub_step heq e1 (by rw[hqy];exact hp) (show p=lo+4294967296*(p/4294967296) by omega) (s:=s) (by omega) (h:=s/4294967296) (by omega) (by omega)
  ·rintro st ⟨z,bo,ca,rfl,hzL,hzl,hbo,hca,hor,heq,hzb⟩
   have hca0:ca=0:=by omega
   subst hca0
   rw[xan (by omega),xco]at heq
   have hX3:X*4294967296^(m+3)=4294967296^(i+m+3):=by rw[←hX,←xdm];rfl
   rw[hX3]at heq
   refine⟨_,by simp only[nlt (Nat.le_refl (m+3)),cond_false];rfl,?_⟩
   obtain⟨TT,hTT⟩:∃TT,4294967296^(i+m+3)=TT:=⟨_,rfl⟩
   rw[hTT]at heq hzb hX3
   rcases xbk bo with hb0|hb0
   ·subst hb0
    simp only[show decide ((0:Int)<((0:Nat):Int))=false from rfl,cond_false,zae,d0le,dlt (show i<out.length by omega),xac,cond_true,tn,zcj,xcb hq1,wi1]
    have e1:=zja out i (q:Int) (by omega)
    rw[hz i (by omega),xak,hX]at e1
    have e2:nv (out.set i (q:Int))=nv out+X*q:=by simpa using e1
    refine⟨_,rfl,_,_,rfl,by omega,hzL,hzl,hL.set _ (by omega) (by omega),by simpa using hlo,fun t ht=>by rw[getD_set_ne _ _ (by omega)];exact hz t (by omega),?_,?_⟩
    ·rw[e2,hv1,xbl,xbf];omega
    ·have:=below_next hX0 rfl hq2
     rw[hX,xbb (nv v) X]
     omega
   ·have hb1:bo=1:=by omega
    subst hb1
    rw[xdj]at heq
    have hqV:nv u'<X*(q*nv v):=by omega
    have hq0':0<q:=by
     rcases xbk q with h0|h0
     ·subst h0;rw[xek,xew]at hqV;omega
     ·exact h0
    obtain⟨q',rfl⟩:∃q',q=q'+1:=⟨q-1,by omega⟩
    have hqm:wu64 (((q'+1:Nat):Int)-1)=(q':Int):=by rw[zbs (by omega) (by omega)];omega
    simp only[show decide ((0:Int)<((1:Nat):Int))=true from rfl,cond_true,hqm,i2]
    refine zbj (Q:=fun(r:Option (((List Int)×(List Int)×Int×(List Int)×Int)⊕((List Int)×(List Int))))=>∃a',r=some (.inl a')∧∃(u' out:List Int),a'=(u',v,(v.length:Int),out,(i:Int)-1)∧i≤k∧IsL u'∧u'.length=u.length∧IsL out∧out.length=k∧(∀t,t<i→out.getD t 0=0)∧nv u=nv u'+nv out*nv v∧nv u'<nv v*4294967296^i)
     (fun(d:Nat) (st:(List Int)×(List Int)×Int×(List Int)×Int×Int×Int×Int×Int)=>∃(z2:List Int) (c:Nat),st=(z2,v,(v.length:Int),out,(i:Int),(q':Int),(c:Int),((m+3:Nat):Int),(d:Int))∧IsL z2∧z2.length=u.length∧c≤1∧nv z2+X*4294967296^d*c=nv z+X*nv (v.take d)∧nv z2<4294967296^(i+m+3)) (m+3) ?_ ?_ ?_
    ·exact⟨z,0,rfl,hzL,hzl,by omega,by simp[nv],by rw[hTT];exact hzb⟩
    ·rintro d st hd ⟨z2,c,rfl,hzL2,hzl2,hc,heq2,hzb2⟩
     obtain⟨y,hy1,hy2,hy3⟩:=zdk hv d
     have hx:=hzL2.getD (d+i)
     obtain⟨x,hx1⟩:∃x:Nat,z2.getD (d+i) 0=(x:Int):=⟨_,(xgy hx.1).symm⟩
     rw[hx1]at hx
     have s1:wu64 ((x:Int)+(y:Int))=((x+y:Nat):Int):=by rw[zbs (by omega) (by omega)];omega
     have s2:wu64 (((x+y:Nat):Int)+(c:Int))=((x+y+c:Nat):Int):=by rw[zbs (by omega) (by omega)];omega
     obtain⟨s,hs⟩:∃s,x+y+c=s:=⟨_,rfl⟩
     simp only[dlt hd,zgo hv,hy1,Option.bind_some,wadd (show d+i≤9223372036854775807 by omega),d0le,dlt (show d+i<z2.length by omega),cond_true,xac,tn,hx1,zap (show x<18446744073709551616 by omega),s1,s2,hs,shr32,zap (show s/4294967296<18446744073709551616 by omega),zcj,zau (show d<9223372036854775807 by omega)]
     have e1:=zja z2 (d+i) (((s%4294967296:Nat):Int)) (by omega)
     rw[hx1,xak,xak,xgi d i,xdm,hX,xgi i d]at e1
     refine⟨_,rfl,_,_,rfl,hzL2.set _ (by omega) (by omega),by simpa using hzl2,by omega,?_,ziz hzL2 (by omega) (by omega) (by omega) hzb2⟩
     rw[hy3,xbj]
     exact add_step heq2 e1 hs (by omega)
    ·rintro st ⟨z2,c,rfl,hzL2,hzl2,hc,heq2,hzb2⟩
     rw[xan (by omega),hX3]at heq2
     rw[hTT]at hzb2
     refine⟨_,by simp only[nlt (Nat.le_refl (m+3)),cond_false];rfl,?_⟩
     simp only[zae,d0le,dlt (show i<out.length by omega),xac,cond_true,tn,zcj,xcb (show q'<4294967296 by omega),wi1]
     have e1:=zja out i (q':Int) (by omega)
     rw[hz i (by omega),xak,hX]at e1
     have e2:nv (out.set i (q':Int))=nv out+X*q':=by simpa using e1
     have hfl:X*(q'*nv v)≤nv u':=by
      refine floor_le rfl ?_
      rw[xfq]at hq3
      omega
     rw[xfq,xbq]at hqV heq
     have hc1:c=1:=by
      rcases xbk c with h0|h0
      ·subst h0;rw[xew]at heq2;omega
      ·omega
     subst hc1
     rw[xdj]at heq2
     refine⟨_,rfl,_,_,rfl,by omega,hzL2,hzl2,hL.set _ (by omega) (by omega),by simpa using hlo,fun t ht=>by rw[getD_set_ne _ _ (by omega)];exact hz t (by omega),?_,?_⟩
     ·rw[e2,hv1,xbl,xbf];omega
     ·rw[hX,xbb (nv v) X]
      omega
 ·rintro st ⟨u',out,rfl,hik,hu',hlu,hL,hlo,hz,hv1,hv2⟩
  rw[xgg,xdj]at hv2
  refine⟨(u',out),rfl,out,u',rfl,hL,hu',hlo,hlu,?_,?_⟩
  ·rw[hv1,xbb,xhy _ _ hV0,xec hv2,Nat.zero_add]
  ·rw[hv1,xbb,Nat.add_mul_mod_self_left,xcb hv2]
end Go.Proofs.YtmipjomnjkmdbaaGreat
namespace Go.Proofs.YtmipjomnjkmdbaaGreat
open Go Go.X
theorem bl_zero(f:Nat):Lib.bitLenAux f 0=0:=by cases f<;>simp[Lib.bitLenAux]
theorem bl_bounds:∀(f x:Nat),x<2^f→x≠0→1≤Lib.bitLenAux f x∧Lib.bitLenAux f x≤f∧x<2^Lib.bitLenAux f x
 | 0,x,h,h0=>by rw[xgg]at h;omega
 |f+1,x,h,h0=>by
  have e:Lib.bitLenAux (f+1) x=1+Lib.bitLenAux f (x/2):=by simp[Lib.bitLenAux,h0]
  rw[e]
  by_cases h2:x/2=0
  ·rw[h2,bl_zero]
   exact⟨by omega,by omega,by rw[xco,Nat.pow_one];omega⟩
  ·obtain⟨q1,q2,q3⟩:=bl_bounds f (x/2) (by rw[xbj]at h;omega) h2
   refine⟨by omega,by omega,?_⟩
   rw[xgi,xbj];omega
theorem bl_more:∀(f x:Nat),x<2^f→∀g,f≤g→Lib.bitLenAux g x=Lib.bitLenAux f x
 | 0,x,h,g,_=>by
  rw[xgg]at h
  obtain rfl:x=0:=by omega
  rw[bl_zero,bl_zero]
 |f+1,x,h,g,hg=>by
  obtain⟨g',rfl⟩:∃g',g=g'+1:=⟨g-1,by omega⟩
  simp only[Lib.bitLenAux]
  by_cases h0:x=0
  ·rw[if_pos h0,if_pos h0]
  ·rw[if_neg h0,if_neg h0,bl_more f (x/2) (by rw[xbj]at h;omega) g' (by omega)]
theorem d200_eq{x:Nat}(h0:0<x)(h1:x<4294967296):∃L:Nat,d200 (x:Int)=some (L:Int)∧1≤L∧L≤32∧x<2^L:=by
 have hx:x<2^32:=h1
 have e:Lib.bitLen x=Lib.bitLenAux 32 x:=bl_more 32 x hx 64 (by decide)
 refine⟨Lib.bitLen x,rfl,?_⟩
 rw[e]
 exact bl_bounds 32 x hx (by omega)
theorem zpb{v:List Int}(hv:NF v){m:Nat}(hm:v.length=m+1):∃h:Nat,v.getD m 0=(h:Int)∧0<h∧h<4294967296:=by
 have g:=hv.1.getD m
 refine⟨(v.getD m 0).toNat,by omega,?_,by omega⟩
 have:v.getD m 0≠0:=by
  intro e
  refine hv.2 ?_
  rw[List.getLast?_eq_getElem?,hm,Nat.add_sub_cancel,xad (by omega)]
  rw[xab,xad (by omega)]at e
  simpa using e
 omega
set_option maxHeartbeats 1000000 in
theorem d170_eq{a b:List Int}(ha:IsL a)(hb:IsL b)(la:a.length≤1073741823)(lb:b.length≤1073741823)(h0:nv b≠0):d170 a b=some (zan (nv a/nv b),zan (nv a%nv b),true):=by
 unfold d170
 rw[zbo (by omega),zbo (by omega)]
 simp only[cond_true,Option.bind_some,zcc ha,zcc hb]
 have hla:=zbn ha
 have hlb:=zbn hb
 have hNA:=zjs (nv a)
 have hNB:=zjs (nv b)
 have hA:=zas (nv a)
 have hB:=zas (nv b)
 have eA:=zav (nv a)
 have eB:=zav (nv b)
 have hm:=@zdq (nv b) (nv a)
 have hBl:=zat (nv b)
 have hAl:=zat (nv a)
 have hBp:=@zeg (nv b)
 have hxA:zan (nv a)=zan (nv a):=rfl
 have hxB:zan (nv b)=zan (nv b):=rfl
 generalize hyA:zan (nv a)=A at *
 generalize hyB:zan (nv b)=B at *
 have hB0:0<B.length:=hBp.2 (xda h0)
 rw[show decide ((B.length:Int)=0)=false from decide_eq_false (by omega),d201_eq hA hB (by omega) (by omega),eA,eB]
 simp only[cond_false,Option.bind_some,cmpN_lt]
 by_cases hlt:nv a<nv b
 ·rw[decide_eq_true hlt,cond_true,d173_eq (by omega),xec hlt,xcb hlt,zcf,hyA]
  rfl
 rw[decide_eq_false hlt,cond_false]
 have hBA:=hm (by omega)
 by_cases h1:B.length=1
 ·have q1:decide ((B.length:Int)=1)=true:=decide_eq_true (by omega)
  have q2:decide ((0:Int)<(B.length:Int))=true:=decide_eq_true (by omega)
  obtain⟨h,hh1,hh2,hh3⟩:=zpb hNB (m:=0) h1
  have hbv:nv b=h:=by
   rw[←eB]
   obtain⟨y,rfl⟩:=xep.1 h1
   simp only[xel]at hh1
   simp only[nv,hh1];omega
  obtain⟨q,r1,r2,r3,r4⟩:=d202_eq hA (by omega) hh2 hh3
  have hml:nv A%h<h:=xdk _ hh2
  rw[eA]at r1 r4 hml
  have q3:d129 ((nv a%h:Nat):Int)=some (zan (nv a%h)):=by rw[zqo (by omega) (by omega)];rfl
  simp only[q1,q2,q3,xaz,Int.le_refl,xac,cond_true,hh1,zap (show h<18446744073709551616 by omega),r1,Option.bind_some,zgp r2 (show q.length≤4294967296 by omega),r4,hbv]
  rfl
 ·obtain⟨m,hmB⟩:∃m,B.length=m+2:=⟨B.length-2,by omega⟩
  have q1:decide (((m+2:Nat):Int)=1)=false:=decide_eq_false (by omega)
  have i1:w (((m+2:Nat):Int)-1)=((m+1:Nat):Int):=by rw[zbi (by omega) (by omega)];omega
  obtain⟨h,hh1,hh2,hh3⟩:=zpb hNB (m:=m+1) hmB
  obtain⟨L,hL0,hL1,hL2,hL3⟩:=d200_eq hh2 hh3
  have e203:d203 (h:Int)=some ((32-L:Nat):Int):=by
   unfold d203
   rw[hL0]
   simp only[Option.bind_some]
   rw[zbi (by omega) (by omega)]
   congr 1;omega
  have hn:32-L≤31:=by omega
  have hpow:2^L*2^(32-L)=4294967296:=by rw[←xdm,show L+(32-L)=32 by omega]
  obtain⟨n,hnn⟩:∃n,32-L=n:=⟨_,rfl⟩
  rw[hnn]at e203 hn hpow
  have hT0:0<2^n:=xev (by decide)
  obtain⟨u,u1,u2,u3,u4⟩:=d204_eq hA (by omega) hn
  obtain⟨v0,v1,v2,v3,v4⟩:=d204_eq hB (by omega) hn
  rw[eA]at u4
  rw[eB]at v4
  simp only[hmB,q1,cond_false,i1,d0le,dlt (show m+1<m+2 by omega),xac,cond_true,tn,hh1,e203,Option.bind_some,u1,v1,zbo (n:=v0.length) (by omega),zcc v2]
  have hbl:4294967296^(m+1)≤nv b:=by
   refine Nat.not_lt.1 fun hc=>?_
   have:=(hBl (m+1)).2 hc
   omega
  have hbu:nv b<2^L*4294967296^(m+1):=by
   have g:=zfi hB (m+1)
   rw[hh1,eB]at g
   have hlt2:=(hBl (m+2)).1 (by omega)
   have hd:nv b/4294967296^(m+1)<4294967296:=xef (by rw[←xbj];exact hlt2)
   rw[xcb hd]at g
   have:nv b/4294967296^(m+1)<2^L:=by omega
   exact(xdl (zoy _)).1 this
  have hvu:nv v0<4294967296^(m+2):=by
   have e:4294967296^(m+2)=2^L*4294967296^(m+1)*2^n:=by
    rw[show m+2=(m+1)+1 by omega,xbj,Nat.mul_right_comm,hpow,xbb]
   rw[v4,e]
   exact xgu hbu hT0
  have hvl:4294967296^(m+1)≤nv v0:=by
   rw[v4]
   exact Nat.le_trans hbl (Nat.le_mul_of_pos_right _ hT0)
  have hV:=zas (nv v0)
  have eV:=zav (nv v0)
  have hVlen:(zan (nv v0)).length=m+2:=by
   have r1:=(zat (nv v0) (m+2)).2 hvu
   have r2:¬(zan (nv v0)).length≤m+1:=fun hc=>by
    have:=(zat (nv v0) (m+1)).1 hc
    omega
   omega
  obtain⟨hv,w1,w2,_⟩:=zpb (zjs (nv v0)) (m:=m+1) hVlen
  obtain⟨k,hk⟩:∃k,A.length=k+(m+1):=⟨A.length-(m+1),by omega⟩
  have hal:nv a<4294967296^(k+(m+1)):=(hAl _).1 (by omega)
  have hkey:nv u<nv (zan (nv v0))*4294967296^k:=by
   rw[eV,u4,v4,Nat.mul_right_comm]
   refine xgu ?_ hT0
   rw[xdm,xbb]at hal
   exact xao hal (xam _ hbl)
  obtain⟨q,r,z1,z2,z3,z4,z5,z6,z7⟩:=d205_eq u2 hV hVlen (k:=k) (by omega) (by omega) (by omega) hkey
  rw[eV,u4,v4,Nat.mul_div_mul_right _ _ hT0]at z6
  rw[eV,u4,v4,Nat.mul_mod_mul_right]at z7
  obtain⟨o,o1,o2,o3,o4⟩:=d206_eq z3 (by omega) hn
  rw[z7,Nat.mul_div_cancel _ hT0]at o4
  simp only[z1,Option.bind_some,zgp z2 (show q.length≤4294967296 by omega),z6,o1,zgp o2 (show o.length≤4294967296 by omega),o4]
theorem d169_eq{a b:List Int}(ha:IsL a)(hb:IsL b)(la:a.length≤1073741823)(lb:b.length≤1073741823):d169 a b=some (zan (Nat.gcd (nv a) (nv b))):=by
 unfold d169
 rw[zgp ha (by omega),zgp hb (by omega)]
 simp only[Option.bind_some]
 have hla:=zbn ha
 have hlb:=zbn hb
 refine zco (Q:=fun r=>r=some (zan (Nat.gcd (nv a) (nv b)))) (fun(M:Nat) (st:(List Int)×(List Int))=>∃x:Nat,st=(zan x,zan M)∧(zan x).length≤1073741823∧(zan M).length≤1073741823∧Nat.gcd x M=Nat.gcd (nv a) (nv b)) (nv b) ⟨nv a,rfl,by omega,by omega,rfl⟩ ?_
 rintro M st ⟨x,rfl,h1,h2,h3⟩
 rcases xbk M with h0|h0
 ·subst h0
  refine .inr ⟨zan x,by simp[zcf],?_⟩
  rw[xik]at h3
  rw[h3]
 ·have hp:=zeg.2 h0
  have hd:=d170_eq (zas x) (zas M) h1 h2 (by rw[zav];omega)
  rw[zav,zav]at hd
  refine .inl ⟨(zan M,zan (x%M)),x%M,?_,xdk _ h0,M,rfl,h2,?_,?_⟩
  ·rw[show decide ((0:Int)<((zan M).length:Int))=true from decide_eq_true (by omega),cond_true,hd];rfl
  ·have:=zdq (xex (xdk x h0));omega
  ·rw[←h3,xgh x M,Nat.gcd_rec M x,xgh]
theorem d167_eq{a:List Int}(ha:IsL a)(la:a.length≤1073741824):∃k:Int,d167 a=some k∧decide (k=0)=decide (nv a=0):=by
 unfold d167
 rw[zbo (by omega)]
 simp only[cond_true,Option.bind_some,zcc ha]
 have hla:=zbn ha
 have hNA:=zjs (nv a)
 have hp:=@zeg (nv a)
 generalize hyA:zan (nv a)=A at *
 rcases xbk A.length with h0|h0
 ·refine⟨0,by rw[decide_eq_true (show(A.length:Int)=0 by omega)];rfl,?_⟩
  rw[decide_eq_true rfl,decide_eq_true (show nv a=0 by omega)]
 ·obtain⟨m,hm⟩:∃m,A.length=m+1:=⟨A.length-1,by omega⟩
  obtain⟨h,hh1,hh2,hh3⟩:=zpb hNA hm
  obtain⟨L,hL0,hL1,hL2,hL3⟩:=d200_eq hh2 hh3
  have i1:w (((m+1:Nat):Int)-1)=(m:Int):=zoz (by omega)
  have i2:w (32*(m:Int))=32*(m:Int):=zbi (by omega) (by omega)
  have i3:w (32*(m:Int)+(L:Int))=32*(m:Int)+L:=zbi (by omega) (by omega)
  refine⟨32*(m:Int)+L,?_,?_⟩
  ·rw[hm,decide_eq_false (show ¬(((m+1:Nat):Int)=0) by omega)]
   simp only[cond_false,i1,d0le,dlt (show m<m+1 by omega),xac,cond_true,tn,hh1,hL0,Option.bind_some,i2,i3]
  ·rw[decide_eq_false (by omega),decide_eq_false (by omega)]
end Go.Proofs.YtmipjomnjkmdbaaGreat
namespace Go.Proofs.YtmipjomnjkmdbaaGreat
open Go Go.X
abbrev Rt:=Bool×(List Int×List Int)
def sgnN(neg:Bool)(n:Nat):Int:=if neg then -(n:Int)else n
theorem sgnN_abs(neg:Bool)(n:Nat):(sgnN neg n).natAbs=n:=by unfold sgnN;split<;>simp
theorem zme(neg:Bool):sgnN neg 0=0:=by cases neg<;>rfl
theorem sgnN_not(neg:Bool)(n:Nat):sgnN (!neg) n=- sgnN neg n:=by cases neg<;>simp[sgnN]
def rv(r:Rt):Rat:=mkRat (sgnN r.1 (nv r.2.1)) (nv r.2.2)
def rr(q:Rat):Rt:=(decide (q.num<0),zan q.num.natAbs,zan q.den)
def RtOK(r:Rt):Prop:=IsL r.2.1∧IsL r.2.2
theorem rr_ok(q:Rat):RtOK (rr q):=⟨zas _,zas _⟩
theorem zpj(q:Rat):sgnN (decide (q.num<0)) q.num.natAbs=q.num:=by
 unfold sgnN
 by_cases h:q.num<0
 ·simp only[h,xaz,if_true];omega
 ·simp only[h,xci];simp;omega
theorem rv_rr(q:Rat):rv (rr q)=q:=by
 unfold rv rr
 simp only[zav,zpj,xhc]
theorem rr_inj{p q:Rat}(h:rr p=rr q):p=q:=by rw[←rv_rr p,h,rv_rr]
theorem zpm:rr 0=(false,[],[1]):=by
 unfold rr
 simp only[Rat.zero_num,Rat.zero_den]
 rw[zev (n:=1) (by omega)]
 simp[zcf]
theorem zpn(neg:Bool){a b:Nat}(ha:a≠0)(hb:b≠0):rr (mkRat (sgnN neg a) b)=(neg,zan (a/Nat.gcd a b),zan (b/Nat.gcd a b)):=by
 unfold rr
 rw[Rat.num_mkRat,Rat.den_mkRat,if_neg hb,if_neg hb,sgnN_abs,xgh b a]
 obtain⟨g,hg⟩:∃g,Nat.gcd a b=g:=⟨_,rfl⟩
 have hd:g∣a:=by rw[←hg];exact Nat.gcd_dvd_left a b
 have hgp:0<g:=by rw[←hg];exact Nat.gcd_pos_of_pos_left b (xda ha)
 rw[hg]
 obtain⟨c,rfl⟩:=hd
 have hc:0<c:=xda fun e=>ha (by rw[e,xew])
 rw[Nat.mul_div_cancel_left c hgp]
 have h1:sgnN neg (g*c)/(g:Int)=sgnN neg c:=by
  unfold sgnN
  cases neg
  ·simp only[xbg,xcm,xgz]
   exact Int.mul_ediv_cancel_left _ (by omega)
  ·simp only[if_true,xgz]
   rw[←Int.mul_neg]
   exact Int.mul_ediv_cancel_left _ (by omega)
 rw[h1,sgnN_abs]
 have h2:decide (sgnN neg c<0)=neg:=by
  unfold sgnN
  cases neg
  ·simp
  ·simp;omega
 rw[h2]
theorem zoc(q:Rat):(rr q).2.1=[]↔q=0:=by
 unfold rr
 rw[zmu,Int.natAbs_eq_zero,Rat.num_eq_zero]
theorem rr_neg(q:Rat):(rr q).1=decide (q<0):=by
 unfold rr
 have:q.num<0↔q<0:=by
  have h:=Rat.num_nonneg (q:=q)
  rw[←Rat.not_le,←h];omega
 simp only[this]
def Sz(k:Nat)(r:Rt):Prop:=r.2.1.length≤k∧r.2.2.length≤k
theorem d168_eq:d168=some (rr 0):=by
 unfold d168
 rw[zqo (by omega) (by omega),zpm,show(1:Int).toNat=1 from rfl,zev (n:=1) (by omega)]
 simp[zcf]
theorem d127_eq(neg:Bool){a b:List Int}(ha:IsL a)(hb:IsL b)(la:a.length≤1073741823)(lb:b.length≤1073741823):d127 neg a b=some (rr (mkRat (sgnN neg (nv a)) (nv b))):=by
 unfold d127
 obtain⟨k,k1,k2⟩:=d167_eq ha (by omega)
 obtain⟨l,l1,l2⟩:=d167_eq hb (by omega)
 rw[zae,k1,l1]
 simp only[Option.bind_some,k2,l2]
 by_cases ha0:nv a=0
 ·rw[ha0,decide_eq_true rfl]
  simp only[xaj,cond_false,cond_true,d168_eq,zme,Rat.zero_mkRat,Option.bind_some]
 ·rw[decide_eq_false ha0]
  by_cases hb0:nv b=0
  ·rw[hb0,decide_eq_true rfl,xib]
   simp only[xae,cond_true,d168_eq,Option.bind_some]
  ·rw[decide_eq_false hb0,zpn neg ha0 hb0]
   have hg:Nat.gcd (nv a) (nv b)≠0:=fun e=>ha0 (Nat.eq_zero_of_gcd_eq_zero_left e)
   have hgl:(zan (Nat.gcd (nv a) (nv b))).length≤1073741823:=by
    have:=zdq (Nat.le_of_dvd (xda ha0) (Nat.gcd_dvd_left (nv a) (nv b)))
    have:=zbn ha
    omega
   have e1:=d170_eq ha (zas (Nat.gcd (nv a) (nv b))) la hgl (by rw[zav];exact hg)
   have e2:=d170_eq hb (zas (Nat.gcd (nv a) (nv b))) lb hgl (by rw[zav];exact hg)
   rw[zav]at e1 e2
   simp only[xae,cond_true,cond_false,d169_eq ha hb la lb,e1,e2,Option.bind_some]
theorem rr_len(neg:Bool)(a b:Nat):(rr (mkRat (sgnN neg a) b)).2.1.length≤(zan a).length∧(rr (mkRat (sgnN neg a) b)).2.2.length≤max 1 (zan b).length:=by
 by_cases ha:a=0
 ·subst ha
  rw[zme,Rat.zero_mkRat,zpm]
  exact⟨xbt _,xgv _ _⟩
 ·by_cases hb:b=0
  ·subst hb
   rw[xib,zpm]
   exact⟨xbt _,xgv _ _⟩
  ·rw[zpn neg ha hb]
   exact⟨zdq (xcv _ _),Nat.le_trans (zdq (xcv _ _)) (xhk _ _)⟩
theorem rr_sz{r:Rt}(h:RtOK r){k:Nat}(hk:Sz k r)(h1:1≤k):Sz k (rr (rv r)):=by
 obtain⟨q1,q2⟩:=rr_len r.1 (nv r.2.1) (nv r.2.2)
 have:=zbn h.1
 have:=zbn h.2
 have:=hk.1
 have:=hk.2
 exact⟨by show(rr (mkRat _ _)).2.1.length≤_;omega,by show(rr (mkRat _ _)).2.2.length≤_;omega⟩
theorem zkm{r:Rt}(h:RtOK r)(hk:Sz 1073741823 r):d175 r=some (rr (rv r)):=by
 unfold d175
 rw[d127_eq r.1 h.1 h.2 hk.1 hk.2];rfl
theorem zgj(a b:Nat):(zan (a*b)).length≤(zan a).length+(zan b).length:=by
 rw[zat,xdm]
 exact xgm ((zat a _).1 (Nat.le_refl _)) ((zat b _).1 (Nat.le_refl _))
theorem zpy(a b:Nat):(zan (a+b)).length≤max (zan a).length (zan b).length+1:=by
 rw[zat,xbj]
 have h1:=(zat a (max (zan a).length (zan b).length)).1 (xgv _ _)
 have h2:=(zat b (max (zan a).length (zan b).length)).1 (xhk _ _)
 omega
theorem sum_eq(s t:Bool){a b:Nat}(la:(zan a).length≤1073741823)(lb:(zan b).length≤1073741823):∃(u:Bool) (c:Nat),d176 s (zan a) t (zan b)=some (u,zan c)∧sgnN u c=sgnN s a+sgnN t b∧c≤a+b:=by
 unfold d176
 have hA:=zas a
 have hB:=zas b
 by_cases h:s=t
 ·subst h
  rw[d209_eq hA hB (by omega) (by omega),zav,zav]
  refine⟨s,a+b,by simp,?_,Nat.le_refl _⟩
  unfold sgnN;split<;>omega
 ·rw[xif.2 h,d210_eq hA hB (by omega) (by omega),d210_eq hB hA (by omega) (by omega),zav,zav]
  simp only[cond_false,Option.bind_some]
  by_cases hlt:a<b
  ·rw[if_pos hlt,if_neg (by omega)]
   refine⟨t,b-a,rfl,?_,by omega⟩
   unfold sgnN
   cases s<;>cases t<;>simp at h⊢ <;>omega
  ·rw[if_neg hlt]
   refine⟨s,a-b,rfl,?_,by omega⟩
   unfold sgnN
   cases s<;>cases t<;>simp at h⊢ <;>omega
theorem add_mk{x y:Rat}:mkRat (x.num*y.den+y.num*x.den) (x.den*y.den)=x+y:=by
 have:=Rat.mkRat_add_mkRat x.num y.num x.den_nz y.den_nz
 rw[xhc,xhc]at this
 exact this.symm
theorem ziu(x:Rat)(d:Nat):sgnN (decide (x.num<0)) (x.num.natAbs*d)=x.num*d:=by
 have h:=zpj x
 unfold sgnN at h ⊢
 split
 ·rename_i h1
  rw[if_pos h1]at h
  rw[←h]
  simp[Int.neg_mul]
 ·rename_i h1
  rw[if_neg h1]at h
  rw[←h]
  simp
theorem d138_rr{x y:Rat}(hx:Sz 268435456 (rr x))(hy:Sz 268435456 (rr y)):d138 (rr x) (rr y)=some (rr (x+y)):=by
 unfold d138
 rw[zkm (rr_ok x) ⟨by have:=hx.1;omega,by have:=hx.2;omega⟩,zkm (rr_ok y) ⟨by have:=hy.1;omega,by have:=hy.2;omega⟩,rv_rr,rv_rr]
 simp only[Option.bind_some]
 obtain⟨a1,a2⟩:=hx
 obtain⟨b1,b2⟩:=hy
 simp only[rr]at a1 a2 b1 b2 ⊢
 rw[d177_eq (zas _) (zas _) (by omega) (by omega),d177_eq (zas _) (zas _) (by omega) (by omega),d177_eq (zas _) (zas _) (by omega) (by omega)]
 simp only[Option.bind_some,zav]
 have m1:=zgj x.num.natAbs y.den
 have m2:=zgj y.num.natAbs x.den
 have m3:=zgj x.den y.den
 obtain⟨u,c,e1,e2,e3⟩:=sum_eq (decide (x.num<0)) (decide (y.num<0)) (a:=x.num.natAbs*y.den) (b:=y.num.natAbs*x.den) (by omega) (by omega)
 have m4:=zpy (x.num.natAbs*y.den) (y.num.natAbs*x.den)
 have m5:=zdq e3
 rw[e1]
 simp only[Option.bind_some]
 rw[d127_eq u (zas c) (zas _) (by omega) (by omega),zav,zav,e2,ziu,ziu,add_mk]
 rfl
theorem rv_not(r:Rt):rv (!r.1,r.2)=- rv r:=by
 unfold rv
 rw[sgnN_not,Rat.neg_mkRat]
theorem d138_gen{a b:Rt}(ha:RtOK a)(hb:RtOK b)(ka:Sz 268435456 a)(kb:Sz 268435456 b):d138 a b=some (rr (rv a+rv b)):=by
 have ha':=rr_sz ha ka (by omega)
 have hb':=rr_sz hb kb (by omega)
 rw[←d138_rr ha' hb']
 unfold d138
 rw[zkm ha ⟨by have:=ka.1;omega,by have:=ka.2;omega⟩,zkm hb ⟨by have:=kb.1;omega,by have:=kb.2;omega⟩,zkm (rr_ok _) ⟨by have:=ha'.1;omega,by have:=ha'.2;omega⟩,zkm (rr_ok _) ⟨by have:=hb'.1;omega,by have:=hb'.2;omega⟩,rv_rr,rv_rr]
theorem d132_rr{x y:Rat}(hx:Sz 268435456 (rr x))(hy:Sz 268435456 (rr y)):d132 (rr x) (rr y)=some (rr (x-y)):=by
 unfold d132
 rw[d138_gen (rr_ok x) (b:=(!(rr y).1,(rr y).2)) (rr_ok y) hx hy,rv_not,rv_rr,rv_rr,Rat.sub_eq_add_neg]
 rfl
def cmpQ(x y:Rat):Int:=if x<y then -1 else if x=y then 0 else 1
theorem zfb{x y:Rat}:x-y=0↔x=y:=by
 constructor
 ·intro h;grind
 ·intro h;grind
theorem zga{x y:Rat}:x-y<0↔x<y:=by
 constructor
 ·intro h;grind
 ·intro h;grind
theorem d137_rr{x y:Rat}(hx:Sz 268435456 (rr x))(hy:Sz 268435456 (rr y)):d137 (rr x) (rr y)=some (cmpQ x y):=by
 unfold d137
 rw[d132_rr hx hy]
 simp only[Option.bind_some]
 rw[rr_neg]
 unfold cmpQ
 by_cases h:x<y
 ·rw[decide_eq_true (zga.2 h),if_pos h];rfl
 ·rw[decide_eq_false (fun hc=>h (zga.1 hc)),if_neg h]
  by_cases h2:x=y
  ·rw[if_pos h2,(zoc (x-y)).2 (zfb.2 h2)];rfl
  ·have:(rr (x-y)).2.1≠ []:=fun hc=>h2 (zfb.1 ((zoc _).1 hc))
   have:=xcg.2 this
   rw[if_neg h2,decide_eq_false (by omega)];rfl
theorem d128_eq{n:Int}(h0:-9223372036854775807≤n)(h1:n≤9223372036854775807):d128 n=some (zan n.natAbs):=by
 unfold d128
 by_cases h:n<0
 ·have e:wu64 (0-wu64 n)=-n:=by
   rw[wu64_mod,wu64_mod];omega
  rw[decide_eq_true h,cond_true,e,zqo (by omega) (by omega),show(-n).toNat=n.natAbs by omega];rfl
 ·rw[decide_eq_false h,cond_false,zbs (by omega) (by omega),zqo (by omega) (by omega),show n.toNat=n.natAbs by omega];rfl
theorem zij{n:Nat}(h:n<18446744073709551616):(zan n).length≤2:=(zat n 2).2 h
end Go.Proofs.YtmipjomnjkmdbaaGreat
namespace Go.Proofs.YtmipjomnjkmdbaaGreat
open Go Go.X
def bv:List Bool→Nat
 | []=>0
 |x::l=>x.toNat+2*bv l
def binl(n:Nat):List Bool:=if h:n=0 then []else decide (n%2=1)::binl (n/2)
 termination_by n
 decreasing_by exact xfu (xda h) (by omega)
theorem binl_zero:binl 0=[]:=by rw[binl];simp
theorem zib{n:Nat}(h:n≠0):binl n=decide (n%2=1)::binl (n/2):=by rw[binl];simp[h]
theorem toNat_dec(n:Nat):(decide (n%2=1)).toNat=n%2:=by
 by_cases h:n%2=1
 ·rw[decide_eq_true h,h];rfl
 ·rw[decide_eq_false h];show 0=_;omega
theorem dec_toNat(b:Bool)(k:Nat):decide ((b.toNat+2*k)%2=1)=b:=by cases b<;>simp[Bool.toNat]<;>omega
theorem zbt(n:Nat):bv (binl n)=n:=by
 induction n using Nat.strongRecOn with
 |_ n ih=>
  by_cases h:n=0
  ·subst h;rw[binl_zero];rfl
  ·rw[zib h]
   simp only[bv,ih (n/2) (xfu (by omega) (by omega)),toNat_dec]
   omega
def BN(l:List Bool):Prop:=l.getLast?≠some false
theorem BN.tail{x:Bool}{l:List Bool}(h:BN (x::l)):BN l:=fun he=>h (by
 cases l with
 |nil=>simp at he
 |cons y l=>rw[xhj];exact he)
theorem BN.pos:∀{l:List Bool},BN l→l≠ []→0<bv l
 | [],_,h=>absurd rfl h
 | [x],h,_=>by
  have:x=true:=by cases x;exact absurd rfl h;rfl
  subst this;decide
 |x::y::l,h,_=>by
  have:=BN.pos h.tail (by simp)
  simp only[bv]at this ⊢;omega
theorem binl_bv:∀{l:List Bool},BN l→binl (bv l)=l
 | [],_=>binl_zero
 |x::l,h=>by
  have hp:=BN.pos h (by simp)
  rw[zib (by omega)]
  show decide ((x.toNat+2*bv l)%2=1)::binl ((x.toNat+2*bv l)/2)=x::l
  rw[dec_toNat,show(x.toNat+2*bv l)/2=bv l by cases x<;>simp[Bool.toNat]<;>omega,binl_bv h.tail]
theorem binl_nil{n:Nat}:binl n=[]↔n=0:=⟨fun h=>by rw[←zbt n,h];rfl,fun h=>by rw[h,binl_zero]⟩
theorem zhm{n:Nat}:0<(binl n).length↔0<n:=by
 rw[xcg,ne_eq,binl_nil];omega
theorem zbq(n:Nat):∀k:Nat,(binl n).length≤k↔n<2^k:=by
 induction n using Nat.strongRecOn with
 |_ n ih=>
  intro k
  by_cases h:n=0
  ·subst h;rw[binl_zero];simp;exact xev (by omega)
  ·rw[zib h,xbo]
   cases k with
   |zero=>simp;omega
   |succ k=>
    have:=ih (n/2) (xfu (by omega) (by omega)) k
    rw[Nat.succ_le_succ_iff,this,xbj]
    exact xdl (by omega)
theorem zhj:∀(a b:List Bool),bv (a++b)=bv a+2^a.length*bv b
 | [],b=>by simp[bv]
 |x::a,b=>by
  simp only[xbx,bv,zhj a b,xbo,xbj]
  generalize 2^a.length=P
  rw[xbq,xch,←xbf,xbb P 2]
theorem zqt:∀n:Nat,bv (List.replicate n false)=0
 | 0=>rfl
 |n+1=>by simp[List.replicate_succ,bv,zqt n]
theorem zqv:∀(l:List Bool),bv l<2^l.length
 | []=>by simp[bv]
 |x::l=>by
  have ih:=zqv l
  simp only[bv,xbo,xbj]
  have:x.toNat<2:=by cases x<;>decide
  omega
theorem P2_pos(i:Nat):0<2^i:=xev (by decide)
theorem bv_top(l:List Bool)(k:Nat):bv (l.take k)<2^k:=by
 have h1:=zqv (l.take k)
 exact xao h1 (xdd (by decide) (by rw[xaq];omega))
theorem zow(l:List Bool){n:Nat}(h:n<l.length):l.take (n+1)=l.take n++[l.getD n false]:=by
 rw[xeg,xab,xad h];rfl
theorem bgetD_out(l:List Bool){n:Nat}(h:l.length≤n):l.getD n false=false:=by
 rw[xab,xcc h];rfl
theorem zei(l:List Bool)(k:Nat):bv (l.take (k+1))=bv (l.take k)+2^k*(l.getD k false).toNat:=by
 by_cases h:k<l.length
 ·rw[zow l h,zhj,xaq,xdu (by omega)]
  simp[bv]
 ·rw[xan (by omega),xan (by omega),bgetD_out l (by omega)]
  simp
theorem zqu(l:List Bool)(i:Nat)(h:i≤l.length):bv l=bv (l.take i)+2^i*bv (l.drop i):=by
 have:=zhj (l.take i) (l.drop i)
 rw[xdc,xaq,xdu h]at this
 exact this
theorem binl_le(l:List Bool):(binl (bv l)).length≤l.length:=(zbq _ _).2 (zqv l)
theorem zhl{x y:Nat}(h:x≤y):(binl x).length≤(binl y).length:=by
 have h1:=(zbq y (binl y).length).1 (Nat.le_refl _)
 exact(zbq x _).2 (by omega)
theorem zns{a:Nat}(h:a<9223372036854775807):w ((a:Int)-1)=(a:Int)-1:=zbi (by omega) (by omega)
theorem zil{l:List Bool}(h:l.length≤4294967296):d142 l=some (binl (bv l)):=by
 unfold d142
 have h0:=zqv l
 refine zco (Q:=fun r=>r=some (binl (bv l))) (fun(M:Nat) (st:(List Bool)×Int)=>st=(l,(M:Int))∧M≤l.length∧bv (l.take M)=bv l) l.length ⟨rfl,Nat.le_refl _,by rw[xbd]⟩ ?_
 rintro M st ⟨rfl,hM,hv⟩
 have fin:∀(hbn:l.take M=binl (bv l)),(match((l,(M:Int)):(List Bool)×Int)with
  |(b_3,n_2)=>bif zck 0 n_2 b_3.length then
   bif (decide ((([]:List Bool).length:Int)+((List.drop 0 (List.take (Int.toNat n_2) b_3)).length:Int)≤LIM))then
    some (List.drop 0 (List.take (Int.toNat n_2) b_3))
   else none
  else none)=some (binl (bv l)):=by
  intro hbn
  have hc:zck 0 (M:Int) l.length=true:=by
   unfold zck
   simp only[xag,xaf]
   omega
  have hl:((l.take M).length)≤4294967296:=by rw[xaq];omega
  simp only[hc,cond_true,tn,xhe,xea]
  rw[show decide (((0:Nat):Int)+((List.take M l).length:Int)≤LIM)=true from by rw[show((0:Nat):Int)+((List.take M l).length:Int)=((List.take M l).length:Int) by omega];exact zbo hl,cond_true,hbn]
 cases M with
 |zero=>
  refine .inr ⟨(l,0),by simp only[zae,show decide ((0:Int)<((0:Nat):Int))=false from rfl,cond_false];rfl,fin ?_⟩
  rw[xct,←hv,xct];exact binl_zero.symm
 |succ m=>
  have d0:decide ((0:Int)<((m+1:Nat):Int))=true:=decide_eq_true (by omega)
  cases hb:l.getD m false with
  |false=>
   refine .inl ⟨(l,(m:Int)),m,?_,by omega,rfl,by omega,?_⟩
   ·simp only[zae,d0,cond_true,zoz (show m<9223372036854775807 by omega),d0le,dlt (show m<l.length by omega),xac,tn,hb,xae]
   ·rw[←hv,zei,hb];simp
  |true=>
   refine .inr ⟨(l,((m+1:Nat):Int)),?_,fin ?_⟩
   ·simp only[zae,d0,cond_true,zoz (show m<9223372036854775807 by omega),d0le,dlt (show m<l.length by omega),xac,tn,hb,xaj,cond_false]
   ·have hbn:BN (l.take (m+1)):=by
     rw[zow l (by omega),hb,BN,List.getLast?_append];simp
    rw[←hv,binl_bv hbn]
theorem d145_eq(b:List Bool)(i:Nat):d145 b (i:Int)=some (b.getD i false):=by
 unfold d145
 simp only[d0le,cond_true]
 by_cases h:i<b.length
 ·simp only[dlt h,cond_true,xac,tn]
 ·rw[nlt (by omega),cond_false,bgetD_out b (by omega)]
theorem d80_eq(a b:List Bool)(la:a.length≤4294967296)(lb:b.length≤4294967296):d80 a b=some (cmpN (bv a) (bv b)):=by
 unfold d80
 rw[lenmax]
 obtain⟨n,hn⟩:∃n,max a.length b.length=n:=⟨_,rfl⟩
 rw[hn,zns (by omega)]
 refine zco (Q:=fun r=>r=some (cmpN (bv a) (bv b))) (fun(M:Nat) (st:(List Bool)×(List Bool)×Int)=>st=(a,b,(M:Int)-1)∧M≤n∧cmpN (bv (a.take M)) (bv (b.take M))=cmpN (bv a) (bv b)) n ⟨rfl,Nat.le_refl _,by rw[xan (by omega),xan (by omega)]⟩ ?_
 rintro M st ⟨rfl,hM,hv⟩
 cases M with
 |zero=>
  refine .inr ⟨.inl (),rfl,?_⟩
  rw[←hv,xct,xct];rfl
 |succ m=>
  have e:((m+1:Nat):Int)-1=(m:Int):=by omega
  have t1:=zei a m
  have t2:=zei b m
  have l1:=bv_top a m
  have l2:=bv_top b m
  have hP:=P2_pos m
  simp only[e,d0le,cond_true,d145_eq,Option.bind_some]
  cases h1:a.getD m false<;>cases h2:b.getD m false<;>rw[h1]at t1<;>rw[h2]at t2<;>simp only[xhm,xga,xew,xdj,xco]at t1 t2
  ·refine .inl ⟨_,m,rfl,by omega,by rw[zns (by omega)],by omega,?_⟩
   rw[←hv,t1,t2]
  ·refine .inr ⟨.inr (-1),rfl,?_⟩
   rw[←hv,t1,t2];unfold cmpN;rw[if_pos (by omega)]
  ·refine .inr ⟨.inr 1,rfl,?_⟩
   rw[←hv,t1,t2];unfold cmpN;rw[if_neg (by omega),if_pos (by omega)]
  ·refine .inl ⟨_,m,rfl,by omega,by rw[zns (by omega)],by omega,?_⟩
   rw[←hv,t1,t2];unfold cmpN
   (repeat' split)<;>omega
theorem zqa{l:List Bool}{d:Bool}(h:l.length+1≤4294967296):decide ((l.length:Int)+(([d]:List Bool).length:Int)≤LIM)=true:=by
 have:(l.length:Int)+(([d]:List Bool).length:Int)=((l.length+1:Nat):Int):=by simp
 rw[this];exact zbo h
end Go.Proofs.YtmipjomnjkmdbaaGreat
namespace Go.Proofs.YtmipjomnjkmdbaaGreat
open Go Go.X
theorem add_bit(x y c:Bool):(!((!(x == y)) == c)).toNat+2*((x&&y)||(x&&c)||(y&&c)).toNat=x.toNat+y.toNat+c.toNat:=by cases x<;>cases y<;>cases c<;>rfl
theorem bit_step{P v d c' x y c a b:Nat}(h:d+2*c'=x+y+c)(e:v+P*c=a+b):v+P*d+P*2*c'=a+P*x+(b+P*y):=by
 have e2:=xbh (P * ·) h
 simp only[xbq,←xbf]at e2
 omega
theorem bv_snoc(l:List Bool)(d:Bool):bv (l++[d])=bv l+2^l.length*d.toNat:=by rw[zhj];simp[bv]
theorem lenmaxI(x y:Nat)(i:Int):decide (i≤(bif decide ((x:Int)<(y:Int))then(y:Int)else(x:Int)))=decide (i≤((max x y:Nat):Int)):=by rw[lenmax]
theorem d79_eq(a b:List Bool)(la:a.length≤2147483646)(lb:b.length≤2147483646):d79 a b=some (binl (bv a+bv b)):=by
 unfold d79
 obtain⟨n,hn⟩:∃n,max a.length b.length=n:=⟨_,rfl⟩
 refine zbj (Q:=fun r=>r=some (binl (bv a+bv b))) (fun(i:Nat) (st:(List Bool)×(List Bool)×(List Bool)×Bool×Int)=>∃(out:List Bool) (c:Bool),st=(a,b,out,c,(i:Int))∧out.length=i∧bv out+2^i*c.toNat=bv (a.take i)+bv (b.take i)) (n+1) ?_ ?_ ?_
 ·exact⟨[],false,rfl,rfl,by simp[bv]⟩
 ·rintro i st hi ⟨out,c,rfl,hlen,hv⟩
  have q:decide ((i:Int)≤(n:Int))=true:=decide_eq_true (by omega)
  have tA:=zei a i
  have tB:=zei b i
  simp only[lenmaxI,hn,q,cond_true,d145_eq,Option.bind_some,zae,zqa (show out.length+1≤4294967296 by omega),zau (show i<9223372036854775807 by omega)]
  generalize a.getD i false=x at *
  generalize b.getD i false=y at *
  refine⟨(a,b,out++[!((!(x == y)) == c)],((x&&y)||(x&&c)||(y&&c)),((i+1:Nat):Int)),?_,_,_,rfl,by simp[hlen],?_⟩
  ·cases x<;>cases y<;>cases c<;>rfl
  ·rw[bv_snoc,hlen,tA,tB,xbj]
   exact bit_step (add_bit x y c) hv
 ·rintro st ⟨out,c,rfl,hlen,hv⟩
  have q:decide (((n+1:Nat):Int)≤(n:Int))=false:=decide_eq_false (by omega)
  refine⟨out,by simp only[lenmaxI,hn,q,cond_false],?_⟩
  rw[xan (by omega),xan (by omega)]at hv
  have h1:bv a<2^n:=xao (zqv a) (xdd (by decide) (by omega))
  have h2:bv b<2^n:=xao (zqv b) (xdd (by decide) (by omega))
  rw[xbj]at hv
  have hc:c=false:=by
   cases c
   ·rfl
   ·simp only[xga]at hv;omega
  subst hc
  rw[xhm,xew,xco]at hv
  show(d142 out).bind _=_
  rw[zil (by omega),hv];rfl
theorem sub_bit(x y c:Bool):(!((!(x == y)) == c)).toNat+y.toNat+c.toNat=x.toNat+2*((!x&&y)||(!x&&c)||(y&&c)).toNat:=by cases x<;>cases y<;>cases c<;>rfl
theorem sbit_step{P v d c' x y c a b:Nat}(h:d+y+c=x+2*c')(e:v+b=a+P*c):v+P*d+(b+P*y)=a+P*x+P*2*c':=by
 have e2:=xbh (P * ·) h
 simp only[xbq,←xbf]at e2
 omega
theorem d82_eq(a b:List Bool)(la:a.length≤2147483646)(h:bv b≤bv a):d82 a b=some (binl (bv a-bv b)):=by
 unfold d82
 refine zbj (Q:=fun r=>r=some (binl (bv a-bv b))) (fun(i:Nat) (st:(List Bool)×(List Bool)×(List Bool)×Bool×Int)=>∃(out:List Bool) (c:Bool),st=(a,b,out,c,(i:Int))∧out.length=i∧bv out+bv (b.take i)=bv (a.take i)+2^i*c.toNat) a.length ?_ ?_ ?_
 ·exact⟨[],false,rfl,rfl,by simp[bv]⟩
 ·rintro i st hi ⟨out,c,rfl,hlen,hv⟩
  have tA:=zei a i
  have tB:=zei b i
  simp only[dlt hi,cond_true,d145_eq,Option.bind_some,zae,zqa (show out.length+1≤4294967296 by omega),zau (show i<9223372036854775807 by omega)]
  generalize a.getD i false=x at *
  generalize b.getD i false=y at *
  refine⟨(a,b,out++[!((!(x == y)) == c)],((!x&&y)||(!x&&c)||(y&&c)),((i+1:Nat):Int)),?_,_,_,rfl,by simp[hlen],?_⟩
  ·cases x<;>cases y<;>cases c<;>rfl
  ·rw[bv_snoc,hlen,tA,tB,xbj]
   exact sbit_step (sub_bit x y c) hv
 ·rintro st ⟨out,c,rfl,hlen,hv⟩
  refine⟨out,by simp only[nlt (Nat.le_refl a.length),cond_false],?_⟩
  have hb:bv (b.take a.length)=bv b:=by
   by_cases hl:b.length≤a.length
   ·rw[xan hl]
   ·have h1:=zqu b a.length (by omega)
    have h2:=zqv a
    rcases xbk (bv (b.drop a.length))with h3|h3
    ·rw[h3]at h1;omega
    ·have:=xby (2^a.length) h3
     rw[xdj]at this
     omega
  rw[hb,xan (Nat.le_refl _)]at hv
  have h1:=zqv out
  rw[hlen]at h1
  have hc:c=false:=by
   cases c
   ·rfl
   ·simp only[xga]at hv;omega
  subst hc
  rw[xhm,xew,xco]at hv
  show(d142 out).bind _=_
  rw[zil (by omega),show bv out=bv a-bv b by omega];rfl
theorem d141_eq(a:List Bool)(n:Nat)(h:n+a.length≤4294967296):d141 a (n:Int)=some (List.replicate n false++a):=by
 unfold d141
 simp only[xaz,d0le,zbo (n:=n) (by omega),xac,cond_true,tn,List.length_replicate]
 rw[show(n:Int)+(a.length:Int)=((n+a.length:Nat):Int) by omega,zbo h,cond_true]
theorem bv_shift(a:List Bool)(n:Nat):bv (List.replicate n false++a)=2^n*bv a:=by rw[zhj,zqt,List.length_replicate,Nat.zero_add]
theorem d77_eq(a b:List Bool)(la:a.length≤536870912)(lb:b.length≤536870912):d77 a b=some (binl (bv a*bv b)):=by
 unfold d77
 refine zbj (Q:=fun r=>r=some (binl (bv a*bv b))) (fun(i:Nat) (st:(List Bool)×(List Bool)×(List Bool)×Int)=>∃(s:List Bool),st=(a,b,s,(i:Int))∧s.length≤a.length+i∧bv s=bv a*bv (b.take i)) b.length ?_ ?_ ?_
 ·exact⟨[],rfl,by simp,by simp[bv]⟩
 ·rintro i st hi ⟨s,rfl,hlen,hv⟩
  have tB:=zei b i
  simp only[dlt hi,cond_true,d0le,xac,zae,tn]
  cases hb:b.getD i false with
  |false=>
   rw[hb]at tB
   refine⟨_,by rw[cond_false,zau (by omega)],s,rfl,by omega,?_⟩
   rw[hv,tB];simp
  |true=>
   rw[hb]at tB
   have hbound:bv s+2^i*bv a<2^(a.length+(i+1)):=by
    have e:bv s+2^i*bv a=bv a*bv (b.take (i+1)):=by
     rw[hv,tB,xga,xdj,xbq,xbb (2^i)]
    rw[e,xdm]
    exact xgm (zqv a) (bv_top b (i+1))
   rw[cond_true,d141_eq a i (by omega),Option.bind_some,d79_eq _ _ (by omega) (by simp;omega),Option.bind_some,bv_shift]
   refine⟨_,by rw[zau (by omega)],_,rfl,(zbq _ _).2 hbound,?_⟩
   rw[zbt,hv,tB,xga,xdj,xbq,xbb (2^i)]
 ·rintro st ⟨s,rfl,hlen,hv⟩
  refine⟨s,by simp only[nlt (Nat.le_refl b.length),cond_false],?_⟩
  rw[xan (Nat.le_refl _)]at hv
  show(d142 s).bind _=_
  rw[zil (by omega),hv];rfl
theorem bv_set(l:List Bool)(i:Nat)(h:i<l.length)(h0:l.getD i false=false):bv (l.set i true)=bv l+2^i:=by
 rw[zqu l i (by omega),zqu (l.set i true) i (by simp;omega),List.take_set_of_le (Nat.le_refl i)]
 have e1:l.drop i=false::l.drop (i+1):=by
  rw[xfm h]
  rw[xab,xad h]at h0
  rw[show l[i]=false from h0]
 have e2:(l.set i true).drop i=true::l.drop (i+1):=by
  rw[xfm (by simpa using h),xfb,xii (by omega)]
 rw[e1,e2]
 simp only[bv,xga,xhm,xbq]
 omega
theorem bgetD_set_ne(l:List Bool){i j:Nat}(x:Bool)(h:i≠j):(l.set i x).getD j false=l.getD j false:=by
 simp only[xab,xgo h]
theorem bgetD_zeros(n i:Nat):(List.replicate n false).getD i false=false:=by
 rw[xab,xfy]
 split<;>rfl
theorem div_step1{A T P Q R x y:Nat}(h:A=Q*y+P*2*R+(T+P*x))(hge:y≤x+2*R):A=(Q+P)*y+P*(x+2*R-y)+T:=by
 obtain⟨z,hz⟩:∃z,x+2*R=y+z:=⟨x+2*R-y,by omega⟩
 have e:=xbh (P * ·) hz
 simp only[xbq,←xbf]at e
 rw[hz,Nat.add_sub_cancel_left,xbl]
 omega
theorem div_step0{A T P Q R x y:Nat}(h:A=Q*y+P*2*R+(T+P*x)):A=Q*y+P*(x+2*R)+T:=by
 rw[xbq,←xbf]
 omega
theorem cmpN_ge(x y:Nat):decide (0≤cmpN x y)=decide (y≤x):=by
 unfold cmpN
 by_cases h:x<y
 ·rw[if_pos h,decide_eq_false (show ¬y≤x by omega)];rfl
 ·rw[if_neg h,decide_eq_true (show y≤x by omega)];split<;>rfl
theorem d153_eq(a b:List Bool)(la:a.length≤1073741824)(lb:b.length≤1073741824)(h0:bv b≠0):d153 a b=some (binl (bv a/bv b),binl (bv a%bv b)):=by
 unfold d153
 simp only[xaz,d0le,zbo (n:=a.length) (by omega),xac,cond_true,tn,zns (show a.length<9223372036854775807 by omega)]
 refine zjt (Q:=fun r=>r=some (binl (bv a/bv b),binl (bv a%bv b))) (fun(i:Nat) (st:(List Bool)×(List Bool)×(List Bool)×(List Bool)×Int)=>∃(q:List Bool) (R:Nat),st=(a,b,q,binl R,(i:Int)-1)∧i≤a.length∧q.length=a.length∧R<bv b∧(∀k,k<i→q.getD k false=false)∧bv a=bv q*bv b+2^i*R+bv (a.take i)) a.length ?_ ?_ ?_
 ·exact⟨_,0,by rw[binl_zero],Nat.le_refl _,by simp,xda h0,fun k _=>bgetD_zeros _ k,by simp[zqt]⟩
 ·rintro i st hi ⟨q,R,rfl,hia,hlen,hR,hz,hv⟩
  have j1:((i+1:Nat):Int)-1=(i:Int):=by omega
  have hRl:(binl R).length≤1073741824:=Nat.le_trans (zhl (xex hR)) (Nat.le_trans (binl_le b) lb)
  have hlim:decide ((([a.getD i false]:List Bool).length:Int)+((binl R).length:Int)≤LIM)=true:=by
   rw[show(([a.getD i false]:List Bool).length:Int)+((binl R).length:Int)=(((binl R).length+1:Nat):Int) by simp;omega]
   exact zbo (by omega)
  have tA:=zei a i
  rw[xbj,tA]at hv
  have hbv:bv ([a.getD i false]++binl R)=(a.getD i false).toNat+2*R:=by simp[bv,zbt]
  have hbl:([a.getD i false]++binl R).length≤1073741825:=by simp;omega
  simp only[j1,d0le,cond_true,dlt (show i<a.length by omega),xac,tn,zae,hlim,zil (Nat.le_trans hbl (by omega)),hbv,Option.bind_some]
  have hx:(a.getD i false).toNat≤1:=Bool.toNat_le _
  generalize(a.getD i false).toNat=x at *
  have hX:(binl (x+2*R)).length≤1073741825:=by
   have:=binl_le ([a.getD i false]++binl R)
   rw[hbv]at this
   omega
  rw[d80_eq _ _ (by omega) (by omega),zbt,Option.bind_some,cmpN_ge]
  by_cases hge:bv b≤x+2*R
  ·rw[decide_eq_true hge,cond_true,d82_eq _ _ (by omega) (by rw[zbt];exact hge),zbt]
   simp only[Option.bind_some,dlt (show i<q.length by omega),cond_true,zns (show i<9223372036854775807 by omega)]
   refine⟨_,rfl,_,_,rfl,by omega,by simpa using hlen,by omega,fun k hk=>by rw[bgetD_set_ne _ _ (by omega)];exact hz k (by omega),?_⟩
   rw[bv_set q i (by omega) (hz i (by omega))]
   exact div_step1 hv hge
  ·rw[decide_eq_false hge,cond_false]
   refine⟨_,by rw[zns (by omega)],q,_,rfl,by omega,hlen,by omega,fun k hk=>hz k (by omega),?_⟩
   exact div_step0 hv
 ·rintro st ⟨q,R,rfl,hia,hlen,hR,hz,hv⟩
  refine⟨(q,binl R),rfl,?_⟩
  simp only[xct,bv,xgg,xih,xco]at hv
  show(d142 q).bind _=_
  rw[zil (by omega),Option.bind_some]
  have e1:bv a/bv b=bv q:=by
   rw[hv,xbb,Nat.mul_add_div (by omega),xec hR,xco]
  have e2:bv a%bv b=R:=by
   rw[hv,xbb,Nat.mul_add_mod,xcb hR]
  rw[e1,e2]
theorem d152_eq(x y:Nat)(lx:(binl x).length≤1073741824)(ly:(binl y).length≤1073741824):d152 (binl x) (binl y)=some (binl (Nat.gcd x y)):=by
 unfold d152
 refine zco (Q:=fun r=>r=some (binl (Nat.gcd x y))) (fun(M:Nat) (st:(List Bool)×(List Bool))=>∃z:Nat,st=(binl z,binl M)∧(binl z).length≤1073741824∧(binl M).length≤1073741824∧Nat.gcd z M=Nat.gcd x y) y ⟨x,rfl,lx,ly,rfl⟩ ?_
 rintro M st ⟨z,rfl,h1,h2,h3⟩
 rcases xbk M with h0|h0
 ·subst h0
  refine .inr ⟨binl z,by simp[binl_zero],?_⟩
  rw[xik]at h3
  rw[zil (by omega),zbt,h3];rfl
 ·have hp:=zhm.2 h0
  have hd:=d153_eq (binl z) (binl M) h1 h2 (by rw[zbt];omega)
  rw[zbt,zbt]at hd
  refine .inl ⟨(binl M,binl (z%M)),z%M,?_,xdk _ h0,M,rfl,h2,?_,?_⟩
  ·simp only[show decide ((0:Int)<((binl M).length:Int))=true from decide_eq_true (by omega),cond_true,hd,Option.bind_some]
  ·have:=zhl (xex (xdk z h0));omega
  ·rw[←h3,xgh z M,Nat.gcd_rec M z,xgh]
end Go.Proofs.YtmipjomnjkmdbaaGreat
namespace Go.Proofs.YtmipjomnjkmdbaaGreat
open Go Go.X
theorem B_pow(i:Nat):4294967296^i=2^(32*i):=by rw[Nat.pow_mul]
theorem and_one(z:Nat):z&&&1=z%2:=Nat.and_one_is_mod z
theorem bit_of{x k:Nat}(hx:x<4294967296)(hk:k<32):decide (wu32 (((BitVec.ofInt 32 (wu32 (Int.fdiv (x:Int) (2^(min (Int.toNat (k:Int)) 32))))&&&BitVec.ofInt 32 1).toNat:Nat):Int)=1)=decide (x/2^k%2=1):=by
 have e1:Int.fdiv (x:Int) (2^(min (Int.toNat (k:Int)) 32))=((x/2^k:Nat):Int):=by
  rw[tn,show min k 32=k by omega]
  have:((2:Int)^k)=((2^k:Nat):Int):=by simp
  rw[this,xfi _ (xim _)]
  rfl
 have hl:x/2^k<4294967296:=xeq (xcv _ _) hx
 rw[e1]
 generalize x/2^k=z at *
 have hone:BitVec.ofInt 32 1=BitVec.ofNat 32 1:=rfl
 rw[show wu32 (z:Int)=(z:Int) by rw[zcj,xcb hl],BitVec.toNat_and,zfp 32 _ hl,hone,xio,show 1%2^32=1 from rfl,and_one,zcj,xcb (by omega)]
 by_cases h:z%2=1
 ·rw[h];rfl
 ·rw[decide_eq_false h,show z%2=0 by omega];rfl
theorem d95_eq{a:List Int}(ha:IsL a)(la:a.length≤67108864):d95 a=some (binl (nv a)):=by
 unfold d95
 refine zbj (Q:=fun r=>r=some (binl (nv a))) (fun(i:Nat) (st:(List Int)×(List Bool)×Int)=>∃(b:List Bool),st=(a,b,(i:Int))∧b.length=32*i∧bv b=nv (a.take i)) a.length ?_ ?_ ?_
 ·exact⟨[],rfl,rfl,by simp[bv,nv]⟩
 ·rintro i st hi ⟨b,rfl,hlen,hv⟩
  obtain⟨x,hx1,hx2,hx3⟩:=zdk ha i
  simp only[dlt hi,cond_true]
  refine zbj (Q:=fun(r:Option (((List Int)×(List Bool)×Int)⊕(List Bool)))=>∃a',r=some (.inl a')∧∃(b:List Bool),a'=(a,b,((i+1:Nat):Int))∧b.length=32*(i+1)∧bv b=nv (a.take (i+1))) (fun(k:Nat) (st:(List Int)×(List Bool)×Int×Int)=>∃(c:List Bool),st=(a,c,(i:Int),(k:Int))∧c.length=32*i+k∧bv c=nv (a.take i)+4294967296^i*(x%2^k)) 32 ?_ ?_ ?_
  ·exact⟨b,rfl,hlen,by rw[hv,xgg,Nat.mod_one,xew,xco]⟩
  ·rintro k st hk ⟨c,rfl,hcl,hcv⟩
   have q:decide ((k:Int)<32)=true:=decide_eq_true (by omega)
   have q2:wu64 ((k:Int)+1)=((k+1:Nat):Int):=by rw[zbs (by omega) (by omega)];omega
   simp only[q,d0le,dlt hi,cond_true,xac,tn,hx1]
   have hbit:=bit_of hx2 hk
   rw[tn]at hbit
   simp only[hbit,zqa (show c.length+1≤4294967296 by omega),q2,cond_true]
   refine⟨_,rfl,_,rfl,by simp[hcl];omega,?_⟩
   rw[bv_snoc,toNat_dec,hcl,hcv,Nat.mod_pow_succ,xbq,B_pow,xdm]
   simp only[xbf,xch]
  ·rintro st ⟨c,rfl,hcl,hcv⟩
   have q:decide (((32:Nat):Int)<32)=false:=rfl
   refine⟨(a,c,(i:Int)),by simp only[q,cond_false],?_⟩
   refine⟨_,by rw[zau (by omega)],c,rfl,by omega,?_⟩
   rw[hcv,hx3,xcb (show x<2^32 from hx2)]
 ·rintro st ⟨b,rfl,hlen,hv⟩
  refine⟨b,by simp only[nlt (Nat.le_refl a.length),cond_false],?_⟩
  rw[xan (Nat.le_refl _)]at hv
  show(d142 b).bind _=_
  rw[zil (by omega),hv];rfl
theorem tdivN(a b:Nat):Int.tdiv (a:Int) (b:Int)=((a/b:Nat):Int):=rfl
theorem tmodN(a b:Nat):Int.tmod (a:Int) (b:Int)=((a%b:Nat):Int):=rfl
theorem d94_eq{n:Nat}(h:n≤4294967295):d94 (n:Int)=some (binl n):=by
 unfold d94
 refine zco (Q:=fun r=>r=some (binl n)) (fun(M:Nat) (st:Int×(List Bool))=>∃b:List Bool,st=((M:Int),b)∧M≤n∧b.length+M≤n∧b++binl M=binl n) n ⟨[],rfl,Nat.le_refl _,by simp,rfl⟩ ?_
 rintro M st ⟨b,rfl,hM,hl,hb⟩
 rcases xbk M with h0|h0
 ·subst h0
  rw[binl_zero,xcf]at hb
  exact .inr ⟨b,rfl,by rw[hb]⟩
 ·have q:decide ((0:Int)<(M:Int))=true:=decide_eq_true (by omega)
  have f1:w (Int.tdiv (M:Int) 2)=((M/2:Nat):Int):=by
   rw[show(2:Int)=((2:Nat):Int)from rfl,tdivN,zbi (by omega) (by omega)]
  have f2:w (Int.tmod (M:Int) 2)=((M%2:Nat):Int):=by
   rw[show(2:Int)=((2:Nat):Int)from rfl,tmodN,zbi (by omega) (by omega)]
  have f3:decide (((M%2:Nat):Int)=1)=decide (M%2=1):=by
   by_cases h:M%2=1
   ·rw[h];rfl
   ·rw[decide_eq_false h,decide_eq_false (by omega)]
  simp only[q,f1,f2,f3,cond_true,zqa (show b.length+1≤4294967296 by omega)]
  refine .inl ⟨_,M/2,rfl,by omega,_,rfl,by omega,by simp;omega,?_⟩
  rw[xbz,List.singleton_append,←zib (by omega),hb]
abbrev Rb:=Bool×(List Bool×List Bool)
def qb(q:Rat):Rb:=(decide (q.num<0),binl q.num.natAbs,binl q.den)
theorem qb_zero:qb 0=(false,[],[true]):=by
 unfold qb
 simp only[Rat.zero_num,Rat.zero_den]
 rw[zib (n:=1) (by omega)]
 simp[binl_zero]
theorem qb_make(neg:Bool){a b:Nat}(ha:a≠0)(hb:b≠0):qb (mkRat (sgnN neg a) b)=(neg,binl (a/Nat.gcd a b),binl (b/Nat.gcd a b)):=by
 have h:=zpn neg ha hb
 unfold rr at h
 simp only[xal]at h
 unfold qb
 rw[h.1,limbs_inj h.2.1,limbs_inj h.2.2]
theorem one_bit:binl 1=[true]:=by rw[zib (by omega)];simp[binl_zero]
theorem d92_eq(neg:Bool)(a b:Nat)(la:(binl a).length≤1073741824)(lb:(binl b).length≤1073741824):d92 neg (binl a) (binl b)=some (qb (mkRat (sgnN neg a) b)):=by
 unfold d92
 rw[zae]
 have hz:d94 1=some [true]:=by have:=d94_eq (n:=1) (by omega);rw[one_bit]at this;exact this
 by_cases ha:a=0
 ·subst ha
  rw[binl_zero,zme,Rat.zero_mkRat,qb_zero]
  simp only[xea,show decide (((0:Nat):Int)=0)=true from rfl,xaj,cond_false,cond_true,hz,Option.bind_some]
 ·have hpa:=zhm.2 (xda ha)
  simp only[show decide (((binl a).length:Int)=0)=false from decide_eq_false (by omega),xae,cond_true]
  by_cases hb:b=0
  ·subst hb
   rw[binl_zero,xib,qb_zero]
   simp only[xea,show decide (((0:Nat):Int)=0)=true from rfl,cond_true,hz,Option.bind_some]
  ·have hpb:=zhm.2 (xda hb)
   have hg:Nat.gcd a b≠0:=fun e=>ha (Nat.eq_zero_of_gcd_eq_zero_left e)
   have hgl:(binl (Nat.gcd a b)).length≤1073741824:=by
    have:=zhl (Nat.le_of_dvd (xda ha) (Nat.gcd_dvd_left a b))
    omega
   have e1:=d153_eq (binl a) (binl (Nat.gcd a b)) la hgl (by rw[zbt];exact hg)
   have e2:=d153_eq (binl b) (binl (Nat.gcd a b)) lb hgl (by rw[zbt];exact hg)
   rw[zbt,zbt]at e1 e2
   simp only[show decide (((binl b).length:Int)=0)=false from decide_eq_false (by omega),cond_false,d152_eq a b la lb,e1,e2,Option.bind_some,qb_make neg ha hb]
def Bz(k:Nat)(q:Rat):Prop:=q.num.natAbs<2^k∧q.den<2^k
theorem Bz.len{k:Nat}{q:Rat}(h:Bz k q):(binl q.num.natAbs).length≤k∧(binl q.den).length≤k:=⟨(zbq _ _).2 h.1,(zbq _ _).2 h.2⟩
theorem Bz.mono{k l:Nat}{q:Rat}(h:Bz k q)(hl:k≤l):Bz l q:=⟨xao h.1 (xdd (by decide) hl),xao h.2 (xdd (by decide) hl)⟩
theorem Bz.sz{k:Nat}{q:Rat}(h:Bz (32*k) q):Sz k (rr q):=by
 refine⟨(zat _ _).2 ?_,(zat _ _).2 ?_⟩
 ·rw[B_pow];exact h.1
 ·rw[B_pow];exact h.2
theorem d34_rr{q:Rat}(h:Bz 1073741824 q):d34 (rr q)=some (qb q):=by
 unfold d34
 have hs:Sz 33554432 (rr q):=Bz.sz (k:=33554432) h
 have hb:=h.len
 have e1:=d95_eq (a:=(rr q).2.1) (rr_ok q).1 (by have:=hs.1;omega)
 have e2:=d95_eq (a:=(rr q).2.2) (rr_ok q).2 (by have:=hs.2;omega)
 rw[e1,e2]
 simp only[Option.bind_some,rr,zav]
 rw[d92_eq _ _ _ hb.1 hb.2,zpj,xhc]
 rfl
theorem zhk(a b:Nat):(binl (a*b)).length≤(binl a).length+(binl b).length:=by
 rw[zbq,xdm]
 exact xgm ((zbq a _).1 (Nat.le_refl _)) ((zbq b _).1 (Nat.le_refl _))
theorem binl_add_len(a b:Nat):(binl (a+b)).length≤max (binl a).length (binl b).length+1:=by
 rw[zbq,xbj]
 have h1:=(zbq a (max (binl a).length (binl b).length)).1 (xgv _ _)
 have h2:=(zbq b (max (binl a).length (binl b).length)).1 (xhk _ _)
 omega
theorem d41_qb{q:Rat}(h:Bz 1073741824 q):d41 (qb q)=some (qb (-q)):=by
 unfold d41 qb
 have hb:=h.len
 simp only[d92_eq _ _ _ hb.1 hb.2,sgnN_not,zpj,←Rat.neg_mkRat,xhc,Option.bind_some]
 rfl
theorem Bz.neg{k:Nat}{q:Rat}(h:Bz k q):Bz k (-q):=by
 unfold Bz at *
 rw[Rat.neg_num,Rat.neg_den,Int.natAbs_neg];exact h
theorem d77_bin(x y:Nat)(lx:(binl x).length≤536870912)(ly:(binl y).length≤536870912):d77 (binl x) (binl y)=some (binl (x*y)):=by
 rw[d77_eq _ _ lx ly,zbt,zbt]
theorem d79_bin(x y:Nat)(lx:(binl x).length≤2147483646)(ly:(binl y).length≤2147483646):d79 (binl x) (binl y)=some (binl (x+y)):=by
 rw[d79_eq _ _ lx ly,zbt,zbt]
theorem d82_bin(x y:Nat)(lx:(binl x).length≤2147483646)(h:y≤x):d82 (binl x) (binl y)=some (binl (x-y)):=by
 rw[d82_eq _ _ lx (by rw[zbt,zbt];exact h),zbt,zbt]
theorem d80_bin(x y:Nat)(lx:(binl x).length≤4294967296)(ly:(binl y).length≤4294967296):d80 (binl x) (binl y)=some (cmpN x y):=by
 rw[d80_eq _ _ lx ly,zbt,zbt]
theorem d35_qb{x y:Rat}(hx:Bz 268435456 x)(hy:Bz 268435456 y):d35 (qb x) (qb y)=some (qb (x+y)):=by
 unfold d35
 obtain⟨a1,a2⟩:=hx.len
 obtain⟨b1,b2⟩:=hy.len
 simp only[qb]
 have m1:=zhk x.num.natAbs y.den
 have m2:=zhk y.num.natAbs x.den
 have m3:=zhk x.den y.den
 have m4:=binl_add_len (x.num.natAbs*y.den) (y.num.natAbs*x.den)
 rw[d77_bin _ _ (by omega) (by omega),d77_bin _ _ (by omega) (by omega),d77_bin _ _ (by omega) (by omega)]
 simp only[Option.bind_some]
 have key:∀(u:Bool) (c:Nat),(binl c).length≤1073741824→sgnN u c=sgnN (decide (x.num<0)) (x.num.natAbs*y.den)+sgnN (decide (y.num<0)) (y.num.natAbs*x.den)→d92 u (binl c) (binl (x.den*y.den))=some (qb (x+y)):=by
  intro u c hc he
  rw[d92_eq _ _ _ hc (by omega),he,ziu,ziu,add_mk]
 generalize decide (x.num<0)=s at *
 generalize decide (y.num<0)=t at *
 generalize x.num.natAbs*y.den=p at *
 generalize y.num.natAbs*x.den=r at *
 by_cases hst:s=t
 ·subst hst
  simp only[BEq.rfl,cond_true]
  rw[d79_bin _ _ (by omega) (by omega),Option.bind_some,key s (p+r) (by omega) (by unfold sgnN;split<;>omega)]
  rfl
 ·simp only[xif.2 hst,cond_false]
  rw[d80_bin _ _ (by omega) (by omega),Option.bind_some,cmpN_ge]
  by_cases hge:r≤p
  ·have m5:=zhl (Nat.sub_le p r)
   rw[decide_eq_true hge,cond_true,d82_bin _ _ (by omega) hge,Option.bind_some,key s (p-r) (by omega) (by unfold sgnN;cases s<;>cases t<;>simp at hst⊢ <;>omega)]
   rfl
  ·have m5:=zhl (Nat.sub_le r p)
   rw[decide_eq_false hge,cond_false,d82_bin _ _ (by omega) (by omega),Option.bind_some,key t (r-p) (by omega) (by unfold sgnN;cases s<;>cases t<;>simp at hst⊢ <;>omega)]
   rfl
theorem zod(q:Rat):(qb q).2.1=[]↔q=0:=by
 unfold qb
 rw[binl_nil,Int.natAbs_eq_zero,Rat.num_eq_zero]
theorem qb_neg(q:Rat):(qb q).1=decide (q<0):=rr_neg q
theorem d36_qb{x y:Rat}(hx:Bz 268435456 x)(hy:Bz 268435456 y):d36 (qb x) (qb y)=some (cmpQ x y):=by
 unfold d36
 rw[d41_qb (hy.mono (by omega))]
 simp only[Option.bind_some]
 rw[d35_qb hx hy.neg,←Rat.sub_eq_add_neg]
 simp only[Option.bind_some]
 rw[qb_neg]
 unfold cmpQ
 by_cases h2:x=y
 ·rw[if_neg (by rw[h2];exact Rat.lt_irrefl),if_pos h2,(zod (x-y)).2 (zfb.2 h2)];rfl
 ·have:(qb (x-y)).2.1≠ []:=fun hc=>h2 (zfb.1 ((zod _).1 hc))
  have:=xcg.2 this
  rw[decide_eq_false (show ¬((qb (x-y)).2.1.length:Int)=0 by omega),cond_false]
  by_cases h:x<y
  ·rw[decide_eq_true (zga.2 h),if_pos h];rfl
  ·rw[decide_eq_false (fun hc=>h (zga.1 hc)),if_neg h,if_neg h2];rfl
theorem d96_eq(a b:List Int)(la:a.length≤4294967296):d96 a b=some (decide (a=b)):=by
 unfold d96
 by_cases hl:a.length=b.length
 ·have e:decide ((a.length:Int)=(b.length:Int))=true:=decide_eq_true (by omega)
  simp only[e,xaj,cond_false]
  refine zco (Q:=fun r=>r=some (decide (a=b))) (fun(M:Nat) (st:(List Int)×(List Int)×Int)=>∃i:Nat,st=(a,b,(i:Int))∧i+M=a.length∧a.take i=b.take i) a.length ⟨0,rfl,by omega,rfl⟩ ?_
  rintro M st ⟨i,rfl,hM,ht⟩
  rcases xbk M with h0|h0
  ·refine .inr ⟨.inl (),by simp only[nlt (show a.length≤i by omega),cond_false],?_⟩
   rw[xan (by omega),xan (by omega)]at ht
   rw[decide_eq_true ht]
  ·simp only[dlt (show i<a.length by omega),dlt (show i<b.length by omega),d0le,xac,cond_true,tn]
   by_cases hg:a.getD i 0=b.getD i 0
   ·rw[decide_eq_true hg,xaj,cond_false]
    refine .inl ⟨_,M-1,rfl,by omega,i+1,by rw[zau (by omega)],by omega,?_⟩
    rw[zir a (by omega),zir b (by omega),ht,hg]
   ·rw[decide_eq_false hg,xae,cond_true]
    refine .inr ⟨.inr false,rfl,?_⟩
    rw[decide_eq_false fun hc=>hg (by rw[hc])]
 ·have e:decide ((a.length:Int)=(b.length:Int))=false:=decide_eq_false (by omega)
  simp only[e,xae,cond_true]
  rw[decide_eq_false fun hc=>hl (by rw[hc])]
theorem d37_rr{x y:Rat}(hx:Sz 268435456 (rr x)):d37 (rr x) (rr y)=some (decide (x=y)):=by
 unfold d37
 rw[d96_eq _ _ (by have:=hx.1;omega),d96_eq _ _ (by have:=hx.2;omega)]
 simp only[Option.bind_some]
 by_cases h:x=y
 ·subst h;simp
 ·rw[decide_eq_false h]
  by_cases h1:(rr x).1=(rr y).1
  ·rw[h1,BEq.rfl,cond_true]
   by_cases h2:(rr x).2.1=(rr y).2.1
   ·rw[decide_eq_true h2,cond_true,decide_eq_false fun h3=>h (rr_inj (Prod.ext h1 (Prod.ext h2 h3)))]
   ·rw[decide_eq_false h2,cond_false]
  ·rw[xif.2 h1,cond_false]
end Go.Proofs.YtmipjomnjkmdbaaGreat
