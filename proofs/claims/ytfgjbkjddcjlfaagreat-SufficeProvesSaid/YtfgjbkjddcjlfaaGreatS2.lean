/- Part 2 of what stands below the statement. -/
import Derived.Test.YtfgjbkjddcjlfaaGreatS1
set_option linter.defProp false
namespace Go.X
open Go Go.RowKit
def zil{S:St}:∀{π ρ:List Nat} {t:Ty} {x:t.den} {u:Ty} {y:u.den} {p:Place},getP π t x=some ⟨u,y⟩→okP S π t p→okP S ρ u (pa p π)→okP S (π++ρ) t p
 | [],ρ,t,x,u,y,p,h,_,h2=>by simp only[getP,xat]at h;cases h;rw[zct]at h2;exact h2
 |i::π,ρ,.pair a b,x,u,y,p,h,h1,h2=>by
  rw[←zcc]at h2
  match i with
  | 0=>simp only[getP]at h;exact zil (t:=a) h h1 h2
  | 1=>simp only[getP]at h;exact zil (t:=b) h h1 h2
  |i+2=>simp[getP]at h
 |i::π,ρ,.arr n t,x,u,y,p,h,h1,h2=>by
  rw[←zcc]at h2
  rw[zkw]at h
  rw[zew]at h1
  rw[xca,zew]
  exact⟨h1.1,zil h h1.2 h2⟩
 |i::π,ρ,.slice t,x,u,y,p,h,h1,h2=>by
  rw[←zcc]at h2
  rw[zof]at h
  rw[zfp]at h1
  rw[xca,zfp]
  exact⟨h1.1,zil h h1.2 h2⟩
 |i::π,ρ,.ptr t,x,u,y,p,h,h1,h2=>by
  rw[←zcc]at h2
  match i with
  | 0=>simp only[getP]at h;exact zil (t:=t) h h1 h2
  |i+1=>simp[getP]at h
 |_::_,_,.int _,_,_,_,_,h,_,_=>by simp[getP]at h
 |_::_,_,.bool,_,_,_,_,h,_,_=>by simp[getP]at h
 |_::_,_,.str,_,_,_,_,h,_,_=>by simp[getP]at h
 |_::_,_,.unit,_,_,_,_,h,_,_=>by simp[getP]at h
 |_::_,_,.fn1 _ _,_,_,_,_,h,_,_=>by simp[getP]at h
 |_::_,_,.fn2 _ _ _,_,_,_,_,h,_,_=>by simp[getP]at h
 |_::_,_,.alt _ _ _,_,_,_,_,h,_,_=>by simp[getP]at h
 |_::_,_,.nilI,_,_,_,_,h,_,_=>by simp[getP]at h
def addL(π:List Nat)(l l2:Option (List Nat)×Nat):Option (List Nat)×Nat:=
 match l2 with
 |(some q,o)=>(some (π++q),o)
 |(none,o)=>(l.1,l.2+o)
def zfk:∀{π ρ:List Nat} {t:Ty} {x:t.den} {u:Ty} {y:u.den} {l l2:Option (List Nat)×Nat},getP π t x=some ⟨u,y⟩→locP π t=some l→locP ρ u=some l2→locP (π++ρ) t=some (addL π l l2)
 | [],ρ,t,x,u,y,l,l2,h,h1,h2=>by
  simp only[getP,xat]at h
  cases h
  simp only[locP,xat]at h1
  subst h1
  rw[xci,h2]
  obtain⟨q,o⟩:=l2
  cases q<;>simp[addL]
 |i::π,ρ,.pair a b,x,u,y,l,l2,h,h1,h2=>by
  match i with
  | 0=>
   simp only[getP]at h
   simp only[locP,xad]at h1
   obtain⟨l',h3,rfl⟩:=h1
   have:=zfk (t:=a) h h3 h2
   rw[xca]
   simp only[locP,this,xcn]
   obtain⟨q,o⟩:=l2
   cases q<;>simp[addL]
  | 1=>
   simp only[getP]at h
   simp only[locP,xad]at h1
   obtain⟨l',h3,rfl⟩:=h1
   have:=zfk (t:=b) h h3 h2
   rw[xca]
   simp only[locP,this,xcn]
   obtain⟨q,o⟩:=l2
   obtain⟨q',o'⟩:=l'
   cases q<;>cases q'<;>simp[addL,xdm]
  |i+2=>simp[getP]at h
 |i::π,ρ,.arr n t,x,u,y,l,l2,h,h1,h2=>by
  rw[zkw]at h
  rw[zej]at h1
  simp only[xad]at h1
  obtain⟨l',h3,rfl⟩:=h1
  have:=zfk h h3 h2
  rw[xca,zej,this,xcn]
  obtain⟨q,o⟩:=l2
  obtain⟨q',o'⟩:=l'
  cases q<;>cases q'<;>simp[addL,xdm]
 |i::π,ρ,.slice t,x,u,y,l,l2,h,h1,h2=>by
  rw[zof]at h
  rw[zeb]at h1
  simp only[xad]at h1
  obtain⟨l',h3,rfl⟩:=h1
  have:=zfk h h3 h2
  rw[xca,zeb,this,xcn]
  obtain⟨q,o⟩:=l2
  obtain⟨q',o'⟩:=l'
  cases q<;>cases q'<;>simp[addL,xdm]
 |i::π,ρ,.ptr t,x,u,y,l,l2,h,h1,h2=>by
  match i with
  | 0=>
   simp only[getP]at h
   simp only[locP,xad]at h1
   obtain⟨l',h3,rfl⟩:=h1
   have:=zfk (t:=t) h h3 h2
   rw[xca]
   simp only[locP,this,xcn]
   obtain⟨q,o⟩:=l2
   obtain⟨q',o'⟩:=l'
   cases q<;>cases q'<;>simp[addL]
  |i+1=>simp[getP]at h
 |_::_,_,.int _,_,_,_,_,_,h,_,_=>by simp[getP]at h
 |_::_,_,.bool,_,_,_,_,_,h,_,_=>by simp[getP]at h
 |_::_,_,.str,_,_,_,_,_,h,_,_=>by simp[getP]at h
 |_::_,_,.unit,_,_,_,_,_,h,_,_=>by simp[getP]at h
 |_::_,_,.fn1 _ _,_,_,_,_,_,h,_,_=>by simp[getP]at h
 |_::_,_,.fn2 _ _ _,_,_,_,_,_,h,_,_=>by simp[getP]at h
 |_::_,_,.alt _ _ _,_,_,_,_,_,h,_,_=>by simp[getP]at h
 |_::_,_,.nilI,_,_,_,_,_,h,_,_=>by simp[getP]at h
def flds:Nat→Ty→Option (List Ty)
 | 1,.pair a .unit=>some [a]
 | 2,.pair a b=>some [a,b]
 |n+3,.pair a b=>(flds (n+2) b).map (a::·)
 |_,_=>none
def zjj:Nat→Nat→Option (List Nat)
 | 1,0=>some [0]
 | 2,0=>some [0]
 | 2,1=>some [1]
 |_+3,0=>some [0]
 |n+3,f+1=>(zjj (n+2) f).map (1::·)
 |_,_=>none
def zex(o:Nat):List Ty→List (Nat×Nat)
 | []=>[]
 |t::ts=>(o,t.size)::zex (o+t.size) ts
def zgy{S:St}:∀{n f:Nat} {t:Ty} {fs:List Ty} {ρ:List Nat} {o0:Nat} {x:t.den} {p:Place},flds n t=some fs→zjj n f=some ρ→∃(u:Ty) (y:u.den) (o:Nat),fs[f]?=some u∧getP ρ t x=some ⟨u,y⟩∧locP ρ t=some (none,o)∧okP S ρ t p∧(zex o0 fs)[f]?=some (o0+o,u.size)
 | 0,f,t,fs,ρ,o0,x,p,h,_=>by cases t<;>simp[flds]at h
 | 1,f,t,fs,ρ,o0,x,p,h,hf=>by
  cases t with
  |pair a b=>
   cases b<;>first | (simp[flds]at h;done) | skip
   simp only[flds,xat]at h
   subst h
   match f with
   | 0=>
    simp only[zjj,xat]at hf
    subst hf
    exact⟨a,x.1,0,rfl,rfl,rfl,trivial,by simp[zex]⟩
   |f+1=>simp[zjj]at hf
  |_=>simp[flds]at h
 | 2,f,t,fs,ρ,o0,x,p,h,hf=>by
  cases t with
  |pair a b=>
   simp only[flds,xat]at h
   subst h
   match f with
   | 0=>
    simp only[zjj,xat]at hf
    subst hf
    exact⟨a,x.1,0,rfl,rfl,rfl,trivial,by simp[zex]⟩
   | 1=>
    simp only[zjj,xat]at hf
    subst hf
    exact⟨b,x.2,a.size,rfl,rfl,by simp[locP],trivial,by simp[zex]⟩
   |f+2=>simp[zjj]at hf
  |_=>simp[flds]at h
 |n+3,f,t,fs,ρ,o0,x,p,h,hf=>by
  cases t with
  |pair a b=>
   simp only[flds,xad]at h
   obtain⟨fs',h1,rfl⟩:=h
   match f with
   | 0=>
    simp only[zjj,xat]at hf
    subst hf
    exact⟨a,x.1,0,rfl,rfl,rfl,trivial,by simp[zex]⟩
   |f+1=>
    simp only[zjj,xad]at hf
    obtain⟨ρ',h2,rfl⟩:=hf
    obtain⟨u,y,o,h3,h4,h5,h6,h7⟩:=zgy (S:=S) (o0:=o0+a.size) (x:=x.2) (p:=px p 1) h1 h2
    exact⟨u,y,a.size+o,by simpa using h3,h4,by simp[locP,h5],h6,by rw[←xdm];simpa[zex]using h7⟩
  |_=>simp[flds]at h
def cden:(t:Ty)→List Value→Option (t.den×List Value)
 | .int k,.int k' n::r=>if k=k'∧k.wrap n=n then some (n,r)else none
 | .bool,.bool b::r=>some (b,r)
 | .str,.string s::r=>if s.data.toList.length≤maxL then some (s.data.toList.map (fun c=>(c.toNat:Int)),r)else none
 | .unit,r=>some ((),r)
 | .pair a b,r=>match cden a r with
  |some (x,r)=>match cden b r with
   |some (y,r)=>some ((x,y),r)
   |none=>none
  |none=>none
 | .arr n t,r=>cdenA (cden t) n r
 | .slice t,.slice none 0 0::r=>if 0<t.size then some ([],r)else none
 | .alt _ _ b,r=>if b.size=1 then match cden b r with
  |some (z,r)=>some (.inr z,r)
  |none=>none else none
 | .nilI,.nilIface::r=>some ((),r)
 |_,_=>none
where
 cdenA {α:Type} (f:List Value→Option (α×List Value)):Nat→List Value→Option (List α×List Value)
  | 0,r=>some ([],r)
  |n+1,r=>match f r with
   |some (x,r)=>match cdenA f n r with
    |some (xs,r)=>some (x::xs,r)
    |none=>none
   |none=>none
section
variable {P:Program}
def zuu{S:St}:∀{t:Ty} {l r:List Value} {x:t.den} {p:Place} {cs:Cs},cden t l=some (x,r)→(∀i,i<t.size→cs i=l[i]?)→r=l.drop t.size∧t.size≤l.length∧Rel P t S .sh p x cs:=by
 intro t
 induction t with
 |int k=>
  intro l r x p cs h hc
  cases l with
  |nil=>simp[cden]at h
  |cons v l=>
   have h0:=hc 0 Nat.one_pos
   cases v<;>simp only[cden]at h<;>first | (cases h;done) | skip
   split at h
   ·rename_i hk
    obtain⟨rfl,hk⟩:=hk
    cases h
    exact⟨rfl,by simp[Ty.size],h0,hk⟩
   ·cases h
 |bool=>
  intro l r x p cs h hc
  cases l with
  |nil=>simp[cden]at h
  |cons v l=>
   have h0:=hc 0 Nat.one_pos
   cases v<;>simp only[cden]at h<;>first | (cases h;done) | skip
   cases h
   exact⟨rfl,by simp[Ty.size],h0⟩
 |str=>
  intro l r x p cs h hc
  cases l with
  |nil=>simp[cden]at h
  |cons v l=>
   have h0:=hc 0 Nat.one_pos
   cases v<;>simp only[cden]at h<;>first | (cases h;done) | skip
   split at h
   ·rename_i s hs
    cases h
    exact⟨rfl,by simp[Ty.size],s,h0,rfl,by simpa using hs⟩
   ·cases h
 |unit=>intro l r x p cs h hc;simp only[cden]at h;cases h;exact⟨rfl,xbz _,trivial⟩
 |nilI=>
  intro l r x p cs h hc
  cases l with
  |nil=>simp[cden]at h
  |cons v l=>
   have h0:=hc 0 Nat.one_pos
   cases v<;>simp only[cden]at h<;>first | (cases h;done) | skip
   cases h
   exact⟨rfl,by simp[Ty.size],h0⟩
 |slice t ih=>
  intro l r x p cs h hc
  have h0:=hc 0 Nat.one_pos
  match l with
  | []=>simp[cden]at h
  | .slice none 0 0::l=>
   simp only[cden]at h
   split at h
   ·rename_i hs
    cases h
    exact⟨rfl,by simp[Ty.size],xbz _,hs,none,0,0,h0,rfl,xak _,.inl ⟨rfl,rfl⟩⟩
   ·cases h
  | .slice (some _) _ _::l=>simp[cden]at h
  | .slice none (_+1) _::l=>simp[cden]at h
  | .slice none 0 (_+1)::l=>simp[cden]at h
  | .bool _::l=>simp[cden]at h
  | .int _ _::l=>simp[cden]at h
  | .float _ _::l=>simp[cden]at h
  | .complex _ _ _::l=>simp[cden]at h
  | .string _::l=>simp[cden]at h
  | .pointer _::l=>simp[cden]at h
  | .map _::l=>simp[cden]at h
  | .chan _::l=>simp[cden]at h
  | .func _ _ _::l=>simp[cden]at h
  | .nilFunc::l=>simp[cden]at h
  | .iface _ _::l=>simp[cden]at h
  | .nilIface::l=>simp[cden]at h
  | .agg _::l=>simp[cden]at h
  | .tuple _::l=>simp[cden]at h
 |pair a b iha ihb=>
  intro l r x p cs h hc
  simp only[Ty.size]at hc
  simp only[cden]at h
  split at h
  ·rename_i y r1 h1
   split at h
   ·rename_i z r2 h2
    cases h
    obtain⟨h3,h4,h5⟩:=iha (p:=px p 0) (cs:=cs) h1 fun i hi=>hc i (by omega)
    subst h3
    obtain⟨h6,h7,h8⟩:=ihb (p:=px p 1) (cs:=fun i=>cs (a.size+i)) h2 fun i hi=>by rw[xkr];exact hc _ (by omega)
    simp at h7
    exact⟨by rw[h6,xib];rfl,by simp only[Ty.size];omega,h5,h8⟩
   ·cases h
  ·cases h
 |arr n t ih=>
  intro l r x p cs h hc
  have key:∀(n:Nat) (l r:List Value) (x:List t.den) (k:Nat),cden.cdenA (cden t) n l=some (x,r)→(∀i,i<n*t.size→cs (k*t.size+i)=l[i]?)→x.length=n∧r=l.drop (n*t.size)∧n*t.size≤l.length∧∀(i:Nat) (h:i<x.length),Rel P t S .sh (px p (k+i)) x[i] (fun j=>cs ((k+i)*t.size+j)):=by
   intro n
   induction n with
   |zero=>
    intro l r x k h hc
    simp only[cden.cdenA]at h
    grind
   |succ n ihn=>
    intro l r x k h hc
    simp only[cden.cdenA]at h
    split at h
    ·rename_i y r1 h1
     split at h
     ·rename_i ys r2 h2
      cases h
      have hs:(n+1)*t.size=t.size+n*t.size:=by rw[xcl];omega
      obtain⟨h3,h4,h5⟩:=ih (p:=px p k) (cs:=fun j=>cs (k*t.size+j)) h1 fun i hi=>hc i (by omega)
      subst h3
      obtain⟨h6,h7,h8,h9⟩:=ihn _ _ _ (k+1) h2 fun i hi=>by
       grind
      simp at h8
      refine⟨by simp[h6],by rw[h7,xib,hs],by omega,fun i hi=>?_⟩
      grind
     ·cases h
    ·cases h
  simp only[cden]at h
  obtain⟨h1,h2,h3,h4⟩:=key n l r x 0 h fun i hi=>by rw[xfl,xdc];exact hc i hi
  refine⟨h2,h3,h1,fun i hi=>?_⟩
  grind
 |alt tid a b iha ihb=>
  intro l r x p cs h hc
  simp only[cden]at h
  split at h
  case isFalse=>cases h
  rename_i hb
  split at h
  ·rename_i z r1 h1
   cases h
   obtain⟨h2,h3,h4⟩:=ihb (p:=px p 1) (cs:=cs) h1 fun i hi=>hc i (by simp only[Ty.size];omega)
   rw[hb]at h2 h3
   exact⟨h2,h3,hb,h4⟩
  ·cases h
 |ptr t=>intro l r x p cs h hc;cases l<;>simp[cden]at h
 |fn1 a r=>intro l r x p cs h hc;cases l<;>simp[cden]at h
 |fn2 a b r=>intro l r x p cs h hc;cases l<;>simp[cden]at h
def cval(t:Ty)(v:Value):Option t.den:=
 match cden t v.cells.toList with
 |some (x,[])=>if t.agg then(match v with | .agg _=>some x | _=>none)else match v with | .agg _=>none | _=>some x
 |_=>none
def zcx{S:St}{t:Ty}{v:Value}{x:t.den}{p:Place}(h:cval t v=some x):SR P t S .sh p x v:=by
 unfold cval at h
 split at h
 ·rename_i x' hx
  split at h
  ·rename_i hag
   split at h
   ·rename_i cs
    cases h
    obtain⟨h1,h2,h3⟩:=zuu (P:=P) (S:=S) (p:=p) (cs:=fun i=>cs[i]?) hx fun i _=>by simp[Value.cells]
    refine⟨?_,fun _=>⟨cs,rfl,?_⟩⟩
    ·unfold zab;rw[if_pos hag];exact h3
    ·have:=xbx List.length h1
     simp only[Value.cells,xde,xeh,xcc]at this h2
     omega
   ·cases h
  ·rename_i hag
   have hs:t.size=1:=by cases t<;>first | rfl | exact absurd rfl hag
   have key:v.cells=#[v]→SR P t S .sh p x' v:=fun hv=>by
    rw[hv]at hx
    obtain⟨h1,h2,h3⟩:=zuu (P:=P) (S:=S) (p:=p) (cs:=fun i=>if i=0 then some v else none) hx fun i hi=>by
     grind
    refine⟨?_,fun h=>absurd h hag⟩
    unfold zab;rw[if_neg hag];exact h3
   split at h
   ·cases h
   ·rename_i hv
    cases h
    exact key (by cases v<;>first | rfl | exact absurd rfl (hv _))
 ·cases h
end
abbrev Tab:=List (TypeId×TyI×Ty)
def tl:Tab→TypeId→Option (TyI×Ty)
 | [],_=>none
 |(i,y,t)::r,id=>if id=i then some (y,t)else tl r id
def zfr(T:Tab)(k:TyK)(t:Ty):Bool:=
 match k with
 | .int k=>match t with | .int k'=>decide (k=k') | _=>false
 | .bool=>match t with | .bool=>true | _=>false
 | .string=>match t with | .str=>true | _=>false
 | .slice e=>match t,tl T e with | .slice s,some (_,s')=>decide (s=s')&&decide (0<s.size) | _,_=>false
 | .array n e=>match t,tl T e with | .arr n' s,some (_,s')=>decide (n=n')&&decide (s=s') | _,_=>false
 | .struct offs=>match flds offs.length t with | some fs=>decide (offs=zex 0 fs) | none=>false
 | .iface=>match t with | .alt .. | .nilI=>true | _=>false
 | .other=>match t with | .ptr _ | .fn1 .. | .fn2 ..=>true | _=>false
def agree(T:Tab)(i:TyI)(t:Ty):Bool:=decide (i.size=t.size)&&decide (i.agg=t.agg)&&zfr T i.k t
def TabOK(P:Program)(T:Tab):Prop:=∀id i t,tl T id=some (i,t)→ty P id=some i∧agree T i t=true
def Ty.isSlice:Ty→Bool
 | .slice _=>true
 |_=>false
inductive Opd where
 |slot (t:Nat) (c:Slot) (root:Slot)
 |con (v:Value)
 |fn (f:Nat)
 |bad
def zdl(σ:Env):Ent→Slot
 | .ref r _ _=>σ r
 | .view r _ _=>σ r
 | .tail r _ _=>σ r
 |_=>⟨.dead,0,0⟩
def look(σ:Env):Operand→Opd
 | .tmp t=>.slot t (σ t) (zdl σ (σ t).e)
 | .const v=>.con v
 | .func f=>.fn f
 | .global _=>.bad
structure Pl where
 r:Nat
 c:Slot
 t:Ty
 m:Md
 x:t.den
 π:List Nat
def genB(c:Slot)(t:Ty)(π:List Nat)(s:Nat):Bool:=if zix π t then decide (c.h=s)else decide (c.g=s)
def Opd.place:Opd→Option Pl
 | .slot t c root=>match c.e with
  | .v (.ptr u) (.own e m) x=>some ⟨t,c,.ptr u,.own e m,x,[0]⟩
  | .ref r π s=>match root.e with
   | .v tr mr xr=>if genB root tr π s then some ⟨r,root,tr,mr,xr,π⟩else none
   |_=>none
  |_=>none
 |_=>none
def Opd.splace:Opd→Option Pl
 | .slot t c root=>match c.e with
  | .v (.slice u) (.own e m) x=>some ⟨t,c,.slice u,.own e m,x,[]⟩
  | .view r π s=>match root.e with
   | .v tr mr xr=>if root.h=s then some ⟨r,root,tr,mr,xr,π⟩else none
   |_=>none
  |_=>none
 |_=>none
def Opd.val(o:Opd)(t:Ty):Option (Md×t.den):=
 match o with
 | .con v=>(cval t v).map fun x=>(.sh,x)
 | .slot _ c root=>match c.e with
  | .v t' m x=>(TV.to ⟨t',x⟩ t).map fun x=>(m,x)
  | .view _ π s=>match root.e with
   | .v tr mr xr=>if root.h=s∧t.isSlice=true then match zbe π tr mr,getP π tr xr with
    |some (.own e k),some y=>(y.to t).map fun x=>(.own e k,x)
    |_,_=>none else none
   |_=>none
  |_=>none
 |_=>none
section
variable {P:Program} {c:Ctx} {σ:Env} {a:Act} {S:St}
def InvOf.ent(h:InvOf P c σ a S)(t:Nat):SlotOK P S σ (tmv a) t:=h.slots t
def SlotOK.ref{tm:Nat→Value}{t r:Nat}{π:List Nat}{s:Nat}(h:SlotOK P S σ tm t)(he:(σ t).e=.ref r π s):RefOK S σ r π s (tm t):=by
 unfold SlotOK at h;rw[he]at h;exact h
def SlotOK.view{tm:Nat→Value}{t r:Nat}{π:List Nat}{s:Nat}(h:SlotOK P S σ tm t)(he:(σ t).e=.view r π s):ViewOK S σ r π s (tm t):=by
 unfold SlotOK at h;rw[he]at h;exact h
def zwl{c:Slot}{t:Ty}{π:List Nat}{s:Nat}:genB c t π s=true↔gen c t π s:=by
 unfold genB gen
 split<;>simp
def InvOf.place(h:InvOf P c σ a S){o:Operand}{p:Pl}(hp:(look σ o).place=some p) :
  (σ p.r).e=.v p.t p.m p.x∧p.c=σ p.r∧p.π≠ []∧okP S p.π p.t (p.r,[])∧∃q off b,locP p.π p.t=some (some q,off)∧hvB (S.hv (p.r,q))=some b∧a.eval o=.pointer (some ⟨b,off,none⟩):=by
 cases o with
 |const v=>simp[look,Opd.place]at hp
 |func f=>simp[look,Opd.place]at hp
 |global g=>simp[look,Opd.place]at hp
 |tmp t=>
  simp only[look,Opd.place]at hp
  split at hp
  ·rename_i u e m x he
   cases hp
   have hs:=h.slot he
   obtain⟨⟨h0,g,cur,e',h1,h2,h3,h4,h5⟩,_⟩:=hs
   refine⟨he,rfl,by simp,trivial,[],0,g,by simp[locP],by rw[h1];rfl,?_⟩
   have:zab (.ptr u) (tmv a t) 0=some (tmv a t):=by simp[zab,Ty.agg]
   rw[this]at h0
   rw[zbb,xbo h0,h1]
  ·rename_i r π s he
   have hr:zdl σ (σ t).e=σ r:=by rw[he];rfl
   rw[hr]at hp
   split at hp
   ·rename_i tr mr xr hroot
    split at hp
    ·rename_i hg
     cases hp
     obtain⟨_,h2⟩:=(h.ent t).ref he
     obtain⟨q,o,b,h3,h4,h5,h6⟩:=h2 tr mr xr hroot (zwl.1 hg)
     exact⟨hroot,rfl,by rintro rfl;simp[locP]at h3,h4,q,o,b,h3,h5,by rw[zbb,h6]⟩
    ·cases hp
   ·cases hp
  ·cases hp
def InvOf.splace(h:InvOf P c σ a S){o:Operand}{p:Pl}(hp:(look σ o).splace=some p) :
  (σ p.r).e=.v p.t p.m p.x∧p.c=σ p.r∧okP S p.π p.t (p.r,[])∧a.eval o=S.hv (p.r,p.π):=by
 cases o with
 |const v=>simp[look,Opd.splace]at hp
 |func f=>simp[look,Opd.splace]at hp
 |global g=>simp[look,Opd.splace]at hp
 |tmp t=>
  simp only[look,Opd.splace]at hp
  split at hp
  ·rename_i u e m x he
   cases hp
   obtain⟨⟨_,_,h0,_⟩,_⟩:=h.slot he
   have:zab (.slice u) (tmv a t) 0=some (tmv a t):=by simp[zab,Ty.agg]
   rw[this]at h0
   exact⟨he,rfl,trivial,by rw[zbb];exact xbo h0⟩
  ·rename_i r π s he
   have hr:zdl σ (σ t).e=σ r:=by rw[he];rfl
   rw[hr]at hp
   split at hp
   ·rename_i tr mr xr hroot
    split at hp
    ·rename_i hg
     cases hp
     obtain⟨_,h2⟩:=(h.ent t).view he
     obtain⟨h3,h4⟩:=h2 tr mr xr hroot hg
     exact⟨hroot,rfl,h3,by rw[zbb,h4]⟩
    ·cases hp
   ·cases hp
  ·cases hp
def InvOf.hdr(h:InvOf P c σ a S){r:Nat}{u:Ty}{e:TypeId}{m:Md}{x:List u.den}(he:(σ r).e=.v (.slice u) (.own e m) x):tmv a r=S.hv (r,[]):=by
 obtain⟨⟨_,_,h0,_⟩,_⟩:=h.slot he
 have:zab (.slice u) (tmv a r) 0=some (tmv a r):=by simp[zab,Ty.agg]
 grind
def InvOf.val(h:InvOf P c σ a S){o:Operand}{t:Ty}{m:Md}{x:t.den}(hv:(look σ o).val t=some (m,x)):∃p,SR P t S m p x (a.eval o):=by
 cases o with
 |const v=>
  simp only[look,Opd.val,xad,xba]at hv
  obtain⟨y,h1,rfl,rfl⟩:=hv
  exact⟨(0,[]),zcx h1⟩
 |func f=>simp[look,Opd.val]at hv
 |global g=>simp[look,Opd.val]at hv
 |tmp s=>
  simp only[look,Opd.val]at hv
  split at hv
  ·rename_i t' m' x' he
   simp only[xad,xba]at hv
   obtain⟨y,h1,rfl,rfl⟩:=hv
   have:=TV.to_some h1
   cases this
   exact⟨_,h.slot he⟩
  ·rename_i r π s' he
   have hr:zdl σ (σ s).e=σ r:=by rw[he];rfl
   rw[hr]at hv
   split at hv
   ·rename_i tr mr xr hroot
    split at hv
    ·rename_i hg
     split at hv
     ·rename_i e k y hm hgp
      simp only[xad,xba]at hv
      obtain⟨z,h1,rfl,rfl⟩:=hv
      have:=TV.to_some h1
      subst this
      obtain⟨_,h2⟩:=(h.ent s).view he
      obtain⟨h3,h4⟩:=h2 tr mr xr hroot hg.1
      obtain⟨u,y,l,cs',h5,h6,h7,h8⟩:=Rel.at (h.slot hroot).1 hm h3
      rw[hgp]at h5
      cases h5
      rw[zbh]at h7
      refine⟨(r,π),?_⟩
      rw[zbb,h4]
      cases t<;>first | (have:=hg.2;cases this;done) | skip
      refine⟨h7.mono (q:=true) (.inl rfl) ⟨fun _ h=>h,fun _ _=>rfl,fun _ _ h=>.inr h,fun _ _ _=>rfl,fun _=>rfl,fun _ _ h=>⟨h,rfl⟩⟩ fun i hi=>?_,fun h=>by cases h⟩
      have:i=0:=by simp only[Ty.size]at hi;omega
      subst this
      rw[h7.2.2.1]
      rfl
     ·cases hv
    ·cases hv
   ·cases hv
  ·cases hv
end
set_option linter.unusedSimpArgs false
set_option linter.unusedVariables false
def Ty.flat:Ty→Bool
 | .int _ | .bool | .str | .unit | .nilI=>true
 | .pair a b=>a.flat&&b.flat
 | .arr _ t=>t.flat
 | .alt _ a b=>a.flat&&b.flat
 |_=>false
def nm(t:Ty)(m:Md):Md:=if t.flat&&live t m then .sh else m
def ires(k:IntKind)(n:Int):TV:=⟨.int k,k.wrap n⟩
def bres(b:Bool):TV:=⟨.bool,b⟩
def iop(op:BinOp)(k:IntKind)(x y:Int):Option (Bool×TV):=
 match op with
 | .add=>some (true,ires k (x+y))
 | .sub=>some (true,ires k (x-y))
 | .mul=>some (true,ires k (x*y))
 | .quo=>some (!decide (y=0),ires k (x.tdiv y))
 | .rem=>some (!decide (y=0),ires k (x.tmod y))
 | .and=>some (true,ires k (BitVec.ofInt k.bits x&&&BitVec.ofInt k.bits y).toNat)
 | .or=>some (true,ires k (BitVec.ofInt k.bits x|||BitVec.ofInt k.bits y).toNat)
 | .xor=>some (true,ires k (BitVec.ofInt k.bits x ^^^ BitVec.ofInt k.bits y).toNat)
 | .andNot=>some (true,ires k (BitVec.ofInt k.bits x&&& ~~~(BitVec.ofInt k.bits y)).toNat)
 | .eql=>some (true,bres (decide (x=y)))
 | .neq=>some (true,bres (!decide (x=y)))
 | .lss=>some (true,bres (decide (x<y)))
 | .leq=>some (true,bres (decide (x≤y)))
 | .gtr=>some (true,bres (decide (y<x)))
 | .geq=>some (true,bres (decide (y≤x)))
 |_=>none
def bin2(op:BinOp)(a b:TV):Option (Bool×TV):=
 match a,b with
 |⟨.int k,x⟩,⟨.int k',y⟩=>match op with
  | .shl=>some (decide (0≤(y:Int)),ires k ((x:Int)*2^(min (y:Int).toNat k.bits)))
  | .shr=>some (decide (0≤(y:Int)),ires k ((x:Int).fdiv (2^(min (y:Int).toNat k.bits))))
  |op=>if k=k' then iop op k x y else none
 |⟨.bool,x⟩,⟨.bool,y⟩=>match op with
  | .eql=>some (true,bres ((x:Bool) == y))
  | .neq=>some (true,bres (!((x:Bool) == y)))
  |_=>none
 |⟨.str,x⟩,⟨.str,y⟩=>match op with
  | .eql=>some (true,bres (decide ((x:List Int)=y)))
  | .neq=>some (true,bres (!decide ((x:List Int)=y)))
  |_=>none
 |_,_=>none
def eqTV:Nat→(a b:Ty)→a.den→b.den→Option Bool
 | 1,.pair (.int k) .unit,.pair (.int k') .unit,x,y=>if k=k' then some (decide ((x.1:Int)=y.1))else none
 | 2,.pair (.int k) (.int l),.pair (.int k') (.int l'),x,y=>if k=k'∧l=l' then some (decide ((x.1:Int)=y.1)&&decide ((x.2:Int)=y.2))else none
 |n+3,.pair (.int k) b,.pair (.int k') b',x,y=>if k=k' then(eqTV (n+2) b b' x.2 y.2).map fun r=>decide ((x.1:Int)=y.1)&&r else none
 |_,_,_,_,_=>none
def eqS(i:TyI)(op:BinOp)(a b:Ty)(m m':Md)(u:a.den)(v:b.den):Option Bool:=
 match op,i.k with
 | .eql,.struct offs=>if i.eqs=true∧(m=.sh∨m=.bw)∧(m'=.sh∨m'=.bw)then eqTV offs.length a b u v else none
 |_,_=>none
def un1(op:UnOp)(a:TV):Option TV:=
 match op,a with
 | .not,⟨.bool,b⟩=>some (bres !b)
 | .neg,⟨.int k,n⟩=>some (ires k (0-(n:Int)))
 | .xor,⟨.int k,n⟩=>some (ires k (BitVec.ofInt k.bits (if k.signed then -1 else k.max) ^^^ BitVec.ofInt k.bits (n:Int)).toNat)
 |_,_=>none
section
variable {P:Program}
def wrap_wrap(k:IntKind)(n:Int):k.wrap (k.wrap n)=k.wrap n:=by
 cases k<;>simp only[IntKind.wrap,IntKind.bits,IntKind.signed]<;>simp<;>(repeat' split)<;>omega
def zlf(k:IntKind){n:Int}(h:k.wrap n=n):k.min≤n∧n≤k.max:=by
 cases k<;>simp only[IntKind.wrap,IntKind.bits,IntKind.signed,IntKind.min,IntKind.max]at h⊢ <;>simp at h⊢ <;>(repeat' split at h)<;>omega
def zhg(k:IntKind){n:Int}(h0:k.min≤n)(h1:n≤k.max):k.wrap n=n:=by
 cases k<;>simp only[IntKind.wrap,IntKind.bits,IntKind.signed,IntKind.min,IntKind.max]at h0 h1⊢ <;>simp at h0 h1⊢ <;>(repeat' split)<;>omega
def SR.int_inv{k:IntKind}{S:St}{m:Md}{p:Place}{x:Int}{v:Value}(h:SR P (.int k) S m p x v)(hm:m≠ .dead):v=.int k x∧k.wrap x=x:=by
 have h1:zab (.int k) v 0=some (.int k x)∧k.wrap x=x:=by cases m<;>first | exact absurd rfl hm | exact h.1
 simpa[zab,Ty.agg]using h1
def SR.bool_inv{S:St}{m:Md}{p:Place}{x:Bool}{v:Value}(h:SR P .bool S m p x v)(hm:m≠ .dead):v=.bool x:=by
 have h1:zab .bool v 0=some (.bool x):=by cases m<;>first | exact absurd rfl hm | exact h.1
 simpa[zab,Ty.agg]using h1
def SR.str_inv{S:St}{m:Md}{p:Place}{x:List Int}{v:Value}(h:SR P .str S m p x v)(hm:m≠ .dead):∃s:ByteArray,v=.string s∧s.data.toList.map (fun c=>(c.toNat:Int))=x∧x.length≤maxL:=by
 have h1:∃s:ByteArray,zab .str v 0=some (.string s)∧s.data.toList.map (fun c=>(c.toNat:Int))=x∧x.length≤maxL:=by cases m<;>first | exact absurd rfl hm | exact h.1
 obtain⟨s,h2,h3⟩:=h1
 exact⟨s,by simpa[zab,Ty.agg]using h2,h3⟩
def SR.of_int{k:IntKind}{S:St}{p:Place}(n:Int):SR P (.int k) S .sh p (k.wrap n) (.int k (k.wrap n)):=⟨⟨by simp[zab,Ty.agg],wrap_wrap k n⟩,fun h=>by cases h⟩
def SR.of_int'{k:IntKind}{S:St}{p:Place}{n:Int}(h:k.wrap n=n):SR P (.int k) S .sh p n (.int k n):=⟨⟨by simp[zab,Ty.agg],h⟩,fun h=>by cases h⟩
def SR.of_bool{S:St}{p:Place}(b:Bool):SR P .bool S .sh p b (.bool b):=⟨by show zab .bool _ 0=_;simp[zab,Ty.agg],fun h=>by cases h⟩
def Stands(P:Program)(S:St)(y:TV)(v:Value):Prop:=∀p,SR P y.t S .sh p y.x v
def zdy(P:Program)(S:St)(k:IntKind)(n:Int):Stands P S (ires k n) (.int k (k.wrap n)):=fun _=>SR.of_int n
def zcl(P:Program)(S:St)(b:Bool):Stands P S (bres b) (.bool b):=fun _=>SR.of_bool b
def tmod_wrap(k:IntKind)(x y:Int)(h:k.wrap x=x):k.wrap (x.tmod y)=x.tmod y:=by
 obtain⟨h0,h1⟩:=zlf k h
 have hm:(x.tmod y).natAbs≤x.natAbs:=by
  rw[Int.natAbs_tmod];exact Nat.mod_le _ _
 have hs:0≤x→0≤x.tmod y:=fun h=>Int.tmod_nonneg _ h
 have hs':x≤0→x.tmod y≤0:=fun h=>by
  have:=Int.tmod_nonneg (a:=-x) y (by omega)
  simp_all
 have hmin:k.min≤0:=by cases k<;>simp[IntKind.min,IntKind.signed,IntKind.bits]
 have hmax:0≤k.max:=by cases k<;>simp[IntKind.max,IntKind.signed,IntKind.bits]
 refine zhg k ?_ ?_
 ·grind
 ·grind
def fdiv_wrap(k:IntKind)(x:Int)(n:Nat)(h:k.wrap x=x):k.wrap (x.fdiv (2^n))=x.fdiv (2^n):=by
 obtain⟨h0,h1⟩:=zlf k h
 have hp:(0:Int)<2^n:=Int.pow_pos (by omega)
 have hmin:k.min≤0:=by cases k<;>simp[IntKind.min,IntKind.signed,IntKind.bits]
 have hmax:0≤k.max:=by cases k<;>simp[IntKind.max,IntKind.signed,IntKind.bits]
 rw[xiv _ (Int.le_of_lt hp)]
 have h2:=Int.mul_ediv_add_emod x (2^n)
 have h3:=xha x (Int.ne_of_gt hp)
 have h4:=xge x hp
 generalize x/2^n=q at *
 generalize(2:Int)^n=p at *
 have hpq:∀(q:Int),0≤q→q≤p*q:=fun q hq=>by
  have:=Int.mul_le_mul_of_nonneg_right (show(1:Int)≤p from hp) hq
  omega
 refine zhg k ?_ ?_
 ·rcases Int.le_total 0 q with h|h
  ·omega
  ·have h5:=hpq (-q) (by omega)
   rw[Int.mul_neg]at h5
   rcases Int.le_total 0 x with hx|hx
   ·have hq:¬q<0:=fun h6=>by
     have:=hpq (-q-1) (by omega)
     grind
    grind
   ·have:q<0∨q=0:=by omega
    rcases this with h6|h6
    ·have:=hpq (-q-1) (by omega)
     grind
    ·omega
 ·rcases Int.le_total 0 q with h|h
  ·grind
  ·omega
def zlc{S:St}{k:IntKind}{n:Int}(h:k.wrap n=n):Stands P S (ires k n) (.int k n):=fun p=>by
 have:=SR.of_int (P:=P) (S:=S) (p:=p) (k:=k) n
 rw[h]at this
 show SR P (.int k) S .sh p (k.wrap n) (.int k n)
 rw[h]
 exact this
def run_iop{S:St}{op:BinOp}{k:IntKind}{x y:Int}{ob:Bool}{z:TV}(h:iop op k x y=some (ob,z))(hob:ob=true)(hx:k.wrap x=x)(t:TypeId)(w:World) :
  ∃v,(binOp op t (.int k x) (.int k y)).run P w=.ok v w∧Stands P S z v:=by
 unfold iop at h
 split at h<;>first|(cases h;done)|(simp only[xat,xba]at h;obtain⟨rfl,rfl⟩:=h)
 ·exact⟨_,by simp[binOp,Op.intArith],zdy P S k _⟩
 ·exact⟨_,by simp[binOp,Op.intArith],zdy P S k _⟩
 ·exact⟨_,by simp[binOp,Op.intArith],zdy P S k _⟩
 ·have hy:y≠0:=by simpa using hob
  exact⟨_,by simp[binOp,Op.intDiv,hy]<;>rfl,zdy P S k _⟩
 ·have hy:y≠0:=by simpa using hob
  exact⟨.int k (x.tmod y),by simp[binOp,Op.intDiv,hy],zlc (tmod_wrap k x y hx)⟩
 ·exact⟨_,by simp[binOp,Op.intBits]<;>rfl,zdy P S k _⟩
 ·exact⟨_,by simp[binOp,Op.intBits]<;>rfl,zdy P S k _⟩
 ·exact⟨_,by simp[binOp,Op.intBits]<;>rfl,zdy P S k _⟩
 ·exact⟨_,by simp[binOp,Op.intBits]<;>rfl,zdy P S k _⟩
 ·exact⟨.bool (decide (x=y)),by simp[binOp,Op.intCmp]<;>rfl,zcl P S _⟩
 ·exact⟨.bool (!decide (x=y)),by simp[binOp,Op.intCmp]<;>rfl,zcl P S _⟩
 ·exact⟨.bool (decide (x<y)),by simp[binOp,Op.intCmp],zcl P S _⟩
 ·exact⟨.bool (decide (x≤y)),by simp[binOp,Op.intCmp],zcl P S _⟩
 ·exact⟨.bool (decide (y<x)),by simp[binOp,Op.intCmp],zcl P S _⟩
 ·exact⟨.bool (decide (y≤x)),by simp[binOp,Op.intCmp],zcl P S _⟩
def zgz{n:Nat}{t:Ty}{fs:List Ty}(h:flds n t=some fs):∃a b,t=.pair a b:=by
 cases t<;>first | exact⟨_,_,rfl⟩ | (exfalso;match n,h with
  | 0,h=>simp[flds]at h
  | 1,h=>simp[flds]at h
  | 2,h=>simp[flds]at h
  |n+3,h=>simp[flds]at h)
def kindOK_bool{T:Tab}{k:TyK}(h:zfr T k .bool=true):k=.bool:=by
 cases k<;>simp only[zfr]at h<;>first | rfl | (cases h;done) | skip
 split at h
 ·rename_i hf;obtain⟨a,b,h⟩:=zgz hf;cases h
 ·cases h
def zod{T:Tab}{k:TyK}(h:zfr T k .str=true):k=.string:=by
 cases k<;>simp only[zfr]at h<;>first | rfl | (cases h;done) | skip
 split at h
 ·rename_i hf;obtain⟨a,b,h⟩:=zgz hf;cases h
 ·cases h
def zoe{T:Tab}{k:TyK}{ik:IntKind}(h:zfr T k (.int ik)=true):k=.int ik:=by
 cases k<;>simp only[zfr]at h<;>first | (rw[xbl h];done) | (cases h;done) | skip
 split at h
 ·rename_i hf;obtain⟨a,b,h⟩:=zgz hf;cases h
 ·cases h
def zcy{T:Tab}{k:TyK}{s:Ty}(h:zfr T k (.slice s)=true):∃e i,k=.slice e∧tl T e=some (i,s)∧0<s.size:=by
 cases k<;>simp only[zfr]at h<;>first | (cases h;done) | skip
 ·grind
 ·split at h
  ·rename_i hf;obtain⟨a,b,h⟩:=zgz hf;cases h
  ·cases h
def zuh{T:Tab}{k:TyK}{n:Nat}{s:Ty}(h:zfr T k (.arr n s)=true):∃e i,k=.array n e∧tl T e=some (i,s):=by
 cases k<;>simp only[zfr]at h<;>first | (cases h;done) | skip
 ·grind
 ·split at h
  ·rename_i hf;obtain⟨a,b,h⟩:=zgz hf;cases h
  ·cases h
def zey{T:Tab}{t:Ty}{offs:List (Nat×Nat)}(h:zfr T (.struct offs) t=true):∃fs,flds offs.length t=some fs∧offs=zex 0 fs:=by
 simp only[zfr]at h
 grind
def TabOK.kind{T:Tab}(hT:TabOK P T){id:TypeId}{i:TyI}{t:Ty}(h:tl T id=some (i,t)):ty P id=some i∧i.size=t.size∧i.agg=t.agg∧zfr T i.k t=true:=by
 obtain⟨h1,h2⟩:=hT id i t h
 simp only[agree,xan,xam]at h2
 grind
def u8_inj{x y:ByteArray}:(x.data.toList=y.data.toList)↔(x.data.toList.map (fun c=>(c.toNat:Int))=y.data.toList.map (fun c=>(c.toNat:Int))):=by
 refine⟨fun h=>by rw[h],fun h=>?_⟩
 have:∀(l m:List UInt8),l.map (fun c=>(c.toNat:Int))=m.map (fun c=>(c.toNat:Int))→l=m:=by
  intro l
  induction l with
  |nil=>intro m h;cases m<;>simp at h ⊢
  |cons a l ih=>
   intro m h
   cases m with
   |nil=>simp at h
   |cons b m=>
    simp at h
    rw[ih m h.2]
    have:a.toNat=b.toNat:=by omega
    rw[UInt8.toNat_inj.1 this]
 exact this _ _ h
def run_bin2{S:St}{op:BinOp}{t:TypeId}{x y z:TV}{m m':Md}{p p':Place}{u v:Value}{ob:Bool}{tt:Tab}(hT:TabOK P tt){i:TyI}(ht:tl tt t=some (i,x.t))(hx:SR P x.t S m p x.x u)(hy:SR P y.t S m' p' y.x v)(hm:m≠ .dead)(hm':m'≠ .dead)
  (h:bin2 op x y=some (ob,z)) (hob:ob=true) (a b:Operand) (w:World) :
  ∃r,(do eqGuard op t a b u v;binOp op t u v:Sem Value).run P w=.ok r w∧Stands P S z r:=by
 have hty:=hT t i x.t ht
 obtain⟨j,d,hi,hd,hz,hs,hb,hk⟩:=zax hty.1
 have hkind:zfr tt i.k x.t=true:=by
  have:=hty.2
  simp only[agree,xan]at this
  exact this.2
 have guard:∀{u v:Value},u≠ .nilIface→(∀cs,u≠ .agg cs)→(eqGuard op t a b u v).run P w=.ok () w:=fun{u v} hu hv=>by
  unfold eqGuard
  simp_all
 unfold bin2 at h
 split at h
 ·rename_i k xx k' yy
  obtain⟨rfl,hwx⟩:=hx.int_inv hm
  obtain⟨rfl,hwy⟩:=hy.int_inv hm'
  simp only[Sem.run_bind,guard (show Value.int k xx≠ .nilIface from by simp) (by simp),Result.andThen_ok]
  split at h
  ·simp at h
   obtain⟨rfl,rfl⟩:=h
   have hy0:¬(yy:Int)<0:=Int.not_lt.2 (by simpa using hob)
   exact⟨_,by simp[binOp,Op.shift,hy0]<;>rfl,zdy P S k _⟩
  ·simp at h
   obtain⟨rfl,rfl⟩:=h
   have hy0:¬(yy:Int)<0:=Int.not_lt.2 (by simpa using hob)
   exact⟨_,by simp[binOp,Op.shift,hy0]<;>rfl,zlc (fdiv_wrap k _ _ hwx)⟩
  ·split at h
   ·rename_i hk
    subst hk
    exact run_iop h hob hwx t w
   ·cases h
 ·rename_i xx yy
  have:=hx.bool_inv hm
  subst this
  have:=hy.bool_inv hm'
  subst this
  simp
  have hbool:d=.bool:=tyK_bool (by rw[←kindOK_bool hkind];exact hk)
  subst hbool
  split at h<;>first|(cases h;done)|(simp_all;obtain⟨rfl,rfl⟩:=h)
  ·exact⟨_,run_eql_bool (P:=P) w t _ _ hd,zcl P S _⟩
  ·exact⟨_,run_neq_bool (P:=P) w t _ _ hd,zcl P S _⟩
 ·rename_i xx yy
  obtain⟨s,rfl,h1,_⟩:=hx.str_inv hm
  obtain⟨s',rfl,h2,_⟩:=hy.str_inv hm'
  simp
  have he:(s.toList == s'.toList)=decide ((xx:List Int)=yy):=by
   rw[xff,beq_iff_eq,xgc,ByteArray.toList_eq,ByteArray.toList_eq,u8_inj,h1,h2]
  split at h<;>first|(cases h;done)|(simp_all;obtain⟨rfl,rfl⟩:=h)
  ·exact⟨_,by rw[binOp_string_eql];rfl,by rw[he];exact zcl P S _⟩
  ·exact⟨_,by rw[binOp_string_neq];rfl,by rw[he];exact zcl P S _⟩
 ·cases h
end
def zvj(c:Slot)(t:Ty)(π:List Nat):Nat:=if zix π t then c.h else c.g
def Pl.deref(p:Pl)(u:Ty):Option Ent:=
 match zbe p.π p.t p.m,getP p.π p.t p.x with
 |some k,some y=>if y.t=u then
   if k.noown then some (.v y.t (nm y.t k) y.x)else
   match y.t,k with
   | .slice _,.own _ _=>some (.view p.r p.π p.c.h)
   | .ptr _,.own _ _=>some (.ref p.r (p.π++[0]) (zvj p.c p.t (p.π++[0])))
   |_,_=>none else none
 |_,_=>none
def Opd.ro:Opd→Option TM
 | .slot _ c _=>match c.e with
  | .v (.ptr u) .sh x=>some ⟨u,.sh,x⟩
  | .v (.ptr u) .bw x=>some ⟨u,.bw,x⟩
  |_=>none
 |_=>none
def zim(T:Tab)(ty:TypeId)(o:Opd):Option Ent:=
 match o with
 | .con v=>match tl T ty with
  |some (_,t)=>(cval t v).map fun x=>.v t .sh x
  |none=>none
 | .slot s c _=>match c.e with
  | .v t m x=>if m.noown then some (.v t m x)else match t,m with
   | .slice _,.own _ _=>some (.view s [] c.h)
   | .ptr _,.own _ _=>some (.ref s [0] c.g)
   |_,_=>none
  | .ref r π s=>some (.ref r π s)
  | .view r π s=>some (.view r π s)
  | .clo f caps=>some (.clo f caps)
  |_=>none
 | .fn f=>some (.clo f [])
 | .bad=>none
def Opd.ival:Opd→Option (IntKind×Int)
 | .con (.int k n)=>if k.wrap n=n then some (k,n)else none
 | .slot _ c _=>match c.e with
  | .v (.int k) .sh n=>some (k,n)
  | .v (.int k) .bw n=>some (k,n)
  |_=>none
 |_=>none
def zkd(T:Tab)(s f:Nat)(o:Opd):Option Ent:=
 match tl T s with
 |some (i,ts)=>match i.k with
  | .struct offs=>match offs[f]?,zjj offs.length f with
   |some (_,sz),some ρ=>if sz=0 then none else
    match o.place with
    |some p=>match getP p.π p.t p.x with
     |some y=>if y.t=ts then some (.ref p.r (p.π++ρ) (zvj p.c p.t (p.π++ρ)))else none
     |none=>none
    |none=>match o.ro with
     |some e=>if e.t=ts then match getP ρ e.t e.x with
      |some y=>some (.v (.ptr y.t) e.m y.x)
      |none=>none else none
     |none=>none
   |_,_=>none
  |_=>none
 |none=>none
def fieldV(T:Tab)(s f:Nat)(o:Opd):Option Ent:=
 match tl T s with
 |some (i,ts)=>match i.k with
  | .struct offs=>match offs[f]?,zjj offs.length f,i.fa[f]? with
   |some (_,_),some ρ,some (some g)=>match o.val ts with
    |some (m,x)=>if m=.sh∨m=.bw then match getP ρ ts x with
     |some y=>if y.t.agg=g then some (.v y.t m y.x)else none
     |none=>none else none
    |none=>none
   |_,_,_=>none
  |_=>none
 |none=>none
def indexV(T:Tab)(t:Nat)(o:Opd)(ix:Opd):Option (Bool×Ent):=
 match tl T t,ix.ival with
 |some (_,.arr n u),some (_,i)=>match o.val (.arr n u)with
  |some (m,xs)=>if m=.sh∨m=.bw then some (decide (0≤i)&&decide (i<(n:Int)),.v u m (xs.getD i.toNat u.dflt))else none
  |none=>none
 |_,_=>none
def indexE(T:Tab)(t:Nat)(o:Opd)(ix:Opd):Option (Bool×Ent):=
 match tl T t,ix.ival with
 |some (_,.slice u),some (_,i)=>match o.splace with
  |some p=>match zbe p.π p.t p.m,getP p.π p.t p.x with
   |some (.own _ _),some ⟨.slice u',xs⟩=>if u'=u then some (decide (0≤i)&&decide (i<(xs.length:Int)),.ref p.r (p.π++[i.toNat]) (zvj p.c p.t (p.π++[i.toNat])))else none
   |_,_=>none
  |none=>match o.val (.slice u)with
   |some (.sh,xs)=>some (decide (0≤i)&&decide (i<(xs.length:Int)),.v (.ptr u) .sh (xs.getD i.toNat u.dflt))
   |some (.bw,xs)=>some (decide (0≤i)&&decide (i<(xs.length:Int)),.v (.ptr u) .bw (xs.getD i.toNat u.dflt))
   |_=>none
 |some (_,.arr n u),some (_,i)=>match o.place with
  |some p=>match getP p.π p.t p.x with
   |some y=>if y.t=.arr n u then some (decide (0≤i)&&decide (i<(n:Int)),.ref p.r (p.π++[i.toNat]) (zvj p.c p.t (p.π++[i.toNat])))else none
   |none=>none
  |none=>match o.ro with
   |some ⟨.arr n' u',m,xs⟩=>if n'=n∧u'=u then some (decide (0≤i)&&decide (i<(n:Int)),.v (.ptr u') m (xs.getD i.toNat u'.dflt))else none
   |_=>none
 |_,_=>none
def loadE(T:Tab)(t:Nat)(o:Opd):Option Ent:=
 match tl T t with
 |some (_,u)=>match o.place with
  |some p=>p.deref u
  |none=>match o.ro with
   |some e=>if e.t=u then some (.v e.t (nm e.t e.m) e.x)else none
   |none=>none
 |none=>none
def lenE(T:Tab)(t:Nat)(o:Opd):Option Ent:=
 match tl T t with
 |some (_,.slice u)=>match o.val (.slice u)with
  |some (m,xs)=>if m=.dead then none else some (.v (.int .i64) .sh (xs.length:Int))
  |none=>none
 |some (_,.str)=>match o.val .str with
  |some (m,x)=>if m=.dead then none else some (.v (.int .i64) .sh ((x:List Int).length:Int))
  |none=>none
 |_=>none
def zif(T:Tab)(o:Oper)(l:Operand→Opd):Option (Bool×Ent):=
 match o.op with
 | .move x=>(zim T o.type (l x)).map fun e=>(true,e)
 | .binOp op t x y t'=>match tl T t,tl T t' with
  |some (i,a),some (_,b)=>match(l x).val a,(l y).val b with
   |some (m,u),some (m',v)=>if m=.dead∨m'=.dead then none else match eqS i op a b m m' u v with
    |some r=>some (true,.v .bool .sh r)
    |none=>(bin2 op ⟨a,u⟩ ⟨b,v⟩).map fun q=>(q.1,.v q.2.t .sh q.2.x)
   |_,_=>none
  |_,_=>none
 | .unOp op t x=>match tl T t with
  |some (_,a)=>match(l x).val a with
   |some (m,u)=>if m=.dead then none else(un1 op ⟨a,u⟩).map fun q=>(true,.v q.t .sh q.x)
   |none=>none
  |none=>none
 | .convert s d x=>match tl T s,tl T d with
  |some (_,.int k),some (_,.int k')=>match(l x).val (.int k)with
   |some (m,n)=>if m=.dead then none else some (true,.v (.int k') .sh (k'.wrap n))
   |none=>none
  |_,_=>none
 | .fieldAddr s x f=>(zkd T s f (l x)).map fun e=>(true,e)
 | .indexAddr t x i=>indexE T t (l x) (l i)
 | .field s x f=>(fieldV T s f (l x)).map fun e=>(true,e)
 | .index t x i=>indexV T t (l x) (l i)
 | .load t x=>(loadE T t (l x)).map fun e=>(true,e)
 | .call {callee:=.builtin .len,args:=⟨[x]⟩,argTypes:=⟨[t]⟩}=>(lenE T t (l x)).map fun e=>(true,e)
 | .call {callee:=.builtin .min,args:=⟨[x,y]⟩,argTypes:=_}=>match(l x).ival,(l y).ival with
  |some (k,u),some (k',v)=>if k=k' then some (true,.v (.int k) .sh (bif decide (v<u)then v else u))else none
  |_,_=>none
 | .call {callee:=.builtin .max,args:=⟨[x,y]⟩,argTypes:=_}=>match(l x).ival,(l y).ival with
  |some (k,u),some (k',v)=>if k=k' then some (true,.v (.int k) .sh (bif decide (v>u)then v else u))else none
  |_,_=>none
 |_=>none
def zje(P:Program)(S:St)(σ:Env)(e:Ent)(v:Value):Prop:=
 match e with
 | .v t m x=>m.noown=true∧∃p,SR P t S m p x v
 | .ref r π s=>RefOK S σ r π s v
 | .view r π s=>ViewOK S σ r π s v
 | .tail r s lo=>TailOK S σ r s lo v
 | .clo f caps=>∃ps:List Value,v=.func (.func f) #[] ps.toArray∧ps.length=caps.length∧∀(k:Nat) (c:Cap),caps[k]?=some c→∃u,ps[k]?=some u∧CapOK P S σ u c
 | .mth nm e=>∃u,v=.func (.method nm) #[u] #[]∧SR P e.t S .bw (0,[]) e.x u
 | .dead=>True
 |_=>False
section
variable {P:Program} {c:Ctx} {σ:Env} {a:Act} {S:St}
def InvOf.putE(h:InvOf P c σ a S){d:Nat}(hd:d<c.N){e:Ent}{v:Value}(he:zje P S σ e v):InvOf P c (set1 σ d e 0) (a.put (some d) v) S:=by
 cases e with
 |v t m x=>
  obtain⟨hm,p,hs⟩:=he
  exact h.putv hd (hs.free hm (.refl S))
 |ref r π s=>exact h.putref hd he
 |view r π s=>exact h.putview hd he
 |tail r s lo=>exact h.puttail hd he
 |clo f caps=>
  refine h.put (.refl _) rfl rfl hd (fun _ _ _=>rfl) (fun _=>.inl rfl) ?_
  unfold SlotOK
  rw[zbi]
  obtain⟨ps,h1,h2,h3⟩:=he
  refine⟨ps,by rw[zai (by rw[h.size];exact hd)];exact h1,h2,fun k c hk=>?_⟩
  obtain⟨u,h4,h5⟩:=h3 k c hk
  refine⟨u,h4,?_⟩
  cases c with
  |ref r π s=>
   refine RefOK.keep h5 ?_
   by_cases hrd:r=d
   ·subst hrd
    exact⟨by rw[zah];exact xak _,.inl (by rw[zah];exact xct _)⟩
   ·exact .refl (h.gens r) (zan σ _ _ hrd) fun _=>rfl
  |val e=>exact h5
 |tup es=>exact he.elim
 |skip=>exact he.elim
 |mth nm e=>
  refine h.put (.refl _) rfl rfl hd (fun _ _ _=>rfl) (fun _=>.inl rfl) ?_
  unfold SlotOK
  rw[zbi]
  obtain⟨u,h1,h2⟩:=he
  exact⟨u,by rw[zai (by rw[h.size];exact hd)];exact h1,h2⟩
 |dead=>
  refine h.put (.refl _) rfl rfl hd (fun _ _ _=>rfl) (fun _=>.inl rfl) ?_
  unfold SlotOK
  rw[zbi]
  trivial
def InvOf.refTo(h:InvOf P c σ a S){r:Nat}{t:Ty}{m:Md}{x:t.den}{π q:List Nat}{o b:Nat}(hr:(σ r).e=.v t m x)(hl:locP π t=some (some q,o))(ho:okP S π t (r,[]))(hb:hvB (S.hv (r,q))=some b) :
  RefOK S σ r π (zvj (σ r) t π) (.pointer (some ⟨b,o,none⟩)):=by
 refine⟨?_,fun t' m' x' hr' _=>?_⟩
 ·unfold zvj;split
  ·exact xak _
  ·exact h.gens r
 ·grind
def InvOf.viewTo(h:InvOf P c σ a S){r:Nat}{t:Ty}{m:Md}{x:t.den}{π:List Nat}(hr:(σ r).e=.v t m x)(ho:okP S π t (r,[])):ViewOK S σ r π (σ r).h (S.hv (r,π)):=
 ⟨xak _,fun t' m' x' hr' _=>by rw[hr]at hr';cases hr';exact⟨ho,rfl⟩⟩
def zmg{t:Ty}{m:Md}{p:Place}{x:t.den}{v:Value}(h:SR P t S m p x v):SR P t S (nm t m) p x v:=by
 have key:∀(t:Ty) (m:Md),t.flat=true→live t m=true→leM t m .sh=true:=by
  intro t
  induction t with
  |pair a b iha ihb=>
   intro m hf hl
   simp only[Ty.flat,xan]at hf
   simp only[live,xan]at hl
   simp only[leM,xan]
   exact⟨iha _ hf.1 hl.1,ihb _ hf.2 hl.2⟩
  |arr n t ih=>intro m hf hl;exact ih m hf hl
  |alt tid a b iha ihb=>
   intro m hf hl
   simp only[Ty.flat,xan]at hf
   cases m<;>first | (cases hl;done) | (simp only[live,xan]at hl;simp only[leM,xan];exact⟨iha _ hf.1 hl.1,ihb _ hf.2 hl.2⟩)
  |slice t=>intro m hf;cases hf
  |ptr t=>intro m hf;cases hf
  |fn1=>intro m hf;cases hf
  |fn2=>intro m hf;cases hf
  |_=>intro m hf hl;cases m<;>first | rfl | (cases hl;done)
 unfold nm
 split
 ·rename_i hc
  simp_all
  exact⟨h.1.weaken (key t m hc.1 hc.2),h.2⟩
 ·exact h
def zmh{t:Ty}{m:Md}(h:m.noown=true):(nm t m).noown=true:=by
 unfold nm;split
 ·rfl
 ·exact h
def InvOf.ival(h:InvOf P c σ a S){o:Operand}{k:IntKind}{n:Int}(hv:(look σ o).ival=some (k,n)):a.eval o=.int k n∧k.wrap n=n:=by
 cases o with
 |const v=>
  simp only[look]at hv
  cases v<;>simp only[Opd.ival]at hv<;>first | (cases hv;done) | skip
  split at hv
  ·rename_i hw;cases hv;exact⟨rfl,hw⟩
  ·cases hv
 |func f=>simp[look,Opd.ival]at hv
 |global g=>simp[look,Opd.ival]at hv
 |tmp t=>
  simp only[look,Opd.ival]at hv
  split at hv
  ·rename_i k' n' he
   cases hv
   exact(h.slot he).int_inv (by simp)
  ·rename_i k' n' he
   cases hv
   exact(h.slot he).int_inv (by simp)
  ·cases hv
def InvOf.ro(h:InvOf P c σ a S){o:Operand}{e:TM}(hv:(look σ o).ro=some e):(e.m=.sh∨e.m=.bw)∧∃b off,a.eval o=.pointer (some ⟨b,off,none⟩)∧(e.t.size≠0→S.G e.m b)∧∃p,Rel P e.t S e.m p e.x (blk S.w b off):=by
 cases o with
 |const v=>simp[look,Opd.ro]at hv
 |func f=>simp[look,Opd.ro]at hv
 |global g=>simp[look,Opd.ro]at hv
 |tmp t=>
  simp only[look,Opd.ro]at hv
  have hc:∀{u:Ty},zab (.ptr u) (tmv a t) 0=some (tmv a t):=fun{u}=>by simp[zab,Ty.agg]
  split at hv
  ·rename_i u x he
   cases hv
   obtain⟨⟨b,o,h1,h2,h3⟩,_⟩:=h.slot he
   rw[hc]at h1
   exact⟨.inl rfl,b,o,xbo h1,h2,_,h3⟩
  ·rename_i u x he
   cases hv
   obtain⟨⟨b,o,h1,h2,h3⟩,_⟩:=h.slot he
   rw[hc]at h1
   exact⟨.inr rfl,b,o,xbo h1,h2,_,h3⟩
  ·cases hv
def InvOf.phdr(h:InvOf P c σ a S){r:Nat}{u:Ty}{e:TypeId}{m:Md}{x:u.den}(he:(σ r).e=.v (.ptr u) (.own e m) x):∃g,tmv a r=S.hv (r,[])∧S.hv (r,[])=.pointer (some ⟨g,0,none⟩):=by
 obtain⟨⟨h0,g,cur,e',h1,_⟩,_⟩:=h.slot he
 have:zab (.ptr u) (tmv a r) 0=some (tmv a r):=by simp[zab,Ty.agg]
 grind
def InvOf.move_sound(h:InvOf P c σ a S){T:Tab}{ty:TypeId}{o:Operand}{e:Ent}(hx:zim T ty (look σ o)=some e):zje P S σ e (a.eval o):=by
 cases o with
 |const v=>
  simp only[look,zim]at hx
  split at hx
  ·simp_all
   obtain⟨x,h1,rfl⟩:=hx
   exact⟨rfl,(0,[]),zcx h1⟩
  ·cases hx
 |func f=>
  simp only[look,zim,xat]at hx
  subst hx
  exact⟨[],rfl,rfl,fun k c hk=>by simp at hk⟩
 |global g=>simp[look,zim]at hx
 |tmp s=>
  simp only[look,zim]at hx
  rw[zbb]
  split at hx
  ·rename_i t m x he
   split at hx
   ·rename_i hm
    cases hx
    exact⟨hm,_,h.slot he⟩
   ·split at hx
    ·cases hx
     have:=h.viewTo (π:=[]) he trivial
     rw[←h.hdr he]at this
     exact this
    ·cases hx
     obtain⟨g,h1,h2⟩:=h.phdr he
     have:=h.refTo (π:=[0]) (q:=[]) (o:=0) (b:=g) he (by simp[locP]) trivial (by rw[h2];rfl)
     rw[h1,h2]
     exact this
    ·cases hx
  ·rename_i r π s' he
   cases hx
   exact(h.ent s).ref he
  ·rename_i r π s' he
   cases hx
   exact(h.ent s).view he
  ·rename_i f caps he
   cases hx
   have:=h.ent s
   unfold SlotOK at this
   rw[he]at this
   exact this
  ·cases hx
end
section
variable {P:Program} {c:Ctx} {σ:Env} {a:Act} {S:St} {T:Tab}
def Tr.id(S:St)(p:Place):Tr true S S p p:=⟨fun _ h=>h,fun _ _=>rfl,fun _ _ h=>.inr h,fun _ _ _=>rfl,fun _=>rfl,fun _ _ h=>⟨h,rfl⟩⟩
def Rel.cong{t:Ty}{m:Md}{p:Place}{x:t.den}{cs cs':Cs}(h:Rel P t S m p x cs)(hc:∀i,i<t.size→cs' i=cs i):Rel P t S m p x cs':=h.mono (.inl rfl) (.id S p) hc
def ztq{cs:Cs}{n:Nat}(h:∀i,i<n→∃u,cs i=some u∧u.oneCell'=true):∃vs:List Value,vs.length=n∧(∀i,i<n→vs[i]?=cs i)∧∀u∈vs,u.oneCell'=true:=by
 induction n with
 |zero=>exact⟨[],rfl,fun i hi=>absurd hi (Nat.not_lt_zero _),by simp⟩
 |succ n ih=>
  obtain⟨vs,h1,h2,h3⟩:=ih fun i hi=>h i (by omega)
  obtain⟨u,h4,h5⟩:=h n (by omega)
  refine⟨vs++[u],by simp[h1],fun i hi=>?_,fun w hw=>?_⟩
  ·grind
  ·grind
def zvq(hT:TabOK P T){t:TypeId}{i:TyI}{u:Ty}(ht:tl T t=some (i,u)){m:Md}{p:Place}{y:u.den}{b off:Nat}(h:Rel P u S m p y (blk S.w b off)) :
  ∃v,(Instr.loadAt t (.pointer (some ⟨b,off,none⟩))).run P S.w=.ok v S.w∧SR P u S m p y v∧∀i,i<u.size→zab u v i=blk S.w b off i:=by
 obtain⟨hty,hsz,hag,_⟩:=hT.kind ht
 obtain⟨j,d,hi,hd,_,hs,_,_⟩:=zax hty
 by_cases hagg:u.agg=true
 ·obtain⟨vs,h1,h2,h3⟩:=ztq h.cells
  have hc:∀i,i<u.size→zab u (.agg vs.toArray) i=blk S.w b off i:=fun i hi=>by
   unfold zab
   simp_all
  refine⟨.agg vs.toArray,?_,⟨h.cong hc,fun _=>⟨_,rfl,by simpa using h1⟩⟩,hc⟩
  have hl:(loadCells ⟨b,off,none⟩ vs.length).run P S.w=.ok vs.toArray S.w:=run_loadCells_list (P:=P) S.w ⟨b,off,none⟩ vs fun k v hk=>by
   have hlt:k<u.size:=by grind
   rw[zel,←hk,h2 k hlt]
   rfl
  rw[h1]at hl
  simp[Instr.loadAt,Instr.sureAddr,loadVar,zse hty,hag,hagg,sizeOf,typeInfo,hi,hs,hsz,hl]
 ·have hs1:u.size=1:=by cases u<;>first | rfl | exact absurd rfl hagg
  obtain⟨v,h1,h2⟩:=h.cells 0 (by omega)
  have hc:∀i,i<u.size→zab u v i=blk S.w b off i:=fun i hi=>by
   have:i=0:=by omega
   subst this
   unfold zab
   simp_all
  refine⟨v,?_,⟨h.cong hc,fun h=>absurd h hagg⟩,hc⟩
  have h1':S.w.cell? ⟨b,off,none⟩=some v:=h1
  have hagg':u.agg=false:=by simpa using hagg
  simp[Instr.loadAt,Instr.sureAddr,loadVar,zse hty,hag,hagg',h1']
def InvOf.partAt(h:InvOf P c σ a S){o:Operand}{p:Pl}(hp:(look σ o).place=some p){k:Md}(hm:zbe p.π p.t p.m=some k) :
  ∃(u:Ty) (y:u.den) (q:List Nat) (off b:Nat) (cur:Array Value) (e:TypeId),getP p.π p.t p.x=some ⟨u,y⟩∧locP p.π p.t=some (some q,off)∧hvB (S.hv (p.r,q))=some b∧S.own b=some (p.r,q)∧S.w.heap[b]?=some (.cells cur e (0,0)) ∧
   a.eval o=.pointer (some ⟨b,off,none⟩)∧Rel P u S k (p.r,p.π) y (blk S.w b off):=by
 obtain⟨h1,_,_,h2,q,off,b,h3,h4,h5⟩:=h.place hp
 obtain⟨u,y,l,cs',h6,h7,h8,h9⟩:=Rel.at (h.slot h1).1 hm h2
 rw[h3]at h7
 cases h7
 obtain⟨b',h10,h11,h12,cur,e,h13⟩:=h9
 rw[zbh]at h8 h10 h11
 grind
def InvOf.deref_sound(h:InvOf P c σ a S)(hT:TabOK P T){t:TypeId}{i:TyI}{u:Ty}(ht:tl T t=some (i,u)){o:Operand}{p:Pl}(hp:(look σ o).place=some p){e:Ent}(hx:p.deref u=some e) :
  ∃v,(Instr.loadAt t (a.eval o)).run P S.w=.ok v S.w∧zje P S σ e v:=by
 unfold Pl.deref at hx
 split at hx
 case h_2=>cases hx
 rename_i k y hm hg
 split at hx
 case isFalse=>cases hx
 rename_i hy
 obtain⟨u',y',q,off,b,cur,e',h1,h2,h3,h4,h5,h6,h7⟩:=h.partAt hp hm
 rw[hg]at h1
 cases h1
 simp only at hy
 subst hy
 obtain⟨v,h8,h9,h10⟩:=zvq hT ht h7
 obtain⟨hr,hc,hπ,hok,_⟩:=h.place hp
 refine⟨v,by rw[h6];exact h8,?_⟩
 split at hx
 ·rename_i hno
  cases hx
  exact⟨zmh hno,_,zmg h9⟩
 ·cases u' with
  |slice w=>
   cases k<;>simp only at hx<;>first | (cases hx;done) | skip
   cases hx
   have hv:=h9.1.2.2.1
   have:v=S.hv (p.r,p.π):=by simpa[zab,Ty.agg]using hv
   rw[hc,this]
   exact h.viewTo hr hok
  |ptr w=>
   cases k<;>simp only at hx<;>first | (cases hx;done) | skip
   cases hx
   obtain⟨hv,g,cur',e1,h11,h12,h13,_⟩:=h9.1
   have hv':v=S.hv (p.r,p.π):=by simpa[zab,Ty.agg]using hv
   rw[hc,hv',h11]
   refine h.refTo (q:=p.π) hr ?_ (zil hg hok trivial) (by rw[h11];rfl)
   rw[zfk hg h2 (show locP [0] (.ptr _)=some (some [],0)from by simp[locP])]
   simp[addL]
  |_=>cases k<;>simp at hx
def InvOf.load_sound(h:InvOf P c σ a S)(hT:TabOK P T){t:TypeId}{o:Operand}{e:Ent}(hx:loadE T t (look σ o)=some e) :
  ∃v,(Instr.loadAt t (a.eval o)).run P S.w=.ok v S.w∧zje P S σ e v:=by
 unfold loadE at hx
 split at hx
 case h_2=>cases hx
 rename_i i u ht
 split at hx
 ·rename_i p hp
  exact h.deref_sound hT ht hp hx
 ·split at hx
  case h_2=>cases hx
  rename_i e' hro
  split at hx
  case isFalse=>cases hx
  rename_i he
  cases hx
  obtain⟨h1,b,off,h2,h3,p,h4⟩:=h.ro hro
  subst he
  obtain⟨v,h5,h6,_⟩:=zvq hT ht h4
  exact⟨v,by rw[h2];exact h5,zmh (by rcases h1 with h1|h1<;>rw[h1]<;>rfl),p,zmg h6⟩
def getP_ro{ρ:List Nat}{t:Ty}{x:t.den}{u:Ty}{y:u.den}{off:Nat}{M:Md}(hM:M=.sh∨M=.bw){p:Place}{cs:Cs}:getP ρ t x=some ⟨u,y⟩→locP ρ t=some (none,off)→okP S ρ t p→Rel P t S M p x cs→off+u.size≤t.size∧∃p',Rel P u S M p' y (fun i=>cs (off+i)):=by
 have hl:M.l=M∧M.r=M:=by rcases hM with rfl|rfl<;>exact⟨rfl,rfl⟩
 induction ρ generalizing t x off p cs with
 |nil=>
  intro hg hlo ho h
  simp only[getP,xat]at hg
  cases hg
  simp only[locP,xat,xba,xgt]at hlo
  subst hlo
  grind
 |cons i ρ ih=>
  intro hg hlo ho h
  cases t with
  |pair A B=>
   match i with
   | 0=>
    simp only[getP]at hg
    simp only[locP,xad]at hlo
    obtain⟨⟨q',o'⟩,h1,h2⟩:=hlo
    simp at h2
    obtain⟨rfl,rfl⟩:=h2
    have ha:=h.1
    rw[hl.1]at ha
    obtain⟨h3,p',h4⟩:=ih hg h1 ho ha
    exact⟨by simp only[Ty.size];omega,p',h4⟩
   | 1=>
    simp only[getP]at hg
    simp only[locP,xad]at hlo
    obtain⟨⟨q',o'⟩,h1,h2⟩:=hlo
    cases q' with
    |some q'=>simp at h2
    |none=>
     simp at h2
     subst h2
     have hb:=h.2
     rw[hl.2]at hb
     obtain⟨h3,p',h4⟩:=ih hg h1 ho hb
     exact⟨by simp only[Ty.size];omega,p',by simpa only[xdm]using h4⟩
   |i+2=>simp[getP]at hg
  |arr n t=>
   rw[zkw]at hg
   rw[zej]at hlo
   rw[zew]at ho
   simp only[xad]at hlo
   obtain⟨⟨q',o'⟩,h1,h2⟩:=hlo
   cases q' with
   |some q'=>simp at h2
   |none=>
    simp at h2
    subst h2
    have hi:i<x.length:=by rw[h.1];exact ho.1
    rw[zec hi]at hg
    obtain⟨h3,p',h4⟩:=ih hg h1 ho.2 (h.2 i hi)
    have hm:(i+1)*t.size≤n*t.size:=xav _ ho.1
    rw[xcl]at hm
    exact⟨by simp only[Ty.size];omega,p',by simpa only[xdm]using h4⟩
  |slice t=>
   rw[zeb]at hlo
   simp only[xad]at hlo
   grind
  |ptr t=>
   match i with
   | 0=>
    simp only[locP,xad]at hlo
    grind
   |i+1=>simp[locP]at hlo
  |_=>simp[getP]at hg
def blk_shift(w:World)(b o o':Nat):(fun i=>blk w b o (o'+i))=blk w b (o+o'):=funext fun i=>by simp[blk,xdm]
def InvOf.field_sound(h:InvOf P c σ a S)(hT:TabOK P T){s f:Nat}{o:Operand}{e:Ent}(hx:zkd T s f (look σ o)=some e) :
  ∃v,(Instr.fieldAt s (a.eval o) f).run P S.w=.ok v S.w∧zje P S σ e v:=by
 unfold zkd at hx
 split at hx
 case h_2=>cases hx
 rename_i i ts ht
 split at hx
 case h_2=>cases hx
 rename_i offs hk
 split at hx
 case h_2=>cases hx
 rename_i off sz ρ hoff hρ
 split at hx
 ·cases hx
 rename_i hsz
 obtain⟨hty,hsize,hagg,hkind⟩:=hT.kind ht
 rw[hk]at hkind
 obtain⟨fs,hfl,hoffs⟩:=zey hkind
 have run:∀b o,(Instr.fieldAt s (.pointer (some ⟨b,o,none⟩)) f).run P S.w=.ok (.pointer (some ⟨b,o+off,none⟩)) S.w:=fun b o=>ztg hty hk hoff hsz b o S.w
 split at hx
 ·rename_i p hp
  split at hx
  case h_2=>cases hx
  rename_i y hg
  split at hx
  case isFalse=>cases hx
  rename_i hy
  cases hx
  obtain⟨h1,h2,h3,h4,q,off',b,h5,h6,h7⟩:=h.place hp
  obtain⟨yt,yx⟩:=y
  simp only at hy
  subst hy
  obtain⟨u,z,o2,h8,h9,h10,h11,h12⟩:=zgy (S:=S) (o0:=0) (x:=yx) (p:=pa (p.r,[]) p.π) hfl hρ
  rw[←hoffs,hoff,xdc]at h12
  cases h12
  refine⟨_,by rw[h7];exact run b off',?_⟩
  rw[h2]
  refine h.refTo (q:=q) h1 ?_ (zil hg h4 h11) h6
  rw[zfk hg h5 h10]
  rfl
 ·split at hx
  case h_2=>cases hx
  rename_i e' hro
  split at hx
  case isFalse=>cases hx
  rename_i he
  split at hx
  case h_2=>cases hx
  rename_i y hg
  cases hx
  obtain⟨hm,b,off',h7,hG,p,h8⟩:=h.ro hro
  subst he
  obtain⟨u,z,o2,h9,h10,h11,h12,h13⟩:=zgy (S:=S) (o0:=0) (x:=e'.x) (p:=p) hfl hρ
  rw[hg]at h10
  cases h10
  rw[←hoffs,hoff,xdc]at h13
  cases h13
  obtain⟨h14,p',h15⟩:=getP_ro hm hg h11 h12 h8
  refine⟨_,by rw[h7];exact run b off',by rcases hm with hm|hm<;>rw[hm]<;>rfl,p',?_,fun h=>by cases h⟩
  have hc:zab (.ptr u) (.pointer (some ⟨b,off'+off,none⟩)) 0=some (.pointer (some ⟨b,off'+off,none⟩)):=by simp[zab,Ty.agg]
  rw[blk_shift]at h15
  have hres:∃b0 o0,zab (.ptr u) (.pointer (some ⟨b,off'+off,none⟩)) 0=some (.pointer (some ⟨b0,o0,none⟩))∧(u.size≠0→S.G e'.m b0)∧Rel P u S e'.m (px p' 0) z (blk S.w b0 o0):=⟨b,_,hc,fun hne=>hG (by omega),by
   rcases hm with hm|hm
   ·rw[hm]at h15 ⊢;exact h15.fut (.inl rfl) ((Fut2.refl S).sh _) fun _ _=>rfl
   ·rw[hm]at h15 ⊢;exact h15.fut (.inr rfl) ((Fut2.refl S).sh _) fun _ _=>rfl⟩
  rcases hm with hm|hm<;>rw[hm]at hres⊢ <;>exact hres
end
section
variable {P:Program} {c:Ctx} {σ:Env} {a:Act} {S:St} {T:Tab}
def bnd2{i:Int}{n:Nat}(h:(decide (0≤i)&&decide (i<(n:Int)))=true):0≤i∧i<n∧i.toNat<n:=by
 grind
def InvOf.index_sound(h:InvOf P c σ a S)(hT:TabOK P T){t:TypeId}{o ix:Operand}{e:Ent}{ob:Bool}(hx:indexE T t (look σ o) (look σ ix)=some (ob,e))(hob:ob=true) :
  ∃v,(Instr.indexAt t (a.eval o) (a.eval ix)).run P S.w=.ok v S.w∧zje P S σ e v:=by
 unfold indexE at hx
 split at hx
 case h_3=>cases hx
 ·rename_i i u k n ht hn
  obtain⟨hty,hsz,hag,hkind⟩:=hT.kind ht
  obtain⟨e1,i1,hk,hte,hpos⟩:=zcy hkind
  obtain⟨hty1,hsz1,_,_⟩:=hT.kind hte
  obtain⟨hev,_⟩:=h.ival hn
  rw[hev]
  split at hx
  ·rename_i p hp
   split at hx
   case h_2=>cases hx
   rename_i e0 k0 u' xs hm hg
   split at hx
   case isFalse=>cases hx
   rename_i hu
   subst hu
   simp at hx
   obtain⟨rfl,rfl⟩:=hx
   obtain⟨h0,h1,h2⟩:=bnd2 hob
   obtain⟨hr,hc,hok,hv⟩:=h.splace hp
   obtain⟨u2,y2,l,cs',h5,h6,h7,h8⟩:=Rel.at (h.slot hr).1 hm hok
   rw[hg]at h5
   cases h5
   rw[zbh]at h7
   obtain⟨_,_,_,hcase⟩:=h7
   rcases hcase with⟨_,h9⟩|⟨g,cap,cur,h9,h10,h11,_⟩
   ·subst h9;simp at h2
   ·refine⟨_,by rw[hv,h9];exact zle hty hk hty1 g 0 xs.length cap k n h0 h1 S.w,?_⟩
    rw[hc]
    refine h.refTo (q:=p.π) hr ?_ (zil hg hok ?_) (by rw[h9];rfl)
    ·rw[zfk hg h6 (show locP [n.toNat] (.slice u')=some (some [],n.toNat*u'.size)from by rw[zeb];simp[locP])]
     simp[addL,hsz1]
    ·rw[zfp,zbh]
     exact⟨⟨g,_,_,h9,h2⟩,trivial⟩
  ·have key:∀{M:Md} {xs:List u.den},M=.sh∨M=.bw→(look σ o).val (.slice u)=some (M,xs)→(decide (0≤n)&&decide (n<(xs.length:Int)))=true→∃v,(Instr.indexAt t (a.eval o) (.int k n)).run P S.w=.ok v S.w∧zje P S σ (.v (.ptr u) M (xs.getD n.toNat u.dflt)) v:=by
    intro M xs hM hval hb
    obtain⟨h0,h1,h2⟩:=bnd2 hb
    obtain⟨p,hs⟩:=h.val hval
    obtain⟨_,_,hs3⟩:=hs.1
    have hs':∃a' len cap,zab (.slice u) (a.eval o) 0=some (.slice a' len cap)∧len=xs.length∧len≤cap∧((xs=[]∧cap=0)∨∃b o',a'=some ⟨b,o',none⟩∧(xs≠ []→S.G M b)∧∀(i:Nat) (h:i<xs.length),Rel P u S M (px p i) xs[i] (blk S.w b (o'+i*u.size))):=by rcases hM with rfl|rfl<;>exact hs3
    obtain⟨a',len,cap,h3,h4,h5,h6⟩:=hs'
    have hv:a.eval o=.slice a' len cap:=by simpa[zab,Ty.agg]using h3
    rcases h6 with⟨_,h6⟩|⟨b,o',rfl,hG,h7⟩
    ·omega
    ·subst h4
     refine⟨_,by rw[hv];exact zle hty hk hty1 b o' _ cap k n h0 h1 S.w,by rcases hM with rfl|rfl<;>rfl,p,?_,fun h=>by cases h⟩
     have hc:zab (.ptr u) (.pointer (some ⟨b,o'+n.toNat*i1.size,none⟩)) 0=some (.pointer (some ⟨b,o'+n.toNat*i1.size,none⟩)):=by simp[zab,Ty.agg]
     have hne:xs≠ []:=by rintro rfl;simp at h2
     have h8:=h7 n.toNat h2
     rw[←hsz1,←zec h2 u.dflt]at h8
     have hres:∃b0 o0,zab (.ptr u) (.pointer (some ⟨b,o'+n.toNat*i1.size,none⟩)) 0=some (.pointer (some ⟨b0,o0,none⟩))∧(u.size≠0→S.G M b0)∧Rel P u S M (px p 0) (xs.getD n.toNat u.dflt) (blk S.w b0 o0):=⟨b,_,hc,fun _=>hG hne,h8.fut hM ((Fut2.refl S).sh _) fun _ _=>rfl⟩
     rcases hM with rfl|rfl<;>exact hres
   grind
 ·rename_i i m u k n ht hn
  obtain⟨hty,hsz,hag,hkind⟩:=hT.kind ht
  obtain⟨e1,i1,hk,hte⟩:=zuh hkind
  obtain⟨hty1,hsz1,_,_⟩:=hT.kind hte
  obtain⟨hev,_⟩:=h.ival hn
  rw[hev]
  split at hx
  ·rename_i p hp
   split at hx
   case h_2=>cases hx
   rename_i y hg
   split at hx
   case isFalse=>cases hx
   rename_i hy
   simp at hx
   obtain⟨rfl,rfl⟩:=hx
   obtain⟨h0,h1,h2⟩:=bnd2 hob
   obtain⟨hr,hc,hπ,hok,q,off,b,h3,h4,h5⟩:=h.place hp
   obtain⟨yt,yx⟩:=y
   simp only at hy
   subst hy
   refine⟨_,by rw[h5];exact zjq hty hk hty1 b off k n h0 h1 S.w,?_⟩
   rw[hc]
   refine h.refTo (q:=q) hr ?_ (zil hg hok ?_) h4
   ·rw[zfk hg h3 (show locP [n.toNat] (.arr m u)=some (none,n.toNat*u.size)from by rw[zej];simp[locP])]
    simp[addL,hsz1]
   ·rw[zew];exact⟨h2,trivial⟩
  ·split at hx
   case h_2=>cases hx
   rename_i m' u' M xs hro
   split at hx
   case isFalse=>cases hx
   rename_i hmu
   obtain⟨rfl,rfl⟩:=hmu
   simp at hx
   obtain⟨rfl,rfl⟩:=hx
   obtain⟨h0,h1,h2⟩:=bnd2 hob
   obtain⟨hM,b,off,h3,hG,p,h4⟩:=h.ro hro
   simp only at hM h4 hG
   have hlen:n.toNat<xs.length:=by rw[h4.1];exact h2
   refine⟨_,by rw[h3];exact zjq hty hk hty1 b off k n h0 h1 S.w,by rcases hM with rfl|rfl<;>rfl,p,?_,fun h=>by cases h⟩
   have hc:zab (.ptr u') (.pointer (some ⟨b,off+n.toNat*i1.size,none⟩)) 0=some (.pointer (some ⟨b,off+n.toNat*i1.size,none⟩)):=by simp[zab,Ty.agg]
   have h8:=h4.2 n.toNat hlen
   rw[←hsz1,←zec hlen u'.dflt,blk_shift]at h8
   have hres:∃b0 o0,zab (.ptr u') (.pointer (some ⟨b,off+n.toNat*i1.size,none⟩)) 0=some (.pointer (some ⟨b0,o0,none⟩))∧(u'.size≠0→S.G M b0)∧Rel P u' S M (px p 0) (xs.getD n.toNat u'.dflt) (blk S.w b0 o0):=
    ⟨b,_,hc,fun hne=>hG (by simp only[Ty.size];exact xhq (by omega) hne),h8.fut hM ((Fut2.refl S).sh _) fun _ _=>rfl⟩
   rcases hM with rfl|rfl<;>exact hres
def zov{u:Ty}{m:Md}{p:Place}{xs:List u.den}{v:Value}(h:SR P (.slice u) S m p xs v)(hm:m≠ .dead):∃ad cap,v=.slice ad xs.length cap∧xs.length≤maxL:=by
 obtain⟨h1,_,h3⟩:=h.1
 have hc:zab (.slice u) v 0=some v:=by simp[zab,Ty.agg]
 grind
def len_wrap{n:Nat}(h:n≤maxL):IntKind.i64.wrap (n:Int)=n:=wrap_in _ (by unfold maxL at h;omega)
def InvOf.len_sound(h:InvOf P c σ a S)(hT:TabOK P T){t rt:TypeId}{o:Operand}{e:Ent}(hx:lenE T t (look σ o)=some e) :
  ∃v,(Builtin.len_ #[t] rt #[a.eval o]).run P S.w=.ok v S.w∧zje P S σ e v:=by
 unfold lenE at hx
 split at hx
 ·rename_i i u ht
  obtain⟨hty,_,_,hkind⟩:=hT.kind ht
  obtain⟨j,d,_,hd,_,_,_,hk⟩:=zax hty
  obtain⟨e1,i1,hk1,_⟩:=zcy hkind
  have:=zeu (hk.trans (xbx some hk1))
  subst this
  split at hx
  case h_2=>cases hx
  rename_i m xs hv
  split at hx
  ·cases hx
  rename_i hm
  cases hx
  obtain⟨p,hs⟩:=h.val hv
  obtain⟨ad,cap,hv',hl⟩:=zov hs hm
  refine⟨.int .i64 xs.length,?_,rfl,(0,[]),SR.of_int' (len_wrap hl)⟩
  rw[hv']
  simp[Builtin.len_,run_underlying hd,goInt]
 ·rename_i i ht
  obtain⟨hty,_,_,hkind⟩:=hT.kind ht
  obtain⟨j,d,_,hd,_,_,_,hk⟩:=zax hty
  have:=znm (hk.trans (xbx some (zod hkind)))
  subst this
  split at hx
  case h_2=>cases hx
  rename_i m x hv
  split at hx
  ·cases hx
  rename_i hm
  cases hx
  obtain⟨p,hs⟩:=h.val hv
  obtain⟨s,hs1,hs2,hs3⟩:=hs.str_inv hm
  have hlen:s.size=(x:List Int).length:=by rw[←hs2,xbw,xcc];rfl
  refine⟨.int .i64 s.size,?_,rfl,(0,[]),by rw[hlen];exact SR.of_int' (len_wrap hs3)⟩
  rw[hs1]
  simp[Builtin.len_,run_underlying hd,goInt]
 ·cases hx
def zjs{S:St}{k:IntKind}{m:Md}{p:Place}{n:Int}{cs:Cs}(hm:m=.sh∨m=.bw)(h:Rel P (.int k) S m p n cs):cs 0=some (.int k n):=by
 rcases hm with rfl|rfl<;>exact h.1
def eqTV_list{S:St}{m m':Md}(hm:m=.sh∨m=.bw)(hm':m'=.sh∨m'=.bw):∀{n:Nat} {a b:Ty} {x:a.den} {y:b.den} {r:Bool} {fs:List Ty} {o0:Nat} {p p':Place} {cs cs':Cs},eqTV n a b x y=some r→flds n a=some fs →
  Rel P a S m p x (fun i=>cs (o0+i))→Rel P b S m' p' y (fun i=>cs' (o0+i)) →
  ∃us:List (IntKind×Int×Int),us.length=n∧(us.all fun u=>decide (u.2.1=u.2.2))=r∧∀(i:Nat) (o:Nat×Nat) (u:IntKind×Int×Int),(zex o0 fs)[i]?=some o→us[i]?=some u→cs o.1=some (.int u.1 u.2.1)∧cs' o.1=some (.int u.1 u.2.2):=by
 have hl:m.l=m∧m.r=m:=by rcases hm with rfl|rfl<;>exact⟨rfl,rfl⟩
 have hl':m'.l=m'∧m'.r=m':=by rcases hm' with rfl|rfl<;>exact⟨rfl,rfl⟩
 intro n
 induction n using Nat.strongRecOn with
 |ind n ih=>
 intro a b x y r fs o0 p p' cs cs' h hf hx hy
 unfold eqTV at h
 split at h
 ·rename_i k k' x y
  split at h
  case isFalse=>cases h
  rename_i hk
  subst hk
  cases h
  simp only[flds,xat]at hf
  subst hf
  have h1:=zjs (by rw[hl.1];exact hm) hx.1
  have h2:=zjs (by rw[hl'.1];exact hm') hy.1
  refine⟨[(k,x.1,y.1)],rfl,by simp,fun i o u ho hu=>?_⟩
  cases i with
  |zero=>cases ho;cases hu;exact⟨h1,h2⟩
  |succ i=>simp at hu
 ·rename_i k l k' l' x y
  split at h
  case isFalse=>cases h
  rename_i hk
  obtain⟨rfl,rfl⟩:=hk
  cases h
  simp only[flds,xat]at hf
  subst hf
  have h1:=zjs (by rw[hl.1];exact hm) hx.1
  have h2:=zjs (by rw[hl'.1];exact hm') hy.1
  have h3:=zjs (by rw[hl.2];exact hm) hx.2
  have h4:=zjs (by rw[hl'.2];exact hm') hy.2
  refine⟨[(k,x.1,y.1),(l,x.2,y.2)],rfl,by simp,fun i o u ho hu=>?_⟩
  match i with
  | 0=>cases ho;cases hu;exact⟨h1,h2⟩
  | 1=>cases ho;cases hu;exact⟨h3,h4⟩
  |i+2=>simp at hu
 ·rename_i n k b k' b' x y
  split at h
  case isFalse=>cases h
  rename_i hk
  subst hk
  simp only[xad]at h
  obtain⟨r',h,rfl⟩:=h
  simp only[flds,xad]at hf
  obtain⟨fs',hf,rfl⟩:=hf
  have h1:=zjs (by rw[hl.1];exact hm) hx.1
  have h2:=zjs (by rw[hl'.1];exact hm') hy.1
  have hx2:=hx.2
  have hy2:=hy.2
  rw[hl.2]at hx2
  rw[hl'.2]at hy2
  obtain⟨us,h3,h4,h5⟩:=ih (n+2) (by omega) (o0:=o0+1) (cs:=cs) (cs':=cs') h hf (hx2.cong fun i _=>by show cs (o0+1+i)=cs (o0+(1+i));rw[xdm]) (hy2.cong fun i _=>by show cs' (o0+1+i)=cs' (o0+(1+i));rw[xdm])
  refine⟨(k,x.1,y.1)::us,by simp[h3],by simp[h4],fun i o u ho hu=>?_⟩
  cases i with
  |zero=>cases ho;cases hu;exact⟨h1,h2⟩
  |succ i=>exact h5 i o u (by simpa[zex,Ty.size]using ho) (by simpa using hu)
 ·cases h
def eqTV_agg{n:Nat}{a b:Ty}{x:a.den}{y:b.den}{r:Bool}(h:eqTV n a b x y=some r):b.agg=true:=by
 unfold eqTV at h
 split at h
 ·rfl
 ·rfl
 ·rfl
 ·cases h
def run_eqS{S:St}{op:BinOp}{t:TypeId}{x y:TV}{m m':Md}{p p':Place}{u v:Value}{r:Bool}{tt:Tab}(hT:TabOK P tt){i:TyI}(ht:tl tt t=some (i,x.t))(hx:SR P x.t S m p x.x u)(hy:SR P y.t S m' p' y.x v)
  (h:eqS i op x.t y.t m m' x.x y.x=some r) (a b:Operand) (w:World):(do eqGuard op t a b u v;binOp op t u v:Sem Value).run P w=.ok (.bool r) w:=by
 unfold eqS at h
 split at h
 case h_2=>cases h
 rename_i op' offs hk
 split at h
 case isFalse=>cases h
 rename_i hc
 obtain⟨he,hm,hm'⟩:=hc
 obtain⟨hty,hsize,hagg,hkind⟩:=hT.kind ht
 rw[hk]at hkind
 obtain⟨fs,hfl,hoffs⟩:=zey hkind
 have hts:x.t.agg=true:=by rw[←hagg];unfold TyI.agg;rw[hk]
 have hts':y.t.agg=true:=eqTV_agg h
 obtain⟨cs,rfl,_⟩:=hx.2 hts
 obtain⟨cs',rfl,_⟩:=hy.2 hts'
 have hxr:Rel P x.t S m p x.x (fun i=>(fun j=>cs[j]?) (0+i)):=hx.1.cong fun i _=>by unfold zab;rw[hts,xdc];rfl
 have hyr:Rel P y.t S m' p' y.x (fun i=>(fun j=>cs'[j]?) (0+i)):=hy.1.cong fun i _=>by unfold zab;rw[hts',xdc];rfl
 obtain⟨us,h1,h2,h3⟩:=eqTV_list hm hm' (o0:=0) h hfl hxr hyr
 rw[←h2]
 exact run_eql_ints hty he hk cs cs' us h1.symm (fun i o u ho hu=>h3 i o u (by rw[←hoffs];exact ho) hu) a b w
def sub_val{cs:Array Value}{u:Ty}{M:Md}(hM:M=.sh∨M=.bw){p:Place}{y:u.den}{off:Nat}(h:Rel P u S M p y (fun i=>cs[off+i]?)){tot:Nat}(hfit:off+u.size≤tot)(hcs:cs.size=tot) :
  ∃v,(u.agg=false→cs[off]?=some v)∧SR P u S M p y (if u.agg then .agg (cs.extract off (off+u.size))else v):=by
 cases hag:u.agg with
 |true=>
  refine⟨.nilFunc,(fun h=>by cases h),?_,fun _=>⟨_,rfl,?_⟩⟩
  ·refine h.cong fun i hi=>?_
   unfold zab
   simp_all
  ·grind
 |false=>
  have h1:u.size=1:=by cases u<;>first | rfl | cases hag
  obtain⟨v,h2,_⟩:=h.cells 0 (by omega)
  refine⟨v,fun _=>h2,?_,fun h=>by rw[hag]at h;cases h⟩
  refine h.cong fun i hi=>?_
  have:i=0:=by omega
  subst this
  unfold zab
  simp_all
def InvOf.fieldV_sound(h:InvOf P c σ a S)(hT:TabOK P T){s f:Nat}{o:Operand}{e:Ent}(hx:fieldV T s f (look σ o)=some e) :
  ∃v,(Instr.field s (a.eval o) f).run P S.w=.ok v S.w∧zje P S σ e v:=by
 unfold fieldV at hx
 split at hx
 case h_2=>cases hx
 rename_i i ts ht
 split at hx
 case h_2=>cases hx
 rename_i offs hk
 split at hx
 case h_2=>cases hx
 rename_i off sz ρ g hoff hρ hfa
 obtain⟨hty,hsize,hagg,hkind⟩:=hT.kind ht
 rw[hk]at hkind
 obtain⟨fs,hfl,hoffs⟩:=zey hkind
 split at hx
 case h_2=>cases hx
 rename_i m x hv
 split at hx
 case isFalse=>cases hx
 rename_i hm
 split at hx
 case h_2=>cases hx
 rename_i y hg
 split at hx
 case isFalse=>cases hx
 rename_i hyg
 cases hx
 obtain⟨p,hsr⟩:=h.val hv
 have hts:ts.agg=true:=by rw[←hagg];unfold TyI.agg;rw[hk]
 obtain⟨cs,hcs,hcsz⟩:=hsr.2 hts
 obtain⟨u,z,o2,h9,h10,h11,h12,h13⟩:=zgy (S:=S) (o0:=0) (x:=x) (p:=p) hfl hρ
 rw[hg]at h10
 cases h10
 rw[←hoffs,hoff,xdc]at h13
 cases h13
 have hrel:Rel P ts S m p x (fun i=>cs[i]?):=by
  have:=hsr.1
  rw[hcs]at this
  refine this.cong fun i _=>?_
  unfold zab
  rw[hts]
  rfl
 obtain⟨h14,p',h15⟩:=getP_ro hm hg h11 h12 hrel
 obtain⟨v,h16,h17⟩:=sub_val hm h15 h14 hcsz
 subst hyg
 exact⟨_,by rw[hcs];exact run_field hty hk hoff hfa cs h16 S.w,by rcases hm with rfl|rfl<;>rfl,p',h17⟩
def InvOf.indexV_sound(h:InvOf P c σ a S)(hT:TabOK P T){t:TypeId}{o ix:Operand}{e:Ent}{ob:Bool}(hx:indexV T t (look σ o) (look σ ix)=some (ob,e))(hob:ob=true) :
  ∃v,(Instr.index t (a.eval o) (a.eval ix)).run P S.w=.ok v S.w∧zje P S σ e v:=by
 unfold indexV at hx
 split at hx
 case h_2=>cases hx
 rename_i i0 n u k i ht hn
 split at hx
 case h_2=>cases hx
 rename_i m xs hv
 split at hx
 case isFalse=>cases hx
 rename_i hm
 simp at hx
 obtain⟨rfl,rfl⟩:=hx
 obtain⟨h0,h1,h2⟩:=bnd2 hob
 obtain⟨hev,_⟩:=h.ival hn
 obtain⟨hty,hsize,hagg,hkind⟩:=hT.kind ht
 obtain⟨e1,i1,hk,hte⟩:=zuh hkind
 obtain⟨hty1,hsz1,hag1,_⟩:=hT.kind hte
 obtain⟨p,hsr⟩:=h.val hv
 obtain⟨cs,hcs,hcsz⟩:=hsr.2 rfl
 have hrel:Rel P (.arr n u) S m p xs (fun i=>cs[i]?):=by
  have:=hsr.1
  rw[hcs]at this
  exact this.cong fun i _=>rfl
 have hlen:i.toNat<xs.length:=by rw[hrel.1];exact h2
 have h8:=hrel.2 i.toNat hlen
 rw[←zec hlen u.dflt]at h8
 have hfit:i.toNat*u.size+u.size≤n*u.size:=by
  have:(i.toNat+1)*u.size≤n*u.size:=xav _ h2
  grind
 obtain⟨v,h16,h17⟩:=sub_val hm h8 hfit (by rw[hcsz];rfl)
 rw[←hsz1]at h16 h17
 rw[←hag1]at h16 h17
 exact⟨_,by rw[hcs,hev];exact run_index hty hk hty1 k i h0 h1 cs h16 S.w,by rcases hm with rfl|rfl<;>rfl,_,h17⟩
def step1_sound(h:InvOf P c σ a S)(hT:TabOK P T){o:Oper}{e:Ent}{ob:Bool}(hx:zif T o (look σ)=some (ob,e))(hob:ob=true) :
  ∃v,(execOp a.eval o).run P S.w=.ok (.value v) S.w∧zje P S σ e v:=by
 obtain⟨dst,op,type,pos,after,guard⟩:=o
 unfold zif at hx
 simp only at hx
 split at hx
 ·rename_i x
  simp only[xad,xba]at hx
  obtain⟨e',h1,rfl,rfl⟩:=hx
  exact⟨_,rfl,h.move_sound h1⟩
 ·rename_i op t x y t'
  split at hx
  case h_2=>cases hx
  rename_i i1 ta i2 tb ht ht'
  split at hx
  case h_2=>cases hx
  rename_i m u m' v hu hv
  split at hx
  ·cases hx
  rename_i hm
  simp at hm
  obtain⟨p,hsu⟩:=h.val hu
  obtain⟨p',hsv⟩:=h.val hv
  split at hx
  ·rename_i r hr
   simp_all
   obtain⟨rfl,rfl⟩:=hx
   have h2:=run_eqS (S:=S) (x:=⟨ta,u⟩) (y:=⟨tb,v⟩) hT ht hsu hsv hr x y S.w
   refine⟨.bool r,?_,rfl,(0,[]),?_⟩
   ·simp only[execOp,Sem.run_bind,Sem.run_pure]at h2 ⊢
    rw[h2]
    rfl
   ·exact⟨by simp[Rel,zab,Ty.agg],fun h=>by cases h⟩
  simp only[xad,xba]at hx
  obtain⟨q,h1,rfl,rfl⟩:=hx
  obtain⟨r,h2,h3⟩:=run_bin2 (S:=S) (x:=⟨ta,u⟩) (y:=⟨tb,v⟩) (z:=q.2) hT ht hsu hsv hm.1 hm.2 h1 hob x y S.w
  refine⟨r,?_,rfl,(0,[]),h3 _⟩
  simp only[execOp,Sem.run_bind,Sem.run_pure]at h2 ⊢
  rw[h2]
  rfl
 ·rename_i op t x
  split at hx
  case h_2=>cases hx
  rename_i i1 ta ht
  split at hx
  case h_2=>cases hx
  rename_i m u hu
  split at hx
  ·cases hx
  rename_i hm
  simp_all
  obtain⟨q,h1,rfl,rfl⟩:=hx
  obtain⟨p,hsu⟩:=h.val hu
  unfold un1 at h1
  split at h1
  ·rename_i b heq
   cases heq
   cases h1
   have:=hsu.bool_inv hm
   exact⟨_,by simp[execOp,this,Op.unary]<;>rfl,rfl,(0,[]),SR.of_bool _⟩
  ·rename_i k n heq
   cases heq
   cases h1
   have:=(hsu.int_inv hm).1
   exact⟨_,by simp only[execOp,this,Op.unary,Op.intArith,Sem.run_bind,Sem.run_pure,Result.andThen_ok]<;>rfl,rfl,(0,[]),SR.of_int _⟩
  ·rename_i k n heq
   cases heq
   cases h1
   have:=(hsu.int_inv hm).1
   exact⟨_,by simp[execOp,this,Op.unary,Op.intBits]<;>rfl,rfl,(0,[]),SR.of_int _⟩
  ·cases h1
 ·rename_i s d x
  split at hx
  case h_2=>cases hx
  rename_i i1 k i2 k' ht ht'
  split at hx
  case h_2=>cases hx
  rename_i m n hu
  split at hx
  ·cases hx
  rename_i hm
  simp_all
  obtain⟨rfl,rfl⟩:=hx
  obtain⟨p,hsu⟩:=h.val hu
  have hn:=(hsu.int_inv hm).1
  obtain⟨hty1,_,_,hk1⟩:=hT.kind ht
  obtain⟨hty2,_,_,hk2⟩:=hT.kind ht'
  obtain⟨_,ds,_,hds,_⟩:=zax hty1
  obtain⟨_,dd,_,hdd,_,_,_,hk'⟩:=zax hty2
  have:=tyK_int (hk'.trans (xbx some (zoe hk2)))
  subst this
  have hk2':(TypeDesc.int k')=.int (P.intKind d):=by simp[Program.intKind,hdd]
  have hr:=run_convert_int (P:=P) S.w s d k n (by rw[hds];rfl) (by rw[hdd,hk2'])
  have hkk:P.intKind d=k':=by cases hk2';rfl
  rw[hkk]at hr
  refine⟨_,?_,rfl,(0,[]),SR.of_int n⟩
  simp only[execOp,hn,Sem.run_bind,hr,Result.andThen_ok,Sem.run_pure]
 ·rename_i s x f
  simp only[xad,xba]at hx
  obtain⟨e',h1,rfl,rfl⟩:=hx
  obtain⟨v,h2,h3⟩:=h.field_sound hT h1
  exact⟨v,by simp only[execOp,Sem.run_bind,h2,Result.andThen_ok,Sem.run_pure],h3⟩
 ·rename_i t x i
  obtain⟨v,h2,h3⟩:=h.index_sound hT hx hob
  exact⟨v,by simp only[execOp,Sem.run_bind,h2,Result.andThen_ok,Sem.run_pure],h3⟩
 ·rename_i s x f
  simp only[xad,xba]at hx
  obtain⟨e',h1,rfl,rfl⟩:=hx
  obtain⟨v,h2,h3⟩:=h.fieldV_sound hT h1
  exact⟨v,by simp only[execOp,Sem.run_bind,h2,Result.andThen_ok,Sem.run_pure],h3⟩
 ·rename_i t x i
  obtain⟨v,h2,h3⟩:=h.indexV_sound hT hx hob
  exact⟨v,by simp only[execOp,Sem.run_bind,h2,Result.andThen_ok,Sem.run_pure],h3⟩
 ·rename_i t x
  simp only[xad,xba]at hx
  obtain⟨e',h1,rfl,rfl⟩:=hx
  obtain⟨v,h2,h3⟩:=h.load_sound hT h1
  exact⟨v,by simp only[execOp,Sem.run_bind,h2,Result.andThen_ok,Sem.run_pure],h3⟩
 ·rename_i x t
  simp only[xad,xba]at hx
  obtain⟨e',h1,rfl,rfl⟩:=hx
  obtain⟨v,h2,h3⟩:=h.len_sound (rt:=type) hT h1
  exact⟨v,by simp[execOp,resolve,invoke,builtin,h2],h3⟩
 ·rename_i x y ts
  split at hx
  case h_2=>cases hx
  rename_i k u k' v hu hv
  split at hx
  case isFalse=>cases hx
  rename_i hk
  simp_all
  obtain⟨rfl,rfl⟩:=hx
  obtain⟨hu1,hu2⟩:=h.ival hu
  obtain⟨hv1,hv2⟩:=h.ival hv
  subst hk
  refine⟨.int k (bif decide (v<u)then v else u),?_,rfl,(0,[]),SR.of_int' (by cases decide (v<u)<;>simp[hu2,hv2])⟩
  have hb:(bif decide (v<u)then v else u)=if v<u then v else u:=by cases hd:decide (v<u)<;>simp at hd<;>simp[hd]<;>omega
  rw[hb]
  simp[execOp,resolve,invoke,builtin,hu1,hv1,Builtin.min_,Builtin.min2]
 ·rename_i x y ts
  split at hx
  case h_2=>cases hx
  rename_i k u k' v hu hv
  split at hx
  case isFalse=>cases hx
  rename_i hk
  simp_all
  obtain⟨rfl,rfl⟩:=hx
  obtain⟨hu1,hu2⟩:=h.ival hu
  obtain⟨hv1,hv2⟩:=h.ival hv
  subst hk
  refine⟨.int k (bif decide (v>u)then v else u),?_,rfl,(0,[]),SR.of_int' (by cases decide (v>u)<;>simp[hu2,hv2])⟩
  have hb:(bif decide (v>u)then v else u)=if v>u then v else u:=by cases hd:decide (v>u)<;>simp at hd<;>simp[hd]<;>omega
  rw[hb]
  simp[execOp,resolve,invoke,builtin,hu1,hv1,Builtin.max_,Builtin.max2]
 ·cases hx
end
abbrev Ups:=List (Nat×Ent×Nat)
def upd:Ups→Env→Env
 | [],σ=>σ
 |(t,e,k)::r,σ=>upd r (set1 σ t e k)
structure An where
 frz:List (Nat×List Nat):=[]
 fl:Nat:=0
 args:List Nat:=[]
 deriving Inhabited
def allocU(T:Tab)(d t:Nat):Option Ups:=
 match tl T t with
 |some (i,u)=>(cval u i.zero).map fun z=>[(d,.v (.ptr u) (.own 0 .sh) z,0)]
 |none=>none
def boxU(T:Tab)(d t:Nat)(x:Opd):Option Ups:=
 match tl T t with
 |some (_,u)=>match x.val u with
  |some (m,y)=>if m.noown then some [(d,.v (.ptr u) (.own 0 (nm u m)) y,0)]else none
  |none=>none
 |none=>none
def storeU(T:Tab)(t:Nat)(A V:Opd):Option Ups:=
 match tl T t,A.place with
 |some (_,u),some p=>match getP p.π p.t p.x with
  |some old=>if old.t=u∧0<u.size then match V.val u with
   |some (m,y)=>if m.noown then match setM p.π p.t p.m m,setP p.π p.t p.x ⟨u,y⟩with
     |some m',some x'=>some [(p.r,.v p.t m' x',2)]
     |_,_=>none
    else match V with
     | .slot s cc _=>match cc.e with
      | .v t' k z=>if s=p.r∨t'≠u then none else match setM p.π p.t p.m k,setP p.π p.t p.x ⟨t',z⟩with
       |some m',some x'=>some [(s,.dead,0),(p.r,.v p.t m' x',1)]
       |_,_=>none
      |_=>none
     |_=>none
   |none=>none else none
  |none=>none
 |_,_=>none
def asgU(T:Tab)(ty d:Nat)(o:Opd):Option Ups:=
 match o with
 | .slot s cc root=>match cc.e with
  | .v t m x=>if m.noown then some [(d,.v t m x,0)]else if s=d then none else some [(s,.dead,0),(d,.v t m x,0)]
  | .view r π s'=>match root.e with
   | .v tr mr xr=>if root.h=s' then
     match zbe π tr mr,getP π tr xr with
     |some (.own e k),some ⟨.slice u,y⟩=>
      if r=d then(if π=[]then some []else none)else
      if π=[]then some [(r,.dead,0),(d,.v (.slice u) (.own e k) y,0)]else
      match setM π tr mr .dead with
      |some m'=>some [(r,.v tr m' xr,2),(d,.v (.slice u) (.own e k) y,0)]
      |none=>none
     |_,_=>none
    else none
   |_=>none
  | .tup es=>if s=d then none else some [(s,.dead,0),(d,.tup es,0)]
  |_=>(zim T ty o).map fun e=>[(d,e,0)]
 |_=>(zim T ty o).map fun e=>[(d,e,0)]
def extU(d i:Nat)(o:Opd):Option Ups:=
 match o with
 | .slot s cc _=>match cc.e with
  | .tup es=>if s=d then none else match es[i]? with
   |some e=>if e.m.noown then some [(d,.v e.t e.m e.x,0)]else some [(s,.tup (es.set i ⟨e.t,.dead,e.x⟩),0),(d,.v e.t e.m e.x,0)]
   |none=>none
  |_=>none
 |_=>none
section
variable {P:Program} {c:Ctx} {σ:Env} {a:Act} {S:St} {T:Tab}
def own_new(h:InvOf P c σ a S):S.own S.w.heap.size=none:=by
 cases ho:S.own S.w.heap.size with
 |none=>rfl
 |some p=>exact absurd (h.owned _ p ho).1 (Nat.lt_irrefl _)
def fut2_ext(h:InvOf P c σ a S){S':St}(hw:Ext S.w S'.w)(hF:S'.F=S.F)(hB:S'.B=S.B):Fut2 S S':=
 ⟨fun b hb=>⟨by rw[hF];exact hb,hw.block b (h.wlt (.inl hb))⟩,fun b hb=>⟨.inr (by rw[hB];exact hb),hw.block b (h.wlt (.inr (.inl hb)))⟩⟩
def InvOf.newBox(h:InvOf P c σ a S){d:Nat}(hd:d<c.N){u:Ty}{m:Md}{y:u.den}{v:Value}{p:Place}(hs:SR P u S m p y v)(hm:m.noown=true)(E:TypeId) :
  ∃S',S'.w=S.w.alloc (.cells v.cells E)∧InvOf P c (set1 σ d (.v (.ptr u) (.own 0 m) y) 0) (a.put (some d) (.pointer (some ⟨S.w.heap.size,0,none⟩))) S':=by
 let S':St:={S with w:=S.w.alloc (.cells v.cells E),own:=fun b=>if b=S.w.heap.size then some (d,[])else S.own b,hv:=fun z=>if z=(d,[])then .pointer (some ⟨S.w.heap.size,0,none⟩)else S.hv z}
 have hext:Ext S.w S'.w:=Ext.alloc _ _
 obtain⟨hc1,hc2,_⟩:=zbp hs
 refine⟨S',rfl,h.put hext rfl rfl hd (fun t ht q=>if_neg (fun he=>ht (by cases he;rfl))) (fun b=>?_) ?_⟩
 ·by_cases hb:b=S.w.heap.size
  ·subst hb;exact .inr ⟨own_new h,xak _,by show _<(S.w.alloc _).heap.size;simp⟩
  ·exact .inl (if_neg hb)
 ·refine .v (zbi σ d _ 0) ?_
  rw[zai (by rw[h.size];exact hd)]
  refine⟨⟨?_,S.w.heap.size,v.cells,E,if_pos rfl,if_pos rfl,heap_alloc_new S.w _,hc1,?_⟩,fun h=>by cases h⟩
  ·show zab (.ptr u) _ 0=some (if(d,([]:List Nat))=(d,[])then _ else _)
   rw[if_pos rfl]
   simp[zab,Ty.agg]
  ·exact hs.1.free hm (fut2_ext h hext rfl rfl) hc2
def alloc_sound(h:InvOf P c σ a S)(hT:TabOK P T){d t:Nat}(hd:d<c.N){us:Ups}(hx:allocU T d t=some us) :
  ∃v w',(Instr.alloc t true (.tuple #[])).run P S.w=.ok v w'∧Inv P c (upd us σ) (a.put (some d) v) w':=by
 unfold allocU at hx
 split at hx
 case h_2=>cases hx
 rename_i i u ht
 simp only[xad]at hx
 obtain⟨z,hz,rfl⟩:=hx
 obtain⟨hty,_,_,_⟩:=hT.kind ht
 obtain⟨j,dd,hi,hdd,hzz,_⟩:=zax hty
 obtain⟨S',h1,h2⟩:=h.newBox hd (zcx (P:=P) (S:=S) (p:=(0,[])) hz) rfl t
 refine⟨_,_,?_,S',h1,h2⟩
 simp[Instr.alloc,zeroValue,typeInfo,hi,hzz,newVar,newRow]
def box_sound(h:InvOf P c σ a S){d t:Nat}(hd:d<c.N){x:Operand}{us:Ups}(hx:boxU T d t (look σ x)=some us) :
  ∃v w',(Instr.box t (a.eval x)).run P S.w=.ok v w'∧Inv P c (upd us σ) (a.put (some d) v) w':=by
 unfold boxU at hx
 split at hx
 case h_2=>cases hx
 rename_i i u ht
 split at hx
 case h_2=>cases hx
 rename_i m y hv
 split at hx
 case isFalse=>cases hx
 rename_i hm
 cases hx
 obtain⟨p,hs⟩:=h.val hv
 obtain⟨S',h1,h2⟩:=h.newBox hd (zmg hs) (zmh hm) t
 refine⟨_,_,?_,S',h1,h2⟩
 simp[Instr.box,newVar,newRow]
def Rel.fits{u:Ty}{m:Md}{p:Place}{y:u.den}{w:World}{b off:Nat}{cur:Array Value}{e:TypeId}(h:Rel P u S m p y (blk w b off))(hb:w.heap[b]?=some (.cells cur e (0,0)))(h0:off≤cur.size):off+u.size≤cur.size:=by
 rcases xda u.size with hz|hz
 ·omega
 ·obtain⟨v,h1,_⟩:=h.cells (u.size-1) (by omega)
  rw[zlr hb]at h1
  have:off+(u.size-1)<cur.size:=by
   rcases xcy (off+(u.size-1)) cur.size with h'|h'
   ·exact h'
   ·have h1':cur[off+(u.size-1)]?=some v:=h1
    rw[xga h']at h1';cases h1'
  omega
def zgj:∀{π:List Nat} {t:Ty} {m k m':Md},setM π t m k=some m'→∃k0,zbe π t m=some k0
 | [],_,m,_,_,_=>⟨m,rfl⟩
 |i::π,.pair a b,m,k,m',h=>by
  match i with
  | 0=>simp only[setM,xad]at h;obtain⟨_,h1,_⟩:=h;exact zgj (t:=a) h1
  | 1=>simp only[setM,xad]at h;obtain⟨_,h1,_⟩:=h;exact zgj (t:=b) h1
  |i+2=>simp[setM]at h
 |i::π,.arr n t,m,k,m',h=>by
  rw[zvp]at h
  simp only[xcb]at h
  obtain⟨_,h1,_⟩:=h
  rw[modeP_arr]
  exact zgj h1
 |i::π,.slice t,m,k,m',h=>by
  obtain⟨e,j,rfl⟩:=zld h
  rw[ztw]at h
  simp only[xcb]at h
  obtain⟨_,h1,_⟩:=h
  rw[modeP_slice]
  exact zgj h1
 |i::π,.ptr t,m,k,m',h=>by
  match i with
  | 0=>
   cases m<;>first | (simp[setM]at h;done) | skip
   simp only[setM,xad]at h
   obtain⟨_,h1,_⟩:=h
   exact zgj (t:=t) h1
  |i+1=>cases m<;>simp[setM]at h
 |_::_,.int _,_,_,_,h=>by simp[setM]at h
 |_::_,.bool,_,_,_,h=>by simp[setM]at h
 |_::_,.str,_,_,_,h=>by simp[setM]at h
 |_::_,.unit,_,_,_,h=>by simp[setM]at h
 |_::_,.fn1 _ _,_,_,_,h=>by simp[setM]at h
 |_::_,.fn2 _ _ _,_,_,_,h=>by simp[setM]at h
 |_::_,.alt _ _ _,_,_,_,h=>by simp[setM]at h
 |_::_,.nilI,_,_,_,h=>by simp[setM]at h
def store_sound(h:InvOf P c σ a S)(hT:TabOK P T){t:Nat}{A V:Operand}{us:Ups}(hx:storeU T t (look σ A) (look σ V)=some us) :
  ∃w',(Instr.storeAt t (a.eval A) (a.eval V)).run P S.w=.ok () w'∧Inv P c (upd us σ) a w':=by
 unfold storeU at hx
 split at hx
 case h_2=>cases hx
 rename_i i u p ht hp
 split at hx
 case h_2=>cases hx
 rename_i old hg
 split at hx
 case isFalse=>cases hx
 rename_i hold
 obtain⟨hty,hsz,_,_⟩:=hT.kind ht
 obtain⟨hr,hc,hπ,hok,_⟩:=h.place hp
 have run:∀{q:List Nat} {off b:Nat} {cur:Array Value} {e:TypeId} {v:Value} {k:Md} {y:u.den} {pl:Place},S.w.heap[b]?=some (.cells cur e (0,0))→off+u.size≤cur.size→SR P u S k pl y v →
   (Instr.storeAt t (.pointer (some ⟨b,off,none⟩)) v).run P S.w=.ok () (S.w.setRow b (splice cur off v.cells.toList)):=fun{q off b cur e v k y pl} hb hfit hs=>by
  obtain⟨h1,_,h3⟩:=zbp hs
  exact run_storeAt hty hb (by rw[h1,hsz]) (by rw[hsz];exact hfit) h3
 have part:∀{k m':Md},setM p.π p.t p.m k=some m'→∃(q:List Nat) (off b:Nat) (cur:Array Value) (e:TypeId),locP p.π p.t=some (some q,off)∧hvB (S.hv (p.r,q))=some b∧S.own b=some (p.r,q)∧S.w.heap[b]?=some (.cells cur e (0,0))∧a.eval A=.pointer (some ⟨b,off,none⟩)∧off+u.size≤cur.size:=fun{k m'} hm=>by
  obtain⟨k0,hk0⟩:=zgj hm
  obtain⟨u',y',q,off,b,cur,e,h1,h2,h3,h4,h5,h6,h7⟩:=h.partAt hp hk0
  rw[hg]at h1
  cases h1
  simp only at hold
  obtain⟨hold,hz⟩:=hold
  subst hold
  refine⟨q,off,b,cur,e,h2,h3,h4,h5,h6,?_⟩
  obtain⟨v,h8,_⟩:=h7.cells 0 hz
  rw[zlr h5]at h8
  have h8':cur[off+0]?=some v:=h8
  exact h7.fits h5 (by
   rcases xcy off cur.size with h'|h'
   ·exact xfm h'
   ·rw[xdl,xga h']at h8';cases h8')
 split at hx
 case h_2=>cases hx
 rename_i m y hv
 split at hx
 ·rename_i hm
  split at hx
  case h_2=>cases hx
  rename_i m' x' hm' hx'
  cases hx
  obtain⟨q,off,b,cur,e,h2,h3,h4,h5,h6,h7⟩:=part hm'
  obtain⟨pl,hs⟩:=h.val hv
  rw[h6]
  exact⟨_,run (q:=q) h5 h7 hs,_,rfl,h.store hr h2 hok h3 h4 h5 hm' hx' h7 hs hm⟩
 ·cases V with
  |const v=>simp[look]at hx
  |func f=>simp[look]at hx
  |global g=>simp[look]at hx
  |tmp s=>
   simp only[look]at hx
   split at hx
   case h_2=>cases hx
   rename_i t' k z he
   split at hx
   ·cases hx
   rename_i hne
   simp only[not_or,ne_eq,xia]at hne
   obtain⟨hne,htu⟩:=hne
   subst htu
   split at hx
   case h_2=>cases hx
   rename_i m' x' hm' hx'
   cases hx
   obtain⟨q,off,b,cur,e,h2,h3,h4,h5,h6,h7⟩:=part hm'
   rw[h6,zbb]
   exact⟨_,run (q:=q) h5 h7 (h.slot he),_,rfl,h.give hr he hne h2 hok hπ h3 h4 h5 hm' hx' h7⟩
def zvu(a:Act)(r:Nat):a.put (some r) (tmv a r)=a:=by
 have:a.tmps.setIfInBounds r (tmv a r)=a.tmps:=by
  apply Array.ext_getElem?
  intro i
  rw[Array.getElem?_setIfInBounds]
  split
  ·rename_i h
   subst h
   split
   ·rename_i h;unfold tmv;rw[xfg,xcg h];rfl
   ·rename_i h;rw[xga (by omega)]
  ·rfl
 show({a with tmps:=a.tmps.setIfInBounds r (tmv a r)}:Act)=a
 rw[this]
def ztb(h:InvOf P c σ a S){ty d:Nat}(hd:d<c.N){o:Operand}{us:Ups}(hx:asgU T ty d (look σ o)=some us):∃S1,S1.w=S.w∧S1.F=S.F∧S1.B=S.B∧InvOf P c (upd us σ) (a.put (some d) (a.eval o)) S1:=by
 have mvE:∀{o:Operand} {us:Ups},(zim T ty (look σ o)).map (fun e=>[(d,e,0)])=some us→∃S1,S1.w=S.w∧S1.F=S.F∧S1.B=S.B∧InvOf P c (upd us σ) (a.put (some d) (a.eval o)) S1:=fun{o us} hx=>by
  simp only[xad]at hx
  obtain⟨e,h1,rfl⟩:=hx
  exact⟨S,rfl,rfl,rfl,h.putE hd (h.move_sound h1)⟩
 cases o with
 |const v=>exact mvE hx
 |func f=>exact mvE hx
 |global g=>exact mvE hx
 |tmp s=>
  have hx0:=hx
  simp only[look,asgU]at hx
  split at hx
  ·rename_i t m x he
   rw[zbb]
   split at hx
   ·rename_i hm
    cases hx
    exact⟨S,rfl,rfl,rfl,h.putE hd ⟨hm,_,h.slot he⟩⟩
   ·split at hx
    ·cases hx
    rename_i hne
    cases hx
    exact⟨mv S (s,[]) (d,[]),rfl,rfl,rfl,h.moveAll he hne hd⟩
  ·rename_i r π s' he
   have hrt:zdl σ (σ s).e=σ r:=by rw[he];rfl
   rw[hrt]at hx
   split at hx
   case h_2=>cases hx
   rename_i tr mr xr hroot
   split at hx
   case isFalse=>cases hx
   rename_i hgen
   obtain⟨_,hvw⟩:=(h.ent s).view he
   obtain⟨hok,hval⟩:=hvw tr mr xr hroot hgen
   rw[zbb,hval]
   split at hx
   case h_2=>cases hx
   rename_i e k u y hm hg
   split at hx
   ·rename_i hrd
    split at hx
    case isFalse=>cases hx
    rename_i hπ
    cases hx
    subst hπ hrd
    simp only[getP,xat]at hg
    cases hg
    simp only[zbe,xat]at hm
    subst hm
    rw[←h.hdr hroot,zvu]
    exact⟨S,rfl,rfl,rfl,h⟩
   ·rename_i hrd
    split at hx
    ·rename_i hπ
     cases hx
     subst hπ
     simp only[getP,xat]at hg
     cases hg
     simp only[zbe,xat]at hm
     subst hm
     rw[←h.hdr hroot]
     exact⟨mv S (r,[]) (d,[]),rfl,rfl,rfl,h.moveAll hroot hrd hd⟩
    ·split at hx
     case h_2=>cases hx
     rename_i m' hs
     cases hx
     obtain⟨u',y',l,cs',h1,h2,h3,h4⟩:=Rel.at (h.slot hroot).1 hm hok
     rw[hg]at h1
     cases h1
     rw[zbh]at h3
     refine⟨mv S (r,π) (d,[]),rfl,rfl,rfl,h.takePart hroot hrd hd hm hg hok hs (fun cs l' hl hcs i hi=>?_) fun h=>by cases h⟩
     have:i=0:=by simp only[Ty.size]at hi;omega
     subst this
     rw[hl]at h2
     cases h2
     have hcc:cs=cs':=by
      obtain⟨q,off⟩:=l
      cases q with
      |none=>exact hcs.trans h4.symm
      |some q=>
       obtain⟨b,h5,h6⟩:=hcs
       obtain⟨b',h7,_,h8,_⟩:=h4
       rw[zbh]at h7
       rw[h5]at h7
       cases h7
       exact h6.trans h8.symm
     rw[hcc,h3.2.2.1]
     simp[zab,Ty.agg]
  ·rename_i es he
   rw[zbb]
   split at hx
   ·cases hx
   rename_i hne
   cases hx
   exact⟨mv S (s,[]) (d,[]),rfl,rfl,rfl,h.moveTup he hne hd⟩
  ·exact mvE hx
def InvOf.takeTup(h:InvOf P c σ a S){s d i:Nat}{es:List TM}{e:TM}(hs:(σ s).e=.tup es)(hne:s≠d)(hd:d<c.N)(hi:es[i]?=some e){vs:Array Value}{v:Value}(hvs:tmv a s=.tuple vs)(hv:vs[i]?=some v) :
  InvOf P c (set1 (set1 σ s (.tup (es.set i ⟨e.t,.dead,e.x⟩)) 0) d (.v e.t e.m e.x) 0) (a.put (some d) v) (mv S (s,[i]) (d,[])):=by
 have hsr:=h.ent s
 unfold SlotOK at hsr
 rw[hs]at hsr
 obtain⟨vs',h1,h2,h3⟩:=hsr
 rw[hvs]at h1
 cases h1
 obtain⟨v',h4,h5⟩:=h3 i e hi
 rw[hv]at h4
 cases h4
 obtain⟨q1,q2,q3⟩:=h.mvOwned (p:=(s,[i])) (q:=(d,[]))
 refine h.rebuild (fun t=>t=s∨t=d) (by simpa[Act.put]using h.defers) (by simpa[Act.put]using h.size)
  (fun t ht=>⟨by rw[zan _ _ _ (fun e=>ht (.inr e)),zan _ _ _ (fun e=>ht (.inl e))],zbj fun e=>ht (.inr e)⟩) (fun r hr=>?_) (fun t ht=>?_) (fun _ h=>h) (fun _ _=>rfl) rfl (fun _ _=>rfl)
  (fun t ht q=>zea fun ρ he=>ht (.inr (zdr he))) (fun t ht b q hb=>⟨zdt hb fun ρ he=>ht (.inl (zdr he)),rfl⟩) q1 q2 q3 rfl rfl rfl (xak _) (fun _ _ _=>rfl)
 ·by_cases hrd:r=d
  ·subst hrd
   exact⟨by rw[zah];exact xak _,.inl (by rw[zah,zan _ _ _ (Ne.symm hne)];exact xct _)⟩
  ·have hrs:=hr.resolve_right hrd
   subst hrs
   exact⟨by rw[zan _ _ _ hrd,zah];exact xak _,.inl (by rw[zan _ _ _ hrd,zah];exact xct _)⟩
 ·by_cases htd:t=d
  ·subst htd
   refine .v (zbi _ _ _ 0) ?_
   rw[zai (by rw[h.size];exact hd)]
   exact h5.mono (.inl rfl) (mv_tr S _ _)
  ·have hts:=ht.resolve_right htd
   subst hts
   unfold SlotOK
   rw[zan _ _ _ htd,zbi,zbj htd]
   refine⟨vs,hvs,by rw[xcd];exact h2,fun k e' hk=>?_⟩
   rw[xfw]at hk
   split at hk
   ·rename_i hik
    subst hik
    split at hk
    ·cases hk
     exact⟨v,hv,(h5.1.weaken (zwh _ _)).dead_any fun _ _=>rfl,h5.2⟩
    ·cases hk
   ·rename_i hik
    obtain⟨u,h6,h7⟩:=h3 k e' hk
    refine⟨u,h6,h7.mono (.inl rfl) ⟨fun _ h=>h,fun _ _=>rfl,fun _ _ h=>.inr h,fun _ _ _=>rfl,fun r=>zea fun ρ he=>htd (zdr he),fun b r hb=>⟨zdt hb fun ρ he=>?_,rfl⟩⟩⟩
    simp only[pa,xca,xci,xba,List.cons.injEq,xgt]at he
    exact hik he.1.symm
def ext_sound(h:InvOf P c σ a S){d i:Nat}(hd:d<c.N){o:Operand}{us:Ups}(hx:extU d i (look σ o)=some us) :
  ∃v,(Instr.extract (a.eval o) i).run P S.w=.ok v S.w∧Inv P c (upd us σ) (a.put (some d) v) S.w:=by
 cases o with
 |const v=>simp[look,extU]at hx
 |func f=>simp[look,extU]at hx
 |global g=>simp[look,extU]at hx
 |tmp s=>
  simp only[look,extU]at hx
  split at hx
  case h_2=>cases hx
  rename_i es he
  split at hx
  ·cases hx
  rename_i hne
  split at hx
  case h_2=>cases hx
  rename_i e hi
  have hsr:=h.ent s
  unfold SlotOK at hsr
  rw[he]at hsr
  obtain⟨vs,h1,h2,h3⟩:=hsr
  obtain⟨v,h4,h5⟩:=h3 i e hi
  refine⟨v,by rw[zbb,h1];simp[Instr.extract,h4],?_⟩
  split at hx
  ·rename_i hm
   cases hx
   exact⟨S,rfl,h.putE hd ⟨hm,_,h5⟩⟩
  ·cases hx
   exact⟨mv S (s,[i]) (d,[]),rfl,h.takeTup he hne hd hi h1 h4⟩
end
def zsm(path:Nat→Option (List Nat))(l:Operand→Opd)(u:Ty):List (Nat×Operand)→Md→u.den→Option (Md×u.den)
 | [],m,x=>some (m,x)
 |(i,o)::rest,m,x=>match path i with
  |none=>none
  |some ρ=>match getP ρ u x with
   |none=>none
   |some old=>match(l o).val old.t with
    |none=>none
    |some (k,y)=>if k.noown then match setM ρ u m (nm old.t k),setP ρ u x ⟨old.t,y⟩with
      |some m',some x'=>zsm path l u rest m' x'
      |_,_=>none
     else none
def buildE(T:Tab)(t:Nat)(ps:List (Nat×Operand))(l:Operand→Opd):Option Ent:=
 match tl T t with
 |some (i,u)=>match cval u i.zero with
  |some z=>match i.k with
   | .struct offs=>(zsm (zjj offs.length) l u ps .sh z).bind fun q=>if q.1.noown then some (.v u (nm u q.1) q.2)else none
   | .array n _=>(zsm (fun i=>if i<n then some [i]else none) l u ps .sh z).bind fun q=>if q.1.noown then some (.v u (nm u q.1) q.2)else none
   |_=>none
  |none=>none
 |none=>none
def limX:∃n:Int,n=4294967296:=⟨_,rfl⟩
noncomputable def LIM:Int:=Classical.choose limX
def zbv:LIM=4294967296:=xdy limX
def litU(T:Tab)(fl:Nat)(d t len:Nat)(ps:List (Nat×Operand))(l:Operand→Opd):Option Ups:=
 match tl T t with
 |some (i,.slice u)=>match i.k with
  | .slice e=>match tl T e with
   |some (j,_)=>match cval u j.zero with
    |some z=>if 0<u.size∧len*u.size≤16777216 then
      match zsm (fun i=>if i<len then some [i]else none) l (.arr len u) ps (if fl=1 then .bw else .sh) (List.replicate len z)with
      |some (m,x)=>if m.noown then some [(d,.v (.slice u) (.own e m) x,0)]else none
      |none=>none
     else none
    |none=>none
   |none=>none
  |_=>none
 |_=>none
noncomputable def makeU (T:Tab) (d t:Nat) (o o':Opd):Option (Bool×Ups):=
 match tl T t,o.ival,o'.ival with
 |some (i,.slice u),some (k,n),some (k',n')=>match i.k with
  | .slice e=>match tl T e with
   |some (j,_)=>match cval u j.zero with
    |some z=>if k=k'∧0<u.size∧j.bytes≤16384 then some (decide (n'=n)&&(decide (0≤n)&&decide (n≤LIM)),[(d,.v (.slice u) (.own e .sh) (List.replicate n.toNat z),0)])else none
    |none=>none
   |none=>none
  |_=>none
 |_,_,_=>none
section
variable {P:Program} {c:Ctx} {σ:Env} {a:Act} {S:St} {T:Tab}
def Fr.refl(S:St)(p:Place)(π:List Nat):Fr S S p π none:=⟨fun _ h=>h,fun _ _=>rfl,fun _ h=>.inr h,fun _ _=>rfl,fun _ _=>rfl,fun _ _ _ h=>⟨h,fun _=>rfl⟩⟩
def zmr(h:InvOf P c σ a S){S1:St}(hF:Fut2 S S1){u:Ty}{p:Place}{place:Nat→Option (Nat×Nat)}{path:Nat→Option (List Nat)}
  (hpp:∀i ρ x tv,path i=some ρ→getP ρ u x=some tv→∃off,place i=some (off,tv.t.size)∧locP ρ u=some (none,off)∧okP S1 ρ u p) :
  ∀(ps:List (Nat×Operand)) (m:Md) (x:u.den) (cs:Array Value) (m':Md) (x':u.den),cs.size=u.size→Rel P u S1 m p x (fun i=>cs[i]?)→zsm path (look σ) u ps m x=some (m',x') →
   ∃cs',Instr.fill place cs (ps.map fun q=>(q.1,a.eval q.2))=some cs'∧cs'.size=u.size∧Rel P u S1 m' p x' (fun i=>cs'[i]?)
 | [],m,x,cs,m',x',hsz,hr,hf=>by
  simp only[zsm,xat,xba]at hf
  obtain⟨rfl,rfl⟩:=hf
  exact⟨cs,rfl,hsz,hr⟩
 |(i,o)::rest,m,x,cs,m',x',hsz,hr,hf=>by
  simp only[zsm]at hf
  split at hf
  ·cases hf
  rename_i ρ hρ
  split at hf
  ·cases hf
  rename_i old hg
  split at hf
  ·cases hf
  rename_i k y hv
  split at hf
  case isFalse=>cases hf
  rename_i hk
  split at hf
  case h_2=>cases hf
  rename_i m1 x1 hm1 hx1
  obtain⟨off,hpl,hloc,hok⟩:=hpp i ρ x old hρ hg
  obtain⟨pl,hs⟩:=h.val hv
  have hs:=zmg hs
  obtain⟨hc1,hc2,_⟩:=zbp hs
  have hfit:=zpe (S:=S1) hloc hx1 hok
  have hcond:¬(((a.eval o).cells.size≠old.t.size||decide (off+(a.eval o).cells.size>cs.size))=true):=by simp[hc1];omega
  have hfold:=zsg off (a.eval o).cells.toList 0 cs (by simp[hc1];omega)
  have hspl:((a.eval o).cells.zipIdx.foldl (fun cs (x:Value×Nat)=>cs.setIfInBounds (off+x.2) x.1) cs)=splice cs off (a.eval o).cells.toList:=by
   apply xil
   rw[←Array.foldl_toList,Array.toList_zipIdx]
   unfold splice
   simpa using hfold
  have hfit':off+(a.eval o).cells.toList.length≤cs.size:=by simp[hc1];omega
  have hr1:Rel P u S1 m1 p x1 (fun i=>(splice cs off (a.eval o).cells.toList)[i]?):=by
   refine hr.updA hloc hm1 hx1 hok (.refl S1 p ρ) (fun j hj hjo=>znq hfit' (by simp[hc1];exact hjo)) ?_
   refine(hs.1.free (zmh hk) hF fun j hj=>?_)
   rw[zra hfit' (by simp[hc1];exact hj),xbm,hc2 j hj]
  obtain⟨cs',h1,h2,h3⟩:=zmr h hF hpp rest m1 x1 _ m' x' (by rw[zig hfit'];exact hsz) hr1 hf
  refine⟨cs',?_,h2,h3⟩
  simp only[xen]
  unfold Instr.fill
  rw[hpl]
  simp only
  rw[if_neg hcond,hspl]
  exact h1
def build_sound(h:InvOf P c σ a S)(hT:TabOK P T){t:Nat}{ps:Array (Nat×Operand)}{e:Ent}(hx:buildE T t ps.toList (look σ)=some e) :
  ∃v,(Instr.build t (ps.map fun(i,x)=>(i,a.eval x))).run P S.w=.ok v S.w∧zje P S σ e v:=by
 unfold buildE at hx
 split at hx
 case h_2=>cases hx
 rename_i i u ht
 split at hx
 case h_2=>cases hx
 rename_i z hz
 obtain⟨hty,hsz,hag,hkind⟩:=hT.kind ht
 obtain⟨j,d,hi,hd,hzz,hs,_,hk⟩:=zax hty
 have hzs:=zcx (P:=P) (S:=S) (p:=(0,[])) hz
 obtain⟨hz1,hz2,_⟩:=zbp hzs
 have hz0:Rel P u S .sh (0,[]) z (fun i'=>i.zero.cells[i']?):=hzs.1.cong hz2
 have hmap:(ps.map fun(x:Nat×Operand)=>(x.1,a.eval x.2)).toList=ps.toList.map fun q=>(q.1,a.eval q.2):=by simp
 have fin:∀{cs:Array Value} {m:Md} {x:u.den},u.agg=true→cs.size=u.size→Rel P u S m (0,[]) x (fun i=>cs[i]?)→m.noown=true→zje P S σ (.v u (nm u m) x) (.agg cs):=fun{cs m x} hag hcs hr hm=>by
  refine⟨zmh hm,(0,[]),zmg ⟨?_,fun _=>⟨cs,rfl,hcs⟩⟩⟩
  unfold zab
  rw[if_pos hag]
  exact hr
 split at hx
 ·rename_i offs hoffs
  obtain⟨fs,rfl,hm⟩:=zhm (hk.trans (xbx some hoffs))
  rw[hoffs]at hkind
  obtain⟨fs',hfl,ho⟩:=zey hkind
  have hagg:u.agg=true:=by obtain⟨A,B,rfl⟩:=zgz hfl;rfl
  simp only[xcb]at hx
  obtain⟨⟨m',x'⟩,h1,h2⟩:=hx
  split at h2
  case isFalse=>cases h2
  rename_i hno
  cases h2
  obtain⟨cs',h3,h4,h5⟩:=zmr h (.refl S) (p:=(0,[])) (place:=fun(k:Nat)=>offs[k]?) (path:=zjj offs.length) (fun i ρ x tv hρ hg=>by
   obtain⟨u',y',o,h6,h7,h8,h9,h10⟩:=zgy (S:=S) (o0:=0) (x:=x) (p:=(0,[])) hfl hρ
   rw[hg]at h7
   cases h7
   refine⟨o,?_,h8,h9⟩
   rw[←ho,xdc]at h10
   exact h10) _ _ _ i.zero.cells _ _ hz1 hz0 h1
  refine⟨.agg cs',run_build S.w t _ cs' ?_,fin hagg h4 h5 hno⟩
  simp only[Program.built,hi,hd,hzz,hm]
  rw[hmap]
  have:(fun(x:Nat)=>offs.toArray[x]?)=fun(k:Nat)=>offs[k]?:=by funext k;simp
  rw[this]
  exact h3
 ·rename_i n e1 he1
  have:=zqr (hk.trans (xbx some he1))
  subst this
  cases hu:u with
  |arr n' s=>
   subst hu
   rw[he1]at hkind
   simp only[zfr]at hkind
   split at hkind
   case h_2=>cases hkind
   rename_i n2 s1 i1 s2 hs1 hs2
   cases hs1
   simp only[xan,xam]at hkind
   obtain⟨rfl,rfl⟩:=hkind
   obtain⟨hty1,hsz1,_,_⟩:=hT.kind hs2
   obtain⟨j',d',hi',hd',_,hs',_,_⟩:=zax hty1
   simp only[xcb]at hx
   obtain⟨⟨m',x'⟩,h1,h2⟩:=hx
   split at h2
   case isFalse=>cases h2
   rename_i hno
   cases h2
   obtain⟨cs',h3,h4,h5⟩:=zmr h (.refl S) (p:=(0,[])) (place:=fun k=>some (k*i1.size,i1.size)) (path:=fun i=>if i<n then some [i]else none) (fun i ρ x tv hρ hg=>by
    split at hρ
    ·rename_i hin
     cases hρ
     rw[zkw]at hg
     simp only[getP,xat]at hg
     subst hg
     exact⟨i*s.size,by rw[hsz1],by rw[zej];simp[locP],by rw[zew];exact⟨hin,trivial⟩⟩
    ·cases hρ) _ _ _ i.zero.cells _ _ hz1 hz0 h1
   refine⟨.agg cs',run_build S.w t _ cs' ?_,fin rfl h4 h5 hno⟩
   simp only[Program.built,hi,hd,hzz,hi',hs']
   rw[hmap]
   exact h3
  |_=>subst hu;rw[he1]at hkind;simp[zfr]at hkind
 ·cases hx
def nilM(T:Tab)(e n:Nat)(u:Ty)(v:Value):List Nat→Md→u.den→Md×u.den
 | [],M,z=>(M,z)
 |i::r,M,z=>match zjj n i with
  |some π=>match locP π u,getP π u z,tl T e with
   |some (none,off),some ⟨.slice s,_⟩,some (_,s')=>match v.cells[off]? with
    |some (.slice none 0 0)=>if s=s'∧0<s.size then match setM π u M (.own e .sh),setP π u z ⟨.slice s,[]⟩with
     |some M',some z'=>nilM T e n u v r M' z'
     |_,_=>nilM T e n u v r M z else nilM T e n u v r M z
    |_=>nilM T e n u v r M z
   |_,_,_=>nilM T e n u v r M z
  |none=>nilM T e n u v r M z
def nilMs(T:Tab)(n:Nat)(u:Ty)(v:Value):List (Nat×Nat)→Md→u.den→Md×u.den
 | [],M,z=>(M,z)
 |(i,e)::r,M,z=>match nilM T e n u v [i] M z with
  |(M',z')=>nilMs T n u v r M' z'
def decN:Nat→Nat→List (Nat×Nat)
 | 0,_=>[]
 |k+1,c=>if c=0 then []else((c%100000)/1000,c%1000)::decN k (c/100000)
def nilX(T:Tab)(fl n:Nat)(u:Ty)(v:Value)(z:u.den):Md×u.den:=
 if fl<1000000000 then nilM T (fl-4) n u v (List.range n) .sh z else nilMs T n u v (decN 8 (fl-1000000000)) .sh z
def ownOp:Opd→Bool
 | .slot _ cc _=>match cc.e with
  | .v _ m _=>!m.noown
  |_=>false
 |_=>false
def zjx(path:Nat→Option (List Nat))(l:Operand→Opd)(d:Nat)(u:Ty):List (Nat×Operand)→List Nat→Md→u.den→Option Ups
 | [],_,_,_=>some []
 |(i,o)::rest,used,m,x=>match path i with
  |none=>none
  |some ρ=>match l o with
   | .slot s cc _=>match cc.e with
    | .v t k y=>if s=d∨s∈used then none else match getP ρ u x with
     |some old=>if old.t=t then match setM ρ u m k,setP ρ u x ⟨t,y⟩with
      |some m',some x'=>(zjx path l d u rest (s::used) m' x').map fun r=>(s,.dead,0)::(d,.v u m' x',0)::r
      |_,_=>none else none
     |none=>none
    |_=>none
   |_=>none
def zuy(T:Tab)(fl d t:Nat)(ps:List (Nat×Operand))(l:Operand→Opd):Option Ups:=
 match tl T t with
 |some (i,u)=>match cval u i.zero with
  |some z=>match i.k with
   | .struct offs=>match nilX T fl offs.length u i.zero z with
    |(M,z')=>(zsm (zjj offs.length) l u (ps.takeWhile fun p=>!ownOp (l p.2)) M z').bind fun q=>
     (zjx (zjj offs.length) l d u (ps.dropWhile fun p=>!ownOp (l p.2)) [] q.1 q.2).map fun r=>(d,.v u q.1 q.2,0)::r
   |_=>none
  |none=>none
 |none=>none
def zpx{S1:St}{p:Place}(hn:∀π,S1.hv (pa p π)=.slice none 0 0){e n:Nat}{u:Ty}{v:Value}{fs:List Ty}(hfl:flds n u=some fs):∀(is:List Nat) (M:Md) (z:u.den),Rel P u S1 M p z (fun i=>v.cells[i]?)→Rel P u S1 (nilM T e n u v is M z).1 p (nilM T e n u v is M z).2 (fun i=>v.cells[i]?)
 | [],M,z,h=>h
 |i::r,M,z,h=>by
  have ih:=zpx hn (e:=e) (v:=v) hfl r M z h
  unfold nilM
  split
  ·rename_i π hπ
   split
   ·rename_i off s y i2 s' hl hg ht
    split
    ·rename_i hc
     split
     ·rename_i hs
      split
      ·rename_i M' z' hM hz
       refine zpx hn hfl r M' z' ?_
       obtain⟨u',y',o,_,h7,h8,h9,_⟩:=zgy (S:=S1) (o0:=0) (x:=z) (p:=p) hfl hπ
       refine h.updA hl hM hz h9 (.refl S1 p π) (fun _ _ _=>rfl) ?_
       refine⟨xbz _,hs.2,?_,.inl ⟨hn π,rfl⟩⟩
       show v.cells[off+0]?=_
       rw[xdl,hc,hn]
      ·exact ih
     ·exact ih
    ·exact ih
   ·exact ih
  ·exact ih
def nilMs_rel{S1:St}{p:Place}(hn:∀π,S1.hv (pa p π)=.slice none 0 0){n:Nat}{u:Ty}{v:Value}{fs:List Ty}(hfl:flds n u=some fs):∀(is:List (Nat×Nat)) (M:Md) (z:u.den),Rel P u S1 M p z (fun i=>v.cells[i]?)→Rel P u S1 (nilMs T n u v is M z).1 p (nilMs T n u v is M z).2 (fun i=>v.cells[i]?)
 | [],_,_,h=>h
 |(i,e)::r,M,z,h=>nilMs_rel hn hfl r _ _ (zpx hn (e:=e) hfl [i] M z h)
def nilX_rel{S1:St}{p:Place}(hn:∀π,S1.hv (pa p π)=.slice none 0 0){n:Nat}{u:Ty}{v:Value}{fs:List Ty}(fl:Nat)(hfl:flds n u=some fs)(z:u.den)(h:Rel P u S1 .sh p z (fun i=>v.cells[i]?)):Rel P u S1 (nilX T fl n u v z).1 p (nilX T fl n u v z).2 (fun i=>v.cells[i]?):=by
 unfold nilX
 split
 ·exact zpx hn hfl _ _ _ h
 ·exact nilMs_rel hn hfl _ _ _ h
def zsl(place:Nat→Option (Nat×Nat)):∀(ps qs:List (Nat×Value)) (cs cs':Array Value),Instr.fill place cs ps=some cs'→Instr.fill place cs (ps++qs)=Instr.fill place cs' qs
 | [],qs,cs,cs',h=>by
  unfold Instr.fill at h
  cases h
  rfl
 |(i,v)::ps,qs,cs,cs',h=>by
  unfold Instr.fill at h
  rw[xca]
  conv=>lhs;unfold Instr.fill
  split at h
  ·cases h
  rename_i off n hp
  split at h
  ·cases h
  rename_i hc
  rw[if_neg hc]
  exact zsl place ps qs _ cs' h
def InvOf.moveIn(h:InvOf P c σ a S){s d:Nat}{t u:Ty}{m m' k:Md}{x x':t.den}{y:u.den}{π:List Nat}{o:Nat}{cs:Array Value}(hd:d<c.N)(hdr:(σ d).e=.v t m x)(hcs:tmv a d=.agg cs)(hsz:cs.size=t.size)(hag:t.agg=true)
  (hs:(σ s).e=.v u k y) (hne:s≠d) (hl:locP π t=some (none,o)) (hok:okP S π t (d,[])) (hm:setM π t m k=some m') (hx:setP π t x ⟨u,y⟩=some x') (hfit:o+u.size≤cs.size) :
  InvOf P c (set1 (set1 σ s .dead 0) d (.v t m' x') 0) (a.put (some d) (.agg (splice cs o (tmv a s).cells.toList))) (mv S (s,[]) (d,π)):=by
 have hsr:=h.slot hs
 have hdr':=h.slot hdr
 obtain⟨hv1,hv2,_⟩:=zbp hsr
 obtain⟨q1,q2,q3⟩:=h.mvOwned (p:=(s,[])) (q:=(d,π))
 have hfit':o+(tmv a s).cells.toList.length≤cs.size:=by simp[hv1];omega
 have hvc:∀(w:Array Value),zab t (.agg w)=fun i=>w[i]?:=fun w=>by unfold zab;rw[if_pos hag]
 refine h.rebuild (fun t=>t=s∨t=d) (by simpa[Act.put]using h.defers) (by simpa[Act.put]using h.size)
  (fun t ht=>⟨by rw[zan _ _ _ (fun e=>ht (.inr e)),zan _ _ _ (fun e=>ht (.inl e))],zbj fun e=>ht (.inr e)⟩) (fun r hr=>?_) (fun t ht=>?_) (fun _ h=>h) (fun _ _=>rfl) rfl (fun _ _=>rfl)
  (fun t ht q=>zea fun ρ he=>ht (.inr (zdr he))) (fun t ht b q hb=>⟨zdt hb fun ρ he=>ht (.inl (zdr he)),rfl⟩) q1 q2 q3 rfl rfl rfl (xak _) (fun _ _ _=>rfl)
 ·by_cases hrd:r=d
  ·subst hrd
   exact⟨by rw[zah];exact xak _,.inl (by rw[zah,zan _ _ _ (Ne.symm hne)];exact xct _)⟩
  ·have hrs:=hr.resolve_right hrd
   subst hrs
   exact⟨by rw[zan _ _ _ hrd,zah];exact xak _,.inl (by rw[zan _ _ _ hrd,zah];exact xct _)⟩
 ·by_cases htd:t=d
  ·subst htd
   refine .v (zbi _ _ _ 0) ?_
   rw[zai (by rw[h.size];exact hd)]
   refine⟨?_,fun _=>⟨_,rfl,by rw[zig hfit'];exact hsz⟩⟩
   have h1:=hdr'.1
   rw[hcs]at h1
   refine h1.updA hl hm hx hok ⟨fun _ h=>h,fun _ _=>rfl,fun _ h=>.inr h,fun _ _=>rfl,fun ρ hρ=>zea fun ρ' he=>by rw[zbh]at he;exact hρ (zmc he),
    fun b' r' _ hb'=>⟨zdt hb' fun ρ he=>by rw[zbh,zbh]at he;cases he;exact hne rfl,fun _=>rfl⟩⟩ (fun j hj hjo=>?_) ?_
   ·rw[hvc,hvc]
    exact znq hfit' (by simp[hv1];exact hjo)
   ·rw[zbh]
    refine hsr.1.mono (q:=true) (.inl rfl) (mv_tr S _ _) fun j hj=>?_
    rw[hvc]
    show(splice cs o _)[o+j]?=_
    rw[zra hfit' (by simp[hv1];exact hj),xbm,hv2 j hj]
  ·have hts:=ht.resolve_right htd
   subst hts
   unfold SlotOK
   rw[zan _ _ _ htd,zbi]
   trivial
def put_putN(a:Act)(d:Nat)(v v':Value):(a.put (some d) v).put (some d) v'=a.put (some d) v':=by
 simp[Act.put]
def zmi{path:Nat→Option (List Nat)}{place:Nat→Option (Nat×Nat)}{d:Nat}(hd:d<c.N){u:Ty}(hag:u.agg=true)
  (hpp:∀(S1:St) i ρ x tv,path i=some ρ→getP ρ u x=some tv→∃off,place i=some (off,tv.t.size)∧locP ρ u=some (none,off)∧okP S1 ρ u (d,[])) :
  ∀(ps:List (Nat×Operand)) (used:List Nat) (m:Md) (x:u.den) (us:Ups) (σ':Env) (a':Act) (S':St) (cs:Array Value),InvOf P c σ' a' S'→(σ' d).e=.v u m x→tmv a' d=.agg cs→cs.size=u.size →
   (∀s,s≠d→s∉used→(σ' s).e=(σ s).e∧tmv a' s=tmv a s)→zjx path (look σ) d u ps used m x=some us →
   ∃cs' S'',Instr.fill place cs (ps.map fun q=>(q.1,a.eval q.2))=some cs'∧S''.w=S'.w∧InvOf P c (upd us σ') (a'.put (some d) (.agg cs')) S''
 | [],used,m,x,us,σ',a',S',cs,h,hdr,hcs,hsz,hk,hx=>by
  simp only[zjx,xat]at hx
  subst hx
  refine⟨cs,S',rfl,rfl,?_⟩
  rw[←hcs,zvu]
  exact h
 |(i,o)::rest,used,m,x,us,σ',a',S',cs,h,hdr,hcs,hsz,hk,hx=>by
  simp only[zjx]at hx
  split at hx
  ·cases hx
  rename_i ρ hρ
  split at hx
  case h_2=>cases hx
  rename_i s cc root hlo
  split at hx
  case h_2=>cases hx
  rename_i t k y he
  split at hx
  ·cases hx
  rename_i hne
  simp only[not_or]at hne
  split at hx
  case h_2=>cases hx
  rename_i old hg
  split at hx
  case isFalse=>cases hx
  rename_i hold
  subst hold
  split at hx
  case h_2=>cases hx
  rename_i m1 x1 hm1 hx1
  simp only[xad]at hx
  obtain⟨r,hr,rfl⟩:=hx
  cases o with
  |const v=>simp[look]at hlo
  |func f=>simp[look]at hlo
  |global g=>simp[look]at hlo
  |tmp s'=>
  simp only[look,Opd.slot.injEq]at hlo
  obtain⟨rfl,rfl,rfl⟩:=hlo
  obtain⟨hk1,hk2⟩:=hk s' hne.1 hne.2
  obtain⟨off,hpl,hloc,hok⟩:=hpp S' i ρ x old hρ hg
  have hes:(σ' s').e=.v old.t k y:=hk1.trans he
  have hsr:=h.slot hes
  obtain⟨hc1,hc2,_⟩:=zbp hsr
  have hfit:=zpe (S:=S') hloc hx1 hok
  have hcond:¬(((a.eval (.tmp s')).cells.size≠old.t.size||decide (off+(a.eval (.tmp s')).cells.size>cs.size))=true):=by
   rw[zbb,←hk2]
   simp[hc1]
   omega
  have hfold:=zsg off (tmv a' s').cells.toList 0 cs (by simp[hc1];omega)
  have hspl:((a.eval (.tmp s')).cells.zipIdx.foldl (fun cs (x:Value×Nat)=>cs.setIfInBounds (off+x.2) x.1) cs)=splice cs off (tmv a' s').cells.toList:=by
   rw[zbb,←hk2]
   apply xil
   rw[←Array.foldl_toList,Array.toList_zipIdx]
   unfold splice
   simpa using hfold
  have hfit':off+(tmv a' s').cells.toList.length≤cs.size:=by simp[hc1];omega
  have h1:=h.moveIn hd hdr hcs hsz hag hes hne.1 hloc hok hm1 hx1 (by omega)
  have hsize:=h.size
  obtain⟨cs',S'',h2,h3,h4⟩:=zmi hd hag hpp rest (s'::used) m1 x1 r _ _ _ _ h1 (zbi _ _ _ 0) (zai (by rw[hsize];exact hd)) (by rw[zig hfit'];exact hsz) (fun s2 h5 h6=>by
   simp only[xbd,not_or]at h6
   obtain⟨h7,h8⟩:=hk s2 h5 h6.2
   exact⟨by rw[zan _ _ _ h5,zan _ _ _ h6.1];exact h7,by rw[zbj h5];exact h8⟩) hr
  refine⟨cs',S'',?_,h3,?_⟩
  ·simp only[xen]
   unfold Instr.fill
   rw[hpl]
   simp only
   rw[if_neg hcond,hspl]
   exact h2
  ·rw[put_putN]at h4
   exact h4
def buildN_sound(h:InvOf P c σ a S)(hT:TabOK P T){fl d t:Nat}(hd:d<c.N){ps:Array (Nat×Operand)}{us:Ups}(hx:zuy T fl d t ps.toList (look σ)=some us) :
  ∃v,(Instr.build t (ps.map fun(i,x)=>(i,a.eval x))).run P S.w=.ok v S.w∧Inv P c (upd us σ) (a.put (some d) v) S.w:=by
 unfold zuy at hx
 split at hx
 case h_2=>cases hx
 rename_i i u ht
 split at hx
 case h_2=>cases hx
 rename_i z hz
 obtain⟨hty,hsz,hag,hkind⟩:=hT.kind ht
 obtain⟨j,d',hi,hd',hzz,hs,_,hk⟩:=zax hty
 have hmap:(ps.map fun(x:Nat×Operand)=>(x.1,a.eval x.2)).toList=ps.toList.map fun q=>(q.1,a.eval q.2):=by simp
 let S1:St:={S with hv:=fun z=>if z.1=d then .slice none 0 0 else S.hv z}
 have hF:Fut2 S S1:=⟨fun _ h=>⟨h,rfl⟩,fun _ h=>⟨.inr h,rfl⟩⟩
 have hzs:=zcx (P:=P) (S:=S1) (p:=(d,[])) hz
 obtain⟨hz1,hz2,_⟩:=zbp hzs
 have hz0:Rel P u S1 .sh (d,[]) z (fun i'=>i.zero.cells[i']?):=hzs.1.cong hz2
 split at hx
 case h_2=>cases hx
 rename_i offs hoffs
 obtain⟨fs,rfl,hm⟩:=zhm (hk.trans (xbx some hoffs))
 rw[hoffs]at hkind
 obtain⟨fs',hfl,ho⟩:=zey hkind
 have hagg:u.agg=true:=by obtain⟨A,B,rfl⟩:=zgz hfl;rfl
 have hnm:=nilX_rel (T:=T) (S1:=S1) (p:=(d,[])) (fun π=>by show(if d=d then _ else _)=_;rw[if_pos rfl]) (v:=i.zero) fl hfl z hz0
 simp only[xcb,xad]at hx
 obtain⟨⟨m',x'⟩,h1,r,hr,rfl⟩:=hx
 have hpp:∀(S1:St) i ρ x tv,zjj offs.length i=some ρ→getP ρ u x=some tv→∃off,offs[i]?=some (off,tv.t.size)∧locP ρ u=some (none,off)∧okP S1 ρ u (d,[]):=fun S1 i ρ x tv hρ hg=>by
  obtain⟨u',y',o,h6,h7,h8,h9,h10⟩:=zgy (S:=S1) (o0:=0) (x:=x) (p:=(d,[])) hfl hρ
  rw[hg]at h7
  cases h7
  refine⟨o,?_,h8,h9⟩
  rw[←ho,xdc]at h10
  exact h10
 obtain⟨cs',h3,h4,h5⟩:=zmr h hF (p:=(d,[])) (place:=fun(k:Nat)=>offs[k]?) (path:=zjj offs.length) (hpp S1) _ _ _ i.zero.cells _ _ hz1 hnm h1
 have h6:InvOf P c (set1 σ d (.v u m' x') 0) (a.put (some d) (.agg cs')) S1:=by
  refine h.put (S':=S1) (.refl _) rfl rfl hd (fun t ht q=>?_) (fun _=>.inl rfl) (.v (zbi σ d _ 0) ?_)
  ·exact if_neg ht
  ·rw[zai (by rw[h.size];exact hd)]
   refine⟨?_,fun _=>⟨cs',rfl,h4⟩⟩
   unfold zab
   rw[if_pos hagg]
   exact h5
 obtain⟨cs2,S2,h7,h8,h9⟩:=zmi (σ:=σ) (a:=a) hd hagg hpp _ [] m' x' r _ _ _ cs' h6 (zbi _ _ _ 0) (zai (by rw[h.size];exact hd)) h4 (fun s hs _=>⟨by rw[zan _ _ _ hs],zbj hs⟩) hr
 refine⟨.agg cs2,run_build S.w t _ cs2 ?_,S2,h8,?_⟩
 ·simp only[Program.built,hi,hd',hzz,hm]
  rw[hmap]
  have:(fun(x:Nat)=>offs.toArray[x]?)=fun(k:Nat)=>offs[k]?:=by funext k;simp
  rw[this]
  conv=>lhs;arg 3;rw[←List.takeWhile_append_dropWhile (p:=fun p=>!ownOp (look σ p.2)) (l:=ps.toList),xdd]
  rw[zsl _ _ _ _ _ h3]
  exact h7
 ·rw[put_putN]at h9
  exact h9
def boxO(T:Tab)(d t:Nat)(x:Opd):Option Ups:=
 match tl T t,x with
 |some (_,u),.slot s cc _=>match cc.e with
  | .v t' m y=>if s=d∨t'≠u then none else some [(s,.dead,0),(d,.v (.ptr t') (.own 0 m) y,0)]
  |_=>none
 |_,_=>none
def boxX(T:Tab)(d t:Nat)(x:Opd):Option Ups:=
 match boxU T d t x with
 |some us=>some us
 |none=>boxO T d t x
def boxO_sound(h:InvOf P c σ a S){d t:Nat}(hd:d<c.N){x:Operand}{us:Ups}(hx:boxO T d t (look σ x)=some us) :
  ∃v w',(Instr.box t (a.eval x)).run P S.w=.ok v w'∧Inv P c (upd us σ) (a.put (some d) v) w':=by
 unfold boxO at hx
 split at hx
 case h_2=>cases hx
 rename_i i u s cc root ht hlo
 split at hx
 case h_2=>cases hx
 rename_i t' m y he
 split at hx
 ·cases hx
 rename_i hne
 simp only[not_or,ne_eq,xia]at hne
 obtain⟨hne,rfl⟩:=hne
 cases hx
 cases x with
 |const v=>simp[look]at hlo
 |func f=>simp[look]at hlo
 |global g=>simp[look]at hlo
 |tmp s'=>
 simp only[look,Opd.slot.injEq]at hlo
 obtain⟨rfl,rfl,rfl⟩:=hlo
 rw[zbb]
 have hsr:=h.slot he
 obtain⟨hc1,hc2,_⟩:=zbp hsr
 obtain⟨q1,q2,q3⟩:=h.mvOwned (p:=(s',[])) (q:=(d,[0]))
 let b0:=S.w.heap.size
 let S0:=mv S (s',[]) (d,[0])
 let S':St:={S0 with w:=S.w.alloc (.cells (tmv a s').cells t),own:=fun b=>if b=b0 then some (d,[])else S0.own b,hv:=fun z=>if z=(d,[])then .pointer (some ⟨b0,0,none⟩)else S0.hv z}
 have hext:Ext S.w S'.w:=Ext.alloc _ _
 have hlt:∀{b},b<S.w.heap.size→b≠b0:=fun h=>Nat.ne_of_lt h
 have hown:∀{b z},S0.own b=some z→S'.own b=some z:=fun{b z} hb=>by
  show(if b=b0 then _ else _)=_
  rw[if_neg (hlt (q3 b z hb).1)];exact hb
 have hsame:∀b,b<S.w.heap.size→S'.w.heap[b]?=S.w.heap[b]?:=fun b hb=>hext.block b hb
 refine⟨.pointer (some ⟨b0,0,none⟩),S'.w,by simp[Instr.box,newVar,newRow];rfl,S',rfl,?_⟩
 refine h.rebuild (S':=S') (fun t=>t=s'∨t=d) (by simpa[Act.put]using h.defers) (by simpa[Act.put]using h.size)
  (fun t ht=>⟨by rw[show upd [(s',Ent.dead,0),(d,.v (.ptr t') (.own 0 m) y,0)] σ=set1 (set1 σ s' .dead 0) d (.v (.ptr t') (.own 0 m) y) 0 from rfl,zan _ _ _ (fun e=>ht (.inr e)),zan _ _ _ (fun e=>ht (.inl e))],zbj fun e=>ht (.inr e)⟩) (fun r hr=>?_) (fun t ht=>?_) (fun _ h=>h) (fun b hb=>hsame b (h.wlt (.inl hb))) rfl (fun b hb=>hsame b (h.wlt (.inr (.inl hb))))
  (fun t ht q=>?_) (fun t ht b q hb=>⟨hown (zdt hb fun ρ he=>ht (.inl (zdr he))),hsame b (h.wlt (.inr (.inr ⟨_,hb⟩)))⟩) (fun b hb=>?_) (fun b hb=>?_) (fun b p hb=>?_) hext.os hext.tape hext.output hext.size (fun b hb _=>hsame b (xau hb h.grown))
 ·show Chg S S' σ (set1 (set1 σ s' .dead 0) d _ 0) r
  by_cases hrd:r=d
  ·subst hrd
   exact⟨by rw[zah];exact xak _,.inl (by rw[zah,zan _ _ _ (Ne.symm hne)];exact xct _)⟩
  ·have hrs:=hr.resolve_right hrd
   subst hrs
   exact⟨by rw[zan _ _ _ hrd,zah];exact xak _,.inl (by rw[zan _ _ _ hrd,zah];exact xct _)⟩
 ·show SlotOK P S' (set1 (set1 σ s' .dead 0) d _ 0) _ t
  by_cases htd:t=d
  ·subst htd
   refine .v (zbi _ _ _ 0) ?_
   rw[zai (by rw[h.size];exact hd)]
   have hhv:S'.hv (t,[])=.pointer (some ⟨b0,0,none⟩):=if_pos rfl
   refine⟨⟨by rw[hhv];simp[zab,Ty.agg],b0,(tmv a s').cells,_,hhv,if_pos rfl,heap_alloc_new S.w _,hc1,?_⟩,fun h=>by cases h⟩
   refine hsr.1.mono (q:=true) (p':=px (t,[]) 0) (.inl rfl) ⟨fun _ h=>h,fun b hb=>hsame b (h.wlt (.inl hb)),fun _ _ h=>.inr h,fun _ b hb=>hsame b (h.wlt (.inr (.inl hb))),fun ρ=>?_,fun b ρ hb=>⟨?_,hsame b (h.wlt (.inr (.inr ⟨_,hb⟩)))⟩⟩ (fun j hj=>hc2 j hj)
   ·have e1:pa (px (t,[]) 0) ρ=pa (t,[0]) ρ:=rfl
    have:S'.hv (pa (t,[0]) ρ)=S0.hv (pa (t,[0]) ρ):=if_neg (by simp[pa])
    rw[e1,this]
    exact mv_hv ρ
   ·exact hown (mv_own hb)
  ·have hts:=ht.resolve_right htd
   subst hts
   unfold SlotOK
   rw[zan _ _ _ htd,zbi]
   trivial
 ·show(if(t,q)=(d,[])then _ else _)=_
  rw[if_neg fun he=>ht (.inr (by cases he;rfl))]
  exact zea fun ρ he=>ht (.inr (zdr he))
 ·have h1:=q1 b hb
  refine⟨?_,xau h1.2.1 hext.size,h1.2.2⟩
  show(if b=b0 then _ else _)=_
  rw[if_neg (hlt h1.2.1)]
  exact h1.1
 ·show(if b=b0 then _ else _)=_
  rw[if_neg (hlt (xau (h.borrowed b hb).2.1 h.grown))]
  exact q2 b hb
 ·have h1:(if b=b0 then some (d,[])else S0.own b)=some p:=hb
  split at h1
  ·rename_i hbb
   subst hbb
   exact⟨by show _<(S.w.alloc _).heap.size;simp[b0],.inl h.grown⟩
  ·have:=q3 b p h1
   exact⟨xau this.1 hext.size,this.2⟩
def boxX_sound(h:InvOf P c σ a S){d t:Nat}(hd:d<c.N){x:Operand}{us:Ups}(hx:boxX T d t (look σ x)=some us) :
  ∃v w',(Instr.box t (a.eval x)).run P S.w=.ok v w'∧Inv P c (upd us σ) (a.put (some d) v) w':=by
 unfold boxX at hx
 split at hx
 ·rename_i us' hu
  cases hx
  exact box_sound h hd hu
 ·exact boxO_sound h hd hx
def InvOf.newOwn(h:InvOf P c σ a S){d:Nat}(hd:d<c.N){w':World}(hw:Ext S.w w'){u:Ty}{e:TypeId}{m:Md}{xs:List u.den}{cap:Nat}{cur:Array Value}(hg:w'.heap[S.w.heap.size]?=some (.cells cur e (0,0)))(hcap:xs.length≤cap)(hcm:cap≤maxLen)
  (hcur:cur.size=cap*u.size) (hpos:0<u.size) (hl:xs.length≤maxL) (hm:m.noown=true) (hr:∀(i:Nat) (h:i<xs.length),∃q,Rel P u S m q xs[i] (fun j=>cur[i*u.size+j]?)) :
  ∃S',S'.w=w'∧InvOf P c (set1 σ d (.v (.slice u) (.own e m) xs) 0) (a.put (some d) (.slice (some ⟨S.w.heap.size,0,none⟩) xs.length cap)) S':=by
 let S':St:={S with w:=w',own:=fun b=>if b=S.w.heap.size then some (d,[])else S.own b,hv:=fun z=>if z=(d,[])then .slice (some ⟨S.w.heap.size,0,none⟩) xs.length cap else S.hv z}
 have hlt:S.w.heap.size<w'.heap.size:=(xbg.1 hg).1
 refine⟨S',rfl,h.put (S':=S') hw rfl rfl hd (fun t ht q=>if_neg (fun he=>ht (by cases he;rfl))) (fun b=>?_) ?_⟩
 ·by_cases hb:b=S.w.heap.size
  ·subst hb;exact .inr ⟨own_new h,xak _,hlt⟩
  ·exact .inl (if_neg hb)
 ·refine .v (zbi σ d _ 0) ?_
  rw[zai (by rw[h.size];exact hd)]
  have hhv:S'.hv (d,[])=.slice (some ⟨S.w.heap.size,0,none⟩) xs.length cap:=if_pos rfl
  refine⟨⟨hl,hpos,by rw[hhv];simp[zab,Ty.agg],.inr ⟨S.w.heap.size,cap,cur,hhv,if_pos rfl,hg,hcap,hcm,hcur,fun i hi=>?_⟩⟩,fun h=>by cases h⟩
  obtain⟨q,h1⟩:=hr i hi
  exact h1.free hm (fut2_ext h hw rfl rfl) fun _ _=>rfl
def leM_sh{M:Md}(hM:M=.sh∨M=.bw):∀u:Ty,leM u .sh M=true:=by
 intro u
 induction u with
 |pair A B ihA ihB=>rcases hM with rfl | rfl<;>(simp only[leM,Md.l,Md.r,ihA,ihB];rfl)
 |arr n t ih=>exact ih
 |slice t ih=>rcases hM with rfl | rfl<;>first | rfl | exact ih
 |ptr t ih=>rcases hM with rfl | rfl<;>first | rfl | exact ih
 |alt tid A B ihA ihB=>rcases hM with rfl | rfl<;>(simp only[leM,ihA,ihB];rfl)
 |_=>rcases hM with rfl | rfl<;>rfl
def zkp{u:Ty}{z:u.den}{v:Value}{S:St}(hs:SR P u S .sh (0,[]) z v)(n:Nat):(madeCells v.cells (n*u.size)).size=n*u.size ∧
  ∀(i:Nat),i<n→∀q,Rel P u S .sh q z (fun j=>(madeCells v.cells (n*u.size))[i*u.size+j]?):=by
 obtain⟨hc1,hc2,_⟩:=zbp hs
 refine⟨by simp[madeCells],fun i hi q=>hs.1.free rfl (.refl S) fun j hj=>?_⟩
 have hlt:i*u.size+j<n*u.size:=by
  have:(i+1)*u.size≤n*u.size:=xav _ hi
  rw[xcl]at this
  omega
 have hmod:(i*u.size+j)%v.cells.size=j:=by rw[hc1,xgy,Nat.add_mul_mod_self_right,xeb hj]
 have hj':j<v.cells.size:=by omega
 rw[←hc2 j hj]
 simp only[madeCells]
 rw[Array.getElem?_map,Array.getElem?_range]
 simp only[hlt,if_true,xcn,hmod]
 rw[xcg hj',getElem!_pos v.cells j hj']
def make_sound(h:InvOf P c σ a S)(hT:TabOK P T){d t:Nat}(hd:d<c.N){o o':Operand}{us:Ups}{ob:Bool}(hx:makeU T d t (look σ o) (look σ o')=some (ob,us))(hob:ob=true) :
  ∃v w',(Instr.makeSlice t (a.eval o) (a.eval o')).run P S.w=.ok v w'∧Inv P c (upd us σ) (a.put (some d) v) w':=by
 unfold makeU at hx
 split at hx
 case h_2=>cases hx
 rename_i i u k n k' n' ht hn hn'
 split at hx
 case h_2=>cases hx
 rename_i e he
 split at hx
 case h_2=>cases hx
 rename_i j u2 hte
 split at hx
 case h_2=>cases hx
 rename_i z hz
 split at hx
 case isFalse=>cases hx
 rename_i hcond
 obtain⟨rfl,hpos,hby⟩:=hcond
 simp only[xat,xba]at hx
 obtain⟨rfl,rfl⟩:=hx
 simp only[xan,xam]at hob
 obtain⟨rfl,h0,h1⟩:=hob
 obtain⟨hty,_,_,hkind⟩:=hT.kind ht
 obtain⟨_,d1,_,hd1,_,_,_,hk1⟩:=zax hty
 obtain⟨e2,i2,hk2,hte2,_⟩:=zcy hkind
 rw[he]at hk2
 cases hk2
 rw[hte]at hte2
 cases hte2
 have:=zeu (hk1.trans (xbx some he))
 subst this
 obtain⟨hty1,hsz1,_,_⟩:=hT.kind hte
 obtain⟨j',d',hi',hd',hzz,hs',hb',_⟩:=zax hty1
 obtain⟨nn,rfl⟩:=xgo h0
 have hnn:nn≤4294967296:=by rw[zbv]at h1;omega
 rw[(h.ival hn).1,(h.ival hn').1]
 have hzs:=zcx (P:=P) (S:=S) (p:=(0,[])) hz
 obtain⟨w',h2,h3,h4⟩:=run_make_full (P:=P) S.w S.w.heap.size t e j' j.zero u.size hd1 hi' hzz (by rw[hs',hsz1]) k k nn (by rw[hb'];exact xbb (xdf hby hnn) (by decide)) (by unfold maxLen;omega) (xak _)
 have hext:Ext S.w w':=⟨h4.os,h4.tape,h4.output,h4.size,fun k hk=>h4.block k hk (by simp)⟩
 obtain⟨_,h5⟩:=h3
 rcases h5 with⟨h5,_⟩|⟨g,cap,cur,h5,_,h6,h7,h8,h9,h10⟩
 ·cases h5
 cases h5
 have hcur:cur.toList=(madeCells j.zero.cells (nn*u.size)).toList:=by
  rw[←h10,xbi (by simp[h9])]
 have hcur':cur=madeCells j.zero.cells (nn*u.size):=xil hcur
 obtain⟨_,hm2⟩:=zkp hzs nn
 obtain⟨S',h11,h12⟩:=h.newOwn hd hext (u:=u) (e:=e) (m:=.sh) (xs:=List.replicate nn z) (cap:=nn) (cur:=cur) h6 (by simp) h8 h9 hpos (by simp[maxL];omega) rfl fun i hi=>by
  simp only[xce]at hi
  refine⟨(0,[]),?_⟩
  rw[xhx,hcur']
  exact hm2 i hi _
 rw[xce]at h12
 refine⟨_,w',h2,S',h11,?_⟩
 show InvOf P c (set1 σ d (.v (.slice u) (.own e .sh) (List.replicate (nn:Int).toNat z)) 0) _ S'
 rw[xaf]
 exact h12
def lit_sound(h:InvOf P c σ a S)(hT:TabOK P T){fl d t len:Nat}(hd:d<c.N){ps:Array (Nat×Operand)}{us:Ups}(hx:litU T fl d t len ps.toList (look σ)=some us) :
  ∃v w',(Instr.buildSlice t len (ps.map fun(i,x)=>(i,a.eval x))).run P S.w=.ok v w'∧Inv P c (upd us σ) (a.put (some d) v) w':=by
 unfold litU at hx
 split at hx
 case h_2=>cases hx
 rename_i i u ht
 split at hx
 case h_2=>cases hx
 rename_i e he
 split at hx
 case h_2=>cases hx
 rename_i j u2 hte
 split at hx
 case h_2=>cases hx
 rename_i z hz
 split at hx
 case isFalse=>cases hx
 rename_i hcond
 obtain⟨hpos,hbig⟩:=hcond
 split at hx
 case h_2=>cases hx
 rename_i m x hfill
 split at hx
 case isFalse=>cases hx
 rename_i hm
 cases hx
 obtain⟨hty,_,_,hkind⟩:=hT.kind ht
 obtain⟨_,d1,_,hd1,_,_,_,hk1⟩:=zax hty
 obtain⟨e2,i2,hk2,hte2,_⟩:=zcy hkind
 rw[he]at hk2
 cases hk2
 rw[hte]at hte2
 cases hte2
 have:=zeu (hk1.trans (xbx some he))
 subst this
 obtain⟨hty1,hsz1,_,_⟩:=hT.kind hte
 obtain⟨j',d',hi',hd',hzz,hs',hb',_⟩:=zax hty1
 have hzs:=zcx (P:=P) (S:=S) (p:=(0,[])) hz
 obtain⟨hm1,hm2⟩:=zkp hzs len
 have hM:(if fl=1 then Md.bw else Md.sh)=.sh∨(if fl=1 then Md.bw else Md.sh)=.bw:=by split<;>simp
 have hleM:leM u .sh (if fl=1 then Md.bw else Md.sh)=true:=leM_sh hM u
 obtain⟨cs',h3,h4,h5⟩:=zmr h (.refl S) (u:=.arr len u) (p:=(0,[])) (place:=fun k=>some (k*j.size,j.size)) (path:=fun i=>if i<len then some [i]else none) (fun i ρ x tv hρ hg=>by
  split at hρ
  ·rename_i hin
   cases hρ
   rw[zkw]at hg
   simp only[getP,xat]at hg
   subst hg
   exact⟨i*u.size,by rw[hsz1],by rw[zej];simp[locP],by rw[zew];exact⟨hin,trivial⟩⟩
  ·cases hρ) _ _ _ (madeCells j.zero.cells (len*u.size)) _ _ hm1 ⟨by simp,fun i hi=>by
   simp only[xce]at hi
   rw[xhx]
   exact(hm2 i hi _).weaken hleM⟩ hfill
 obtain⟨h6,h7⟩:=h5
 have hlen:len≤len*u.size:=Nat.le_mul_of_pos_right _ hpos
 obtain⟨S',h11,h12⟩:=h.newOwn hd (Ext.alloc S.w (.cells cs' e)) (u:=u) (e:=e) (m:=m) (xs:=x) (cap:=len) (cur:=cs') (heap_alloc_new S.w _) (by omega) (by unfold maxLen;omega) h4 hpos (by unfold maxL;omega) hm fun i hi=>⟨_,h7 i hi⟩
 have hmap:(ps.map fun(x:Nat×Operand)=>(x.1,a.eval x.2)).toList=ps.toList.map fun q=>(q.1,a.eval q.2):=by simp
 refine⟨_,_,?_,S',h11,by rw[h6]at h12;exact h12⟩
 have hmade:(Array.range (len*u.size)).map (fun k=>j.zero.cells[k%j.zero.cells.size]!)=madeCells j.zero.cells (len*u.size):=rfl
 have h1':Instr.fill (fun i=>some (i*j.size,j.size)) (madeCells j.zero.cells (len*u.size)) (ps.map fun(x:Nat×Operand)=>(x.1,a.eval x.2)).toList=some cs':=by rw[hmap];exact h3
 rw[hsz1]at h1' hs'
 by_cases hz0:len*u.size=0
 ·have e0:(Array.range (len*u.size)).map (fun k=>(#[]:Array Value)[k%(#[]:Array Value).size]!)=madeCells j.zero.cells (len*u.size):=by rw[hz0];simp[madeCells]
  simp only[Instr.buildSlice,run_underlying hd1,sizeOf,typeInfo,Sem.run_bind,Sem.run_pure,Result.andThen_ok,run_program,hi',hs',if_pos hz0,if_neg (Nat.not_lt.2 hbig),e0,h1',newRow,run_newObj,World.alloc_eq,gt_iff_lt]
 ·simp only[Instr.buildSlice,run_underlying hd1,sizeOf,typeInfo,Sem.run_bind,Sem.run_pure,Result.andThen_ok,run_program,hi',hs',zeroValue,hzz,if_neg hz0,if_neg (Nat.not_lt.2 hbig),hmade,h1',newRow,run_newObj,World.alloc_eq,gt_iff_lt]
end
def elm:Md→Md
 | .own _ k=>k
 |m=>m
def srcU(T:Tab)(ty e d:Nat)(u:Ty)(M0:Md)(o:Opd):Option (Ups×Md×List u.den):=
 match o with
 | .con (.slice none 0 0)=>some ([(d,.v (.slice u) (.own e M0) [],0)],M0,[])
 |o=>match o.val (.slice u)with
  |some (.own e' M,xs)=>if e'=e then(asgU T ty d o).map fun us=>(us,M,xs)else none
  |_=>none
noncomputable def appU (T:Tab) (ty d t:Nat) (A X:Opd):Option (Bool×Ups):=
 match tl T t with
 |some (i,.slice u)=>match i.k with
  | .slice e=>match tl T e with
   |some (j,_)=>if 0<u.size∧j.bytes≤16384∧j.zero.cells.toList.length=u.size then
     match X.val (.slice u)with
     |some (mx,ys)=>if(elm mx).noown=true∧live u (elm mx)=true∧mx≠ .dead then
       match srcU T ty e d u (nm u (elm mx)) A with
       |some (us,M,xs)=>if leM u (elm mx) M then some (decide ((xs.length:Int)+(ys.length:Int)≤LIM),us++[(d,.v (.slice u) (.own e M) (xs++ys),0)])else none
       |none=>none
      else none
     |none=>none
    else none
   |none=>none
  |_=>none
 |_=>none
noncomputable def appZ (T:Tab) (ty d t u:Nat) (A N:Opd):Option (Bool×Ups):=
 match tl T t,tl T u,N.ival with
 |some (i,.slice s),some (_,.int _),some (_,n)=>match i.k with
  | .slice e=>match tl T e with
   |some (j,_)=>match cval s j.zero with
    |some z=>if 0<s.size∧j.bytes≤16384∧j.zero.cells.toList.length=s.size then
      match srcU T ty e d s .sh A with
      |some (us,M,xs)=>if leM s .sh M then some (decide (0≤n)&&decide ((xs.length:Int)+n≤LIM),us++[(d,.v (.slice s) (.own e M) (xs++List.replicate n.toNat z),0)])else none
      |none=>none
     else none
    |none=>none
   |none=>none
  |_=>none
 |_,_,_=>none
def bndV(o:Option Opd)(dflt:Int):Option Int:=
 match o with
 |none=>some dflt
 |some o=>o.ival.map (·.2)
def zbs(l h:Int)(n:Nat):Bool:=decide (0≤l)&&(decide (l≤h)&&decide (h≤(n:Int)))
def tailU(d:Nat)(o:Opd)(lo:Option Opd)(hi:Option Opd):Option (Bool×Ups):=
 match o,lo,hi with
 | .slot _ c root,some l,none=>match c.e with
  | .view r [] s=>match root.e with
   | .v (.slice _) (.own _ _) xs=>if root.h=s then(match bndV (some l) 0 with
    |some n=>some (zbs n (xs.length:Int) xs.length,[(d,.tail r s n.toNat,0)])
    |none=>none)else none
   |_=>none
  |_=>none
 |_,_,_=>none
def sliceU(T:Tab)(ty d t:Nat)(o:Opd)(lo hi:Option Opd):Option (Bool×Ups):=
 match tl T t with
 |some (_,.slice u)=>match o.val (.slice u)with
  |some (.sh,xs)=>match bndV lo 0,bndV hi (xs.length:Int)with
   |some l,some h=>some (zbs l h xs.length,[(d,.v (.slice u) .sh ((xs.take h.toNat).drop l.toNat),0)])
   |_,_=>none
  |some (.bw,xs)=>match bndV lo 0,bndV hi (xs.length:Int)with
   |some l,some h=>some (zbs l h xs.length,[(d,.v (.slice u) .bw ((xs.take h.toNat).drop l.toNat),0)])
   |_,_=>none
  |some (.own e M,xs)=>match lo with
   |some _=>tailU d o lo hi
   |none=>match bndV hi (xs.length:Int),asgU T ty d o with
    |some h,some us=>some (zbs 0 h xs.length,us++[(d,.v (.slice u) (.own e M) (xs.take h.toNat),0)])
    |_,_=>none
  |_=>none
 |some (_,.str)=>match o.val .str with
  |some (m,x)=>if m=.dead then none else match bndV lo 0,bndV hi ((x:List Int).length:Int)with
   |some l,some h=>some (zbs l h (x:List Int).length,[(d,.v .str .sh (((x:List Int).take h.toNat).drop l.toNat),0)])
   |_,_=>none
  |none=>none
 |_=>none
section
variable {P:Program} {c:Ctx} {σ:Env} {a:Act} {S:St} {T:Tab}
def Rows(P:Program)(S:St)(u:Ty)(k:Md)(ys:List u.den)(v:Value):Prop:=
 (v=.slice none 0 0∧ys=[])∨(∃ad,v=.slice (some ad) 0 0∧ys=[])∨∃b o cap,v=.slice (some ⟨b,o,none⟩) ys.length cap∧ys.length≤cap∧∀(i:Nat) (h:i<ys.length),∃q,Rel P u S k q ys[i] (blk S.w b (o+i*u.size))
def rows_of{u:Ty}{m:Md}{p:Place}{ys:List u.den}{v:Value}(h:SR P (.slice u) S m p ys v)(hm:m≠ .dead):Rows P S u (elm m) ys v:=by
 obtain⟨h1,_,h3⟩:=h.1
 have hc:zab (.slice u) v 0=some v:=by simp[zab,Ty.agg]
 have shbw:(∃a' len cap,zab (.slice u) v 0=some (.slice a' len cap)∧len=ys.length∧len≤cap∧((ys=[]∧cap=0)∨∃b o',a'=some ⟨b,o',none⟩∧(ys≠ []→S.G m b)∧∀(i:Nat) (h:i<ys.length),Rel P u S m (px p i) ys[i] (blk S.w b (o'+i*u.size))))→Rows P S u m ys v:=fun⟨a',len,cap,h4,h5,h6,h7⟩=>by
  rw[hc]at h4
  have hv:=xbo h4
  subst h5
  rcases h7 with⟨rfl,rfl⟩|⟨b,o',rfl,_,h8⟩
  ·cases a' with
   |none=>exact .inl ⟨hv,rfl⟩
   |some ad=>exact .inr (.inl ⟨ad,hv,rfl⟩)
  ·exact .inr (.inr ⟨b,o',cap,hv,h6,fun i hi=>⟨_,h8 i hi⟩⟩)
 cases m with
 |dead=>exact absurd rfl hm
 |pr=>exact h3.elim
 |sh=>exact shbw h3
 |bw=>exact shbw h3
 |own e k=>
  obtain⟨h3,h4⟩:=h3
  rw[hc]at h3
  have hv:=xbo h3
  rcases h4 with⟨h4,h5⟩|⟨g,cap,cur,h4,h5,h6,h7,h8,h9,h10⟩
  ·exact .inl ⟨hv.trans h4,h5⟩
  ·refine .inr (.inr ⟨g,0,cap,hv.trans h4,h7,fun i hi=>⟨px p i,?_⟩⟩)
   rw[zlr h6]
   have:=h10 i hi
   simpa[elm]using this
def Rows.fut{u:Ty}{k:Md}{ys:List u.den}{v:Value}{S':St}(h:Rows P S u k ys v)(hk:k.noown=true)(hf:Fut2 S S')(hw:S'.w=S.w):Rows P S' u k ys v:=by
 refine h.imp id (Or.imp id fun⟨b,o,cap,h1,h2,h3⟩=>⟨b,o,cap,h1,h2,fun i hi=>?_⟩)
 obtain⟨q,h4⟩:=h3 i hi
 exact⟨q,h4.free hk hf fun j _=>by rw[hw]⟩
def rows_news{u:Ty}{k:Md}{b o:Nat}{ys:List u.den}(h:∀(i:Nat) (h:i<ys.length),∃q,Rel P u S k q ys[i] (blk S.w b (o+i*u.size))) :
  ∃news:List Value,news.length=ys.length*u.size∧(∀j w,news[j]?=some w→S.w.cell? ((⟨b,o,none⟩:Addr).add j)=some w)∧(∀w∈news,w.oneCell'=true)∧∀(i:Nat) (h:i<ys.length),∃q,Rel P u S k q ys[i] (fun j=>news[i*u.size+j]?):=by
 rcases xda u.size with hz|hz
 ·refine⟨[],by rw[hz];simp,fun j w hj=>by simp at hj,by simp,fun i hi=>?_⟩
  obtain⟨q,h1⟩:=h i hi
  exact⟨q,h1.cong fun j hj=>by omega⟩
 have hcell:∀k',k'<ys.length*u.size→∃w,blk S.w b o k'=some w∧w.oneCell'=true:=fun k' hk'=>by
  have hi:k'/u.size<ys.length:=(xep hz).2 hk'
  obtain⟨q,h1⟩:=h _ hi
  obtain⟨w,h2,h3⟩:=h1.cells (k'%u.size) (xfi _ hz)
  refine⟨w,?_,h3⟩
  have he:o+k'/u.size*u.size+k'%u.size=o+k':=by rw[xdm,Nat.div_add_mod']
  have h2':S.w.cell? ⟨b,o+k'/u.size*u.size+k'%u.size,none⟩=some w:=h2
  rw[he]at h2'
  exact h2'
 obtain⟨news,h1,h2,h3⟩:=ztq hcell
 refine⟨news,h1,fun j w hj=>?_,h3,fun i hi=>?_⟩
 ·have hlt:j<ys.length*u.size:=by
   rcases xcy j news.length with h'|h'
   ·omega
   ·rw[xdh h']at hj;cases hj
  rw[h2 j hlt]at hj
  rw[zel]
  exact hj
 ·obtain⟨q,h4⟩:=h i hi
  refine⟨q,h4.cong fun j hj=>?_⟩
  have hlt:i*u.size+j<ys.length*u.size:=by
   have:(i+1)*u.size≤ys.length*u.size:=xav _ hi
   rw[xcl]at this
   omega
  show news[i*u.size+j]?=_
  rw[h2 _ hlt]
  simp[blk,xdm]
def Rows.news{u:Ty}{k:Md}{ys:List u.den}{v:Value}(h:Rows P S u k ys v):(v=.slice none 0 0∧ys=[])∨∃ad cap,v=.slice (some ad) ys.length cap∧ys.length≤cap ∧
  ∃news:List Value,news.length=ys.length*u.size∧(∀j w,news[j]?=some w→S.w.cell? (ad.add j)=some w)∧(∀w∈news,w.oneCell'=true)∧∀(i:Nat) (h:i<ys.length),∃q,Rel P u S k q ys[i] (fun j=>news[i*u.size+j]?):=by
 rcases h with h|⟨ad,h1,rfl⟩|⟨b,o,cap,h1,h2,h3⟩
 ·exact .inl h
 ·refine .inr ⟨ad,0,h1,xak 0,([]:List Value),(xfl _).symm,?_,?_,fun i h=>absurd h (Nat.not_lt_zero i)⟩
  ·intro j w h;simp at h
  ·intro w h;cases h
 ·exact .inr ⟨_,cap,h1,h2,rows_news h3⟩
def zvv(a:Act)(d:Nat)(v v':Value):(a.put (some d) v).put (some d) v'=a.put (some d) v':=by
 simp[Act.put]
def InvOf.regrow(h:InvOf P c σ a S){d:Nat}(hd:d<c.N){u:Ty}{e:TypeId}{M:Md}{xs zs:List u.den}(he:(σ d).e=.v (.slice u) (.own e M) xs){w':World}(hg:S.w.grownBy w' (S.hv (d,[])).ownBlock){v':Value}
  (hb:∀b,v'.ownBlock=some b→(S.hv (d,[])).ownBlock=some b∨(b=S.w.heap.size∧b<w'.heap.size)) {cs:List Value} (ho:w'.ownsRow 0 e u.size v' zs.length cs) (hl:zs.length≤maxL)
  (hz:∀S',S'.w=w'→(∀q,Tr true S S' (d,q) (d,q)∨q=[])→Fut2 S S'→∀(i:Nat) (h:i<zs.length),Rel P u S' M (d,[i]) zs[i] (fun j=>cs[i*u.size+j]?)) :
  ∃S',S'.w=w'∧S'.F=S.F∧S'.B=S.B∧InvOf P c (set1 σ d (.v (.slice u) (.own e M) zs) 0) (a.put (some d) v') S':=by
 let S':St:={S with w:=w',own:=fun b=>if v'.ownBlock=some b then some (d,[])else S.own b,hv:=fun z=>if z=(d,[])then v' else S.hv z}
 have hsr:=h.slot he
 have hpos:0<u.size:=hsr.1.2.1
 have hrow:∀b,(S.hv (d,[])).ownBlock=some b→S.own b=some (d,[]):=fun b hbb=>by
  rcases hsr.1.2.2.2 with⟨h1,_⟩|⟨g,cap,cur,h1,h2,_⟩
  ·rw[h1]at hbb;cases hbb
  ·rw[h1]at hbb;cases hbb;exact h2
 have hsame:∀b,b<S.w.heap.size→S.own b≠some (d,[])→w'.heap[b]?=S.w.heap[b]?:=fun b hlt hne=>hg.block b hlt fun hh=>hne (hrow b hh.symm)
 have hown:∀b,b<S.w.heap.size→S.own b≠some (d,[])→S'.own b=S.own b:=fun b hlt hne=>if_neg fun hh=>by
  rcases hb b hh with h1|⟨h1,_⟩
  ·exact hne (hrow b h1)
  ·omega
 have hf2:Fut2 S S':=⟨fun b hb=>⟨hb,hsame b (h.wlt (.inl hb)) (by rw[(h.shared b hb).1];simp)⟩,fun b hb=>⟨.inr hb,hsame b (h.wlt (.inr (.inl hb))) (by rw[(h.WF.borrowed b hb).1];simp)⟩⟩
 have htr:∀q,Tr true S S' (d,q) (d,q)∨q=[]:=fun q=>by
  by_cases hq:q=[]
  ·exact .inr hq
  ·refine .inl ⟨fun _ h=>h,fun b hb=>(hf2.F b hb).2,fun _ _ h=>.inr h,fun _ b hb=>(hf2.B b hb).2,fun r=>if_neg fun hh=>?_,fun b r hbb=>?_⟩
   ·simp only[pa,xba,xgt,xjy]at hh
    exact hq hh.1
   ·have hne:S.own b≠some (d,[]):=by
     rw[hbb]
     intro hh
     simp only[pa,xat,xba,xgt,xjy]at hh
     exact hq hh.1
    have hlt:=h.wlt (.inr (.inr ⟨_,hbb⟩))
    exact⟨(hown b hlt hne).trans hbb,hsame b hlt hne⟩
 refine⟨S',rfl,rfl,rfl,h.rebuild (fun t=>t=d) (by simpa[Act.put]using h.defers) (by simpa[Act.put]using h.size) (fun t ht=>⟨zan σ _ _ ht,zbj ht⟩) (fun r hr=>?_) (fun t ht=>?_)
  (fun _ h=>h) (fun b hb=>(hf2.F b hb).2) rfl (fun b hb=>(hf2.B b hb).2) (fun t ht q=>if_neg (fun he=>ht (by cases he;rfl))) (fun t ht b q hbb=>?_) (fun b hbb=>⟨?_,xau (h.shared b hbb).2.1 hg.size,(h.shared b hbb).2.2⟩) (fun b hbb=>?_) (fun b p hp=>?_)
  hg.os hg.tape hg.output hg.size (fun b hlt hO=>?_)⟩
 ·subst hr
  exact⟨by rw[zah];exact xak _,.inl (by rw[zah];exact xct _)⟩
 ·subst ht
  refine .v (zbi σ t _ 0) ?_
  rw[zai (by rw[h.size];exact hd)]
  have hhv:S'.hv (t,[])=v':=if_pos rfl
  refine⟨⟨hl,hpos,by rw[hhv];simp[zab,Ty.agg],?_⟩,fun h=>by cases h⟩
  rw[hhv]
  obtain⟨ho1,ho2⟩:=ho
  rcases ho2 with⟨h1,h2⟩|⟨g,cap,cur,h1,_,h2,h3,h4,h5,h6⟩
  ·exact .inl ⟨h1,xcf h2⟩
  ·refine .inr ⟨g,cap,cur,h1,if_pos (by rw[h1];rfl),h2,h3,h4,h5,fun i hi=>?_⟩
   have:=hz S' rfl htr hf2 i hi
   have hpx:px (t,([]:List Nat)) i=(t,[i]):=rfl
   rw[hpx]
   refine this.cong fun j hj=>?_
   have hlt:i*u.size+j<zs.length*u.size:=by
    have:(i+1)*u.size≤zs.length*u.size:=xav _ hi
    rw[xcl]at this
    omega
   rw[←h6,xdt,if_pos hlt,xbm]
 ·have hne:S.own b≠some (d,[]):=by rw[hbb];intro hh;cases hh;exact ht rfl
  have hlt:=h.wlt (.inr (.inr ⟨_,hbb⟩))
  exact⟨(hown b hlt hne).trans hbb,hsame b hlt hne⟩
 ·exact(hown b (h.wlt (.inl hbb)) (by rw[(h.shared b hbb).1];simp)).trans (h.shared b hbb).1
 ·exact(hown b (xau (h.borrowed b hbb).2.1 h.grown) (by rw[(h.borrowed b hbb).1];simp)).trans (h.borrowed b hbb).1
 ·have hp':(if v'.ownBlock=some b then some (d,[])else S.own b)=some p:=hp
  split at hp'
  ·rename_i hh
   rcases hb b hh with h1|⟨h1,h2⟩
   ·have:=h.owned b _ (hrow b h1)
    exact⟨xau this.1 hg.size,this.2⟩
   ·exact⟨h2,.inl (by rw[h1];exact h.grown)⟩
  ·exact⟨xau (h.owned b p hp').1 hg.size,(h.owned b p hp').2⟩
 ·refine hsame b (xau hlt h.grown) fun hh=>?_
  rcases(h.owned b _ hh).2 with h1|h1
  ·omega
  ·exact hO h1
def zjm:∀(us vs:Ups) (σ:Env),upd (us++vs) σ=upd vs (upd us σ)
 | [],_,_=>rfl
 |(_,_,_)::us,vs,_=>zjm us vs _
end
section
variable {P:Program} {c:Ctx} {σ:Env} {a:Act} {S:St} {T:Tab}
def zqy(h:InvOf P c σ a S){ty e d:Nat}(hd:d<c.N){u:Ty}{M0 M:Md}{A:Operand}{us:Ups}{xs:List u.den}(hpos:0<u.size)(hx:srcU T ty e d u M0 (look σ A)=some (us,M,xs)) :
  ∃S1,S1.w=S.w∧S1.F=S.F∧S1.B=S.B∧InvOf P c (upd us σ) (a.put (some d) (a.eval A)) S1∧(upd us σ d).e=.v (.slice u) (.own e M) xs∧a.eval A=S1.hv (d,[]):=by
 unfold srcU at hx
 split at hx
 rotate_left
 ·split at hx
  case h_2=>cases hx
  rename_i e' M' xs' hv
  split at hx
  case isFalse=>cases hx
  rename_i hee
  subst hee
  simp only[xad,xba]at hx
  obtain⟨us',h1,rfl,rfl,rfl⟩:=hx
  obtain⟨S1,h2,h3,h4,h5⟩:=ztb h hd h1
  have he:(upd us' σ d).e=.v (.slice u) (.own e' M') xs':=by
   cases A with
   |const v=>simp only[look,Opd.val,xad,xba]at hv;obtain⟨_,_,hv,_⟩:=hv;cases hv
   |func f=>simp[look,Opd.val]at hv
   |global g=>simp[look,Opd.val]at hv
   |tmp s=>
    simp only[look,Opd.val]at hv
    simp only[look,asgU]at h1
    split at hv
    ·rename_i t m x he
     simp only[xad,xba]at hv
     obtain⟨z,h6,rfl,rfl⟩:=hv
     have:=TV.to_some h6
     cases this
     rw[he]at h1
     simp only[Md.noown,xaw,xbf]at h1
     split at h1
     ·cases h1
     ·rename_i hne
      cases h1
      show(set1 (set1 σ s .dead 0) d _ 0 d).e=_
      rw[zbi]
    ·rename_i r π s' he
     have hrt:zdl σ (σ s).e=σ r:=by rw[he];rfl
     rw[hrt]at hv h1
     rw[he]at h1
     simp only at h1
     split at hv
     case h_2=>cases hv
     rename_i tr mr xr hroot
     rw[hroot]at h1
     simp only at h1
     split at hv
     case isFalse=>cases hv
     rename_i hgen
     rw[if_pos hgen.1]at h1
     split at hv
     case h_2=>cases hv
     rename_i e2 k2 y2 hm hg
     simp only[xad,xba]at hv
     obtain⟨z,h6,h7,rfl⟩:=hv
     have:=TV.to_some h6
     subst this
     cases h7
     rw[hm,hg]at h1
     simp only at h1
     split at h1
     ·rename_i hrd
      split at h1
      case isFalse=>cases h1
      rename_i hπ
      cases h1
      subst hπ hrd
      simp only[getP,xat]at hg
      cases hg
      simp only[zbe,xat]at hm
      subst hm
      exact hroot
     ·split at h1
      ·cases h1
       show(set1 (set1 σ r .dead 0) d _ 0 d).e=_
       rw[zbi]
      ·split at h1
       ·cases h1
        show(set1 (set1 σ r _ 2) d _ 0 d).e=_
        rw[zbi]
       ·cases h1
    ·cases hv
  have hhd:=h5.hdr he
  rw[zai (by rw[h.size];exact hd)]at hhd
  exact⟨S1,h2,h3,h4,h5,he,hhd⟩
 ·rename_i hA
  cases hx
  have hev:a.eval A=.slice none 0 0:=by
   cases A<;>simp only[look]at hA<;>first | (cases hA;done) | (cases hA;rfl)
  let S1:St:={S with hv:=fun z=>if z=(d,[])then .slice none 0 0 else S.hv z}
  have hhv:S1.hv (d,[])=.slice none 0 0:=if_pos rfl
  refine⟨S1,rfl,rfl,rfl,h.put (S':=S1) (.refl _) rfl rfl hd (fun t ht q=>if_neg fun he=>ht (by cases he;rfl)) (fun _=>.inl rfl) ?_,zbi σ d _ 0,by rw[hev,hhv]⟩
  refine .v (zbi σ d _ 0) ?_
  rw[zai (by rw[h.size];exact hd),hev]
  exact⟨⟨xbz _,hpos,by rw[hhv];simp[zab,Ty.agg],.inl ⟨hhv,rfl⟩⟩,fun h=>by cases h⟩
def app_sound(h:InvOf P c σ a S)(hT:TabOK P T){t rt ty d:Nat}(hd:d<c.N){A X:Operand}{us:Ups}{ob:Bool}(hx:appU T ty d t (look σ A) (look σ X)=some (ob,us))(hob:ob=true) :
  ∃v w',(Builtin.append_ #[t,t] rt #[a.eval A,a.eval X]).run P S.w=.ok v w'∧Inv P c (upd us σ) (a.put (some d) v) w':=by
 unfold appU at hx
 split at hx
 case h_2=>cases hx
 rename_i i u ht
 split at hx
 case h_2=>cases hx
 rename_i e he
 split at hx
 case h_2=>cases hx
 rename_i j u2 hte
 split at hx
 case isFalse=>cases hx
 rename_i hcond
 obtain⟨hpos,hby,hzl⟩:=hcond
 split at hx
 case h_2=>cases hx
 rename_i mx ys hv
 split at hx
 case isFalse=>cases hx
 rename_i hcond
 obtain⟨hno,hlv,hmx⟩:=hcond
 split at hx
 case h_2=>cases hx
 rename_i us0 M xs hsrc
 split at hx
 case isFalse=>cases hx
 rename_i hle
 simp only[xat,xba]at hx
 obtain⟨rfl,rfl⟩:=hx
 have hlim:(xs.length:Int)+ys.length≤4294967296:=by have:=xbl hob;rw[zbv]at this;exact this
 obtain⟨hty,_,_,hkind⟩:=hT.kind ht
 obtain⟨_,d1,_,hd1,_,_,_,hk1⟩:=zax hty
 obtain⟨e2,i2,hk2,hte2,_⟩:=zcy hkind
 rw[he]at hk2
 cases hk2
 rw[hte]at hte2
 cases hte2
 have:=zeu (hk1.trans (xbx some he))
 subst this
 obtain⟨hty1,hsz1,_,_⟩:=hT.kind hte
 obtain⟨j',d',hi',hd',hzz,hs',hb',_⟩:=zax hty1
 obtain⟨p,hs⟩:=h.val hv
 have hrows:=rows_of hs hmx
 obtain⟨S1,h1,h2,h3,h4,h5,h6⟩:=zqy h hd hpos hsrc
 have hf:Fut2 S S1:=⟨fun b hb=>⟨by rw[h2];exact hb,by rw[h1]⟩,fun b hb=>⟨.inr (by rw[h3];exact hb),by rw[h1]⟩⟩
 have hrows1:=hrows.fut hno hf h1
 have hsr:=h4.slot h5
 have hl1:xs.length≤maxL:=hsr.1.1
 have htm:tmv (a.put (some d) (a.eval A)) d=a.eval A:=zai (by rw[h.size];exact hd)
 have hold:∃cs,S1.w.ownsRow 0 e u.size (a.eval A) xs.length cs∧∀(i:Nat) (h:i<xs.length),Rel P u S1 M (d,[i]) xs[i] (fun j=>cs[i*u.size+j]?):=by
  rcases hsr.1.2.2.2 with⟨h7,h8⟩|⟨g,cap,cur,h7,h8,h9,h10,h11,h12,h13⟩
  ·subst h8
   rw[←h6]at h7
   rw[h7]
   exact⟨[],World.ownsRow_nil _ _ _ _,fun i hi=>by simp at hi⟩
  ·rw[←h6]at h7
   rw[h7]
   have hle:xs.length*u.size≤cur.size:=by rw[h12];exact xav _ h10
   refine⟨cur.toList.take (xs.length*u.size),⟨by simp;omega,.inr ⟨g,cap,cur,rfl,xbz _,h9,h10,h11,h12,rfl⟩⟩,fun i hi=>?_⟩
   refine(h13 i hi).cong fun j hj=>?_
   have hlt:i*u.size+j<xs.length*u.size:=by
    have:(i+1)*u.size≤xs.length*u.size:=xav _ hi
    rw[xcl]at this
    omega
   rw[xdt,if_pos hlt,xbm]
 obtain⟨cs,ho,hel⟩:=hold
 have oldEl:∀(S':St),(∀q,Tr true S1 S' (d,q) (d,q)∨q=[])→∀(i:Nat) (h:i<xs.length),Rel P u S' M (d,[i]) xs[i] (fun j=>cs[i*u.size+j]?):=fun S' htr i hi=>
  (hel i hi).mono (.inl rfl) ((htr [i]).resolve_right (by simp)) fun _ _=>rfl
 have hl2:xs.length+ys.length≤4294967296:=by omega
 rw[←h1]
 rcases hrows1.news with⟨hX,hy0⟩|⟨ad,cap,hX,hcap,news,hn1,hn2,hn3,hn4⟩
 ·subst hy0
  rw[hX]
  obtain⟨S',q1,q2,q3,q4⟩:=h4.regrow hd h5 (w':=S1.w) (v':=a.eval A) (zs:=xs++[]) (cs:=cs) (by rw[←h6];exact⟨rfl,rfl,rfl,xak _,fun _ _ _=>rfl⟩) (fun b hb=>.inl (by rw[←h6];exact hb)) (by rw[xco];exact ho) (by rw[xco];exact hl1)
   fun S' _ htr _ i hi=>by
    have hi':i<xs.length:=by simpa using hi
    have:=oldEl S' htr i hi'
    simpa using this
  refine⟨a.eval A,S1.w,run_append_owned_none (P:=P) (w:=S1.w) 0 t rt e j' u.size hd1 hi' _ xs.length cs ho,S',q1,?_⟩
  rw[zjm]
  rw[zvv]at q4
  exact q4
 ·rw[hX]
  obtain⟨v',w',h7,h8,h9,h10⟩:=zrj (P:=P) (w:=S1.w) t rt e j' j.zero u.size j.bytes hd1 hi' hzz (by rw[hs',hsz1]) hb' (by simpa using hzl) hpos (a.eval A) xs.length cs ho ad ys.length cap news hn1 hn2 hn3
   (by unfold maxLen;omega) (xbb (xdf hl2 hby) (by decide))
  obtain⟨S',q1,q2,q3,q4⟩:=h4.regrow hd h5 (w':=w') (v':=v') (zs:=xs++ys) (cs:=cs++news) (by rw[←h6];exact h9) (fun b hb=>by rw[←h6];exact h10 b hb) (by rw[xbk];exact h8) (by rw[xbk];unfold maxL;omega)
   fun S' hw' htr hf2 i hi=>by
    rw[xbk]at hi
    have hcl:cs.length=xs.length*u.size:=ho.1
    rcases xcy i xs.length with hlt|hge
    ·have:=oldEl S' htr i hlt
     rw[xjj hlt]
     refine this.cong fun j hj=>?_
     have hlt':i*u.size+j<cs.length:=by
      have:(i+1)*u.size≤xs.length*u.size:=xav _ hlt
      rw[xcl]at this
      omega
     exact xek hlt'
    ·obtain⟨q,h11⟩:=hn4 (i-xs.length) (by omega)
     rw[xjc hge]
     refine(h11.free hno hf2 fun j hj=>?_).weaken hle
     ·have hmul:i*u.size=xs.length*u.size+(i-xs.length)*u.size:=by rw[←xcl];congr 1;omega
      rw[xdv (by omega)]
      congr 1
      omega
  refine⟨v',w',h7,S',q1,?_⟩
  rw[zjm]
  rw[zvv]at q4
  exact q4
def appZ_sound(h:InvOf P c σ a S)(hT:TabOK P T){t rt ty d tu:Nat}(hd:d<c.N){A N:Operand}{us:Ups}{ob:Bool}(hx:appZ T ty d t tu (look σ A) (look σ N)=some (ob,us))(hob:ob=true) :
  ∃v w',(Builtin.append_ #[t,tu] rt #[a.eval A,a.eval N]).run P S.w=.ok v w'∧Inv P c (upd us σ) (a.put (some d) v) w':=by
 unfold appZ at hx
 split at hx
 case h_2=>cases hx
 rename_i i u iu ku k n ht htu hn
 split at hx
 case h_2=>cases hx
 rename_i e he
 split at hx
 case h_2=>cases hx
 rename_i j u2 hte
 split at hx
 case h_2=>cases hx
 rename_i z hz
 split at hx
 case isFalse=>cases hx
 rename_i hcond
 obtain⟨hpos,hby,hzl⟩:=hcond
 split at hx
 case h_2=>cases hx
 rename_i us0 M xs hsrc
 split at hx
 case isFalse=>cases hx
 rename_i hle
 simp only[xat,xba]at hx
 obtain⟨rfl,rfl⟩:=hx
 simp only[xan,xam]at hob
 obtain⟨hn0,hlim0⟩:=hob
 obtain⟨m,rfl⟩:=xgo hn0
 have hlim:(xs.length:Int)+(m:Int)≤4294967296:=by rw[zbv]at hlim0;exact hlim0
 obtain⟨hty,_,_,hkind⟩:=hT.kind ht
 obtain⟨_,d1,_,hd1,_,_,_,hk1⟩:=zax hty
 obtain⟨e2,i2,hk2,hte2,_⟩:=zcy hkind
 rw[he]at hk2
 cases hk2
 rw[hte]at hte2
 cases hte2
 have:=zeu (hk1.trans (xbx some he))
 subst this
 obtain⟨htyu,_,_,hkindu⟩:=hT.kind htu
 obtain⟨_,d2,_,hd2,_,_,_,hk2⟩:=zax htyu
 have:=tyK_int (hk2.trans (xbx some (zoe hkindu)))
 subst this
 obtain⟨hty1,hsz1,_,_⟩:=hT.kind hte
 obtain⟨j',d',hi',hd',hzz,hs',hb',_⟩:=zax hty1
 have hzs:=zcx (P:=P) (S:=S) (p:=(0,[])) hz
 obtain⟨S1,h1,h2,h3,h4,h5,h6⟩:=zqy h hd hpos hsrc
 have hf:Fut2 S S1:=⟨fun b hb=>⟨by rw[h2];exact hb,by rw[h1]⟩,fun b hb=>⟨.inr (by rw[h3];exact hb),by rw[h1]⟩⟩
 have hsr:=h4.slot h5
 have hl1:xs.length≤maxL:=hsr.1.1
 have htm:tmv (a.put (some d) (a.eval A)) d=a.eval A:=zai (by rw[h.size];exact hd)
 have hold:∃cs,S1.w.ownsRow 0 e u.size (a.eval A) xs.length cs∧∀(i:Nat) (h:i<xs.length),Rel P u S1 M (d,[i]) xs[i] (fun j=>cs[i*u.size+j]?):=by
  rcases hsr.1.2.2.2 with⟨h7,h8⟩|⟨g,cap,cur,h7,h8,h9,h10,h11,h12,h13⟩
  ·subst h8
   rw[←h6]at h7
   rw[h7]
   exact⟨[],World.ownsRow_nil _ _ _ _,fun i hi=>by simp at hi⟩
  ·rw[←h6]at h7
   rw[h7]
   have hle:xs.length*u.size≤cur.size:=by rw[h12];exact xav _ h10
   refine⟨cur.toList.take (xs.length*u.size),⟨by simp;omega,.inr ⟨g,cap,cur,rfl,xbz _,h9,h10,h11,h12,rfl⟩⟩,fun i hi=>?_⟩
   refine(h13 i hi).cong fun j hj=>?_
   have hlt:i*u.size+j<xs.length*u.size:=by
    have:(i+1)*u.size≤xs.length*u.size:=xav _ hi
    rw[xcl]at this
    omega
   rw[xdt,if_pos hlt,xbm]
 obtain⟨cs,ho,hel⟩:=hold
 have oldEl:∀(S':St),(∀q,Tr true S1 S' (d,q) (d,q)∨q=[])→∀(i:Nat) (h:i<xs.length),Rel P u S' M (d,[i]) xs[i] (fun j=>cs[i*u.size+j]?):=fun S' htr i hi=>
  (hel i hi).mono (.inl rfl) ((htr [i]).resolve_right (by simp)) fun _ _=>rfl
 have hzc:Builtin.zeroCells j.zero.cells m=madeCells j.zero.cells (m*u.size):=by
  have e:j.zero.cells.size=u.size:=by simpa using hzl
  unfold Builtin.zeroCells madeCells
  rw[e]
 obtain⟨hm1,hm2⟩:=zkp hzs m
 have hone:∀c∈(Builtin.zeroCells j.zero.cells m).toList,c.oneCell'=true:=fun c hc=>by
  obtain⟨i,hi,rfl⟩:=xcm hc
  rw[xcc,hzc,hm1]at hi
  have hq:i/u.size<m:=(xep hpos).2 hi
  obtain⟨c',hc1,hc2⟩:=(hm2 (i/u.size) hq (0,[])).cells (i%u.size) (xfi _ hpos)
  rw[Nat.div_add_mod',←hzc]at hc1
  have:(Builtin.zeroCells j.zero.cells m).toList[i]?=some c':=by rw[xbm];exact hc1
  rw[xar (by rw[xcc,hzc,hm1];exact hi)]at this
  rw[xbo this]
  exact hc2
 rw[←h1,(h.ival hn).1]
 obtain⟨v',w',h7,h8,h9,h10⟩:=zpn (P:=P) (w:=S1.w) t tu rt e j' j.zero u.size j.bytes ku hd1 hd2 hi' hzz (by rw[hs',hsz1]) hb' (by simpa using hzl) hpos (a.eval A) xs.length cs ho k m hone
  (by unfold maxLen;omega) (xbb (xdf (show xs.length+m≤4294967296 by omega) hby) (by decide))
 obtain⟨S',q1,q2,q3,q4⟩:=h4.regrow hd h5 (w':=w') (v':=v') (zs:=xs++List.replicate m z) (cs:=cs++(Builtin.zeroCells j.zero.cells m).toList) (by rw[←h6];exact h9) (fun b hb=>by rw[←h6];exact h10 b hb) (by rw[xbk,xce];exact h8) (by rw[xbk,xce];unfold maxL;omega)
  fun S' hw' htr hf2 i hi=>by
   rw[xbk,xce]at hi
   have hcl:cs.length=xs.length*u.size:=ho.1
   rcases xcy i xs.length with hlt|hge
   ·have:=oldEl S' htr i hlt
    rw[xjj hlt]
    refine this.cong fun j hj=>?_
    have hlt':i*u.size+j<cs.length:=by
     have:(i+1)*u.size≤xs.length*u.size:=xav _ hlt
     rw[xcl]at this
     omega
    exact xek hlt'
   ·have h11:=(zkp (zcx (P:=P) (S:=S') (p:=(0,[])) hz) m).2 (i-xs.length) (by omega) (d,[i])
    rw[xjc hge,xhx]
    refine(h11.cong fun j' hj=>?_).weaken hle
    have hmul:i*u.size=xs.length*u.size+(i-xs.length)*u.size:=by rw[←xcl];congr 1;omega
    rw[xdv (by omega),xbm,hzc]
    congr 1
    omega
 refine⟨v',w',h7,S',q1,?_⟩
 rw[zjm]
 rw[zvv]at q4
 exact q4
def bnd_run(h:InvOf P c σ a S){o:Option Operand}{dflt n:Int}(hb:bndV (o.map (look σ)) dflt=some n):(o=none∧n=dflt)∨∃k x,o=some x∧a.eval x=.int k n:=by
 cases o with
 |none=>simp only[xin,bndV]at hb;cases hb;exact .inl ⟨rfl,rfl⟩
 |some x=>
  simp only[xcn,bndV,xad]at hb
  obtain⟨⟨k,m⟩,h1,rfl⟩:=hb
  exact .inr ⟨k,x,rfl,(h.ival h1).1⟩
def zhp(h:InvOf P c σ a S){lo hi:Option Operand}{len cap:Nat}{l u:Int}(q:Bool)(hl:bndV (lo.map (look σ)) 0=some l)(hh:bndV (hi.map (look σ)) len=some u)(h0:0≤l)(h1:l≤u)(h2:u≤len)(hc:len≤cap) :
  (Instr.sliceBounds q len cap (lo.map a.eval) (hi.map a.eval) none).run P S.w=.ok (l.toNat,u.toNat,cap) S.w:=by
 obtain⟨l,rfl⟩:=xgo h0
 obtain⟨u,rfl⟩:=xgo (Int.le_trans h0 h1)
 have h1':l≤u:=by omega
 have h2':u≤cap:=by omega
 rcases bnd_run h hl with⟨rfl,he⟩|⟨k,x,rfl,hx⟩
 ·have:l=0:=by omega
  subst this
  rcases bnd_run h hh with⟨rfl,he2⟩|⟨k',x',rfl,hx'⟩
  ·have:u=len:=by omega
   subst this
   simp[Instr.sliceBounds]
  ·simp[Instr.sliceBounds,Instr.sliceBound,hx',asIntOf,h2']
 ·rcases bnd_run h hh with⟨rfl,he2⟩|⟨k',x',rfl,hx'⟩
  ·have:u=len:=by omega
   subst this
   simp[Instr.sliceBounds,Instr.sliceBound,hx,asIntOf,h1']
  ·simp[Instr.sliceBounds,Instr.sliceBound,hx,hx',asIntOf,h1',h2']
def cut_of{l h:Int}{n:Nat}(hc:zbs l h n=true):0≤l∧l≤h∧h≤n:=by
 simp only[zbs,xan,xam]at hc
 exact hc
def SR.cut{M:Md}(hM:M=.sh∨M=.bw){u:Ty}{p:Place}{xs:List u.den}{v:Value}(h:SR P (.slice u) S M p xs v){l r:Nat}(hlr:l≤r)(hr:r≤xs.length) :
  ∃(b:Option Addr) (cap:Nat),v=.slice b xs.length cap∧xs.length≤cap∧SR P (.slice u) S M p ((xs.take r).drop l) (.slice (if cap=l then b else b.map (·.add (l*u.size))) (r-l) (cap-l)):=by
 obtain⟨h1,h2,h3⟩:=h.1
 have hc:∀v,zab (.slice u) v 0=some v:=fun v=>by simp[zab,Ty.agg]
 have h3':∃a' len cap,zab (.slice u) v 0=some (.slice a' len cap)∧len=xs.length∧len≤cap∧((xs=[]∧cap=0)∨∃b o',a'=some ⟨b,o',none⟩∧(xs≠ []→S.G M b)∧∀(i:Nat) (h:i<xs.length),Rel P u S M (px p i) xs[i] (blk S.w b (o'+i*u.size))):=by rcases hM with rfl|rfl<;>exact h3
 obtain⟨a',len,cap,h4,h5,h6,h7⟩:=h3'
 rw[hc]at h4
 have hv:=xbo h4
 subst h5
 have hlen:((xs.take r).drop l).length=r-l:=by rw[xeh,xbj,xeo hr]
 refine⟨a',cap,hv,h6,?_,fun h=>by cases h⟩
 have goal:∃a2 len2 cap2,zab (.slice u) (.slice (if cap=l then a' else a'.map (·.add (l*u.size))) (r-l) (cap-l)) 0=some (.slice a2 len2 cap2)∧len2=((xs.take r).drop l).length∧len2≤cap2∧(((xs.take r).drop l=[]∧cap2=0)∨∃b o',a2=some ⟨b,o',none⟩∧((xs.take r).drop l≠ []→S.G M b)∧∀(i:Nat) (h:i<((xs.take r).drop l).length),Rel P u S M (px p i) ((xs.take r).drop l)[i] (blk S.w b (o'+i*u.size))):=by
  refine⟨_,_,_,hc _,hlen.symm,by omega,?_⟩
  rcases h7 with⟨rfl,rfl⟩|⟨b,o',rfl,hG,h8⟩
  ·left
   exact⟨by simp,by omega⟩
  ·right
   by_cases hcl:cap=l
   ·have hz:(xs.take r).drop l=[]:=List.drop_eq_nil_of_le (by rw[xbj];omega)
    exact⟨b,o',by rw[if_pos hcl],fun hne=>absurd hz hne,fun i hi=>by rw[hz]at hi;simp at hi⟩
   ·refine⟨b,o'+l*u.size,by rw[if_neg hcl];simp[zel],fun hne=>hG (by rintro rfl;simp at hne),fun i hi=>?_⟩
    have hi':l+i<xs.length:=by omega
    have:=h8 (l+i) hi'
    have he:((xs.take r).drop l)[i]=xs[l+i]:=by rw[xji,xhc]
    rw[he]
    have h9:Rel P u S M (px p i) xs[l+i] (blk S.w b (o'+(l+i)*u.size)):=this.fut hM ((Fut2.refl S).sh _) fun _ _=>rfl
    have ho:o'+l*u.size+i*u.size=o'+(l+i)*u.size:=by rw[xcl];omega
    rw[ho]
    exact h9
 have hl':((xs.take r).drop l).length≤maxL:=by omega
 rcases hM with rfl|rfl<;>exact⟨hl',h2,goal⟩
def tail_sound(h:InvOf P c σ a S){t e e' d:Nat}{j':TypeInfo}{u:Ty}{M:Md}{xs:List u.den}(hd:d<c.N)(ht:P.underlying t=some (.slice e))(hi:P.info? e=some j')(hs:j'.size=u.size){A lop:Operand}{hi0:Option Operand}(hv:(look σ A).val (.slice u)=some (.own e' M,xs))
  {us:Ups} {ob:Bool} (hx:tailU d (look σ A) (some (look σ lop)) (hi0.map (look σ))=some (ob,us)) (hob:ob=true) :
  ∃v,(Instr.sliceAt t (a.eval A) ((some lop).map a.eval) (hi0.map a.eval) none).run P S.w=.ok v S.w∧Inv P c (upd us σ) (a.put (some d) v) S.w:=by
 unfold tailU at hx
 split at hx
 case h_2=>cases hx
 rename_i s0 c0 root l0 hA hl0 hh0
 cases hl0
 have hhi:hi0=none:=by cases hi0<;>first | rfl | cases hh0
 subst hhi
 cases A with
 |const v=>simp[look]at hA
 |func f=>simp[look]at hA
 |global g=>simp[look]at hA
 |tmp s=>
  simp only[look,Opd.slot.injEq]at hA
  obtain⟨rfl,rfl,rfl⟩:=hA
  split at hx
  case h_2=>cases hx
  rename_i r s' he
  have hrt:zdl σ (σ s).e=σ r:=by rw[he];rfl
  rw[hrt]at hx
  split at hx
  case h_2=>cases hx
  rename_i u' e2 M2 xs2 hroot
  split at hx
  case isFalse=>cases hx
  rename_i hgen
  split at hx
  case h_2=>cases hx
  rename_i n hn
  simp only[xat,xba]at hx
  obtain⟨rfl,rfl⟩:=hx
  obtain⟨c1,c2,_⟩:=cut_of hob
  obtain⟨n,rfl⟩:=xgo c1
  have hnl:n≤xs2.length:=by omega
  have hu:u'=u:=by
   simp only[look,Opd.val,hrt]at hv
   rw[he]at hv
   simp only[hroot]at hv
   split at hv
   case isFalse=>cases hv
   simp only[zbe,getP]at hv
   simp only[xad,xba]at hv
   obtain⟨z,h6,_,_⟩:=hv
   have:=TV.to_some h6
   cases this
   rfl
  subst hu
  obtain⟨_,hvw⟩:=(h.ent s).view he
  obtain⟨_,hev⟩:=hvw _ _ _ hroot hgen
  have hsr:=h.slot hroot
  have hbn:bndV ((some lop).map (look σ)) 0=some (n:Int):=hn
  have fin:∀(v:Value),(Instr.sliceAt t (a.eval (.tmp s)) ((some lop).map a.eval) none none).run P S.w=.ok v S.w→TailV (S.hv (r,[])) n u'.size v→∃v,(Instr.sliceAt t (a.eval (.tmp s)) ((some lop).map a.eval) ((none:Option Operand).map a.eval) none).run P S.w=.ok v S.w∧Inv P c (upd [(d,.tail r s' (n:Int).toNat,0)] σ) (a.put (some d) v) S.w:=fun v h1 h2=>
   ⟨v,h1,S,rfl,h.puttail hd ⟨by rw[←hgen];exact xak _,fun t m x hx _=>by rw[hroot]at hx;cases hx;exact⟨_,rfl,h2⟩⟩⟩
  rcases hsr.1.2.2.2 with⟨q1,q2⟩|⟨g,cap,cur,q1,q2,q3,q4,_⟩
  ·have hn0:n=0:=by rw[q2]at hnl;simpa using hnl
   subst hn0
   have hrb:=zhp (P:=P) h (lo:=some lop) (hi:=none) (len:=0) (cap:=0) true hbn rfl (by omega) (by omega) (by omega) (xak _)
   refine fin (.slice none 0 0) ?_ (.inl ⟨none,none,0,0,rfl,q1⟩)
   rw[zbb,hev,q1]
   simp only[xaf,xin,xcn]at hrb
   simp[Instr.sliceAt,Instr.slice,run_underlying ht,hrb,sizeOf,typeInfo,hi,hs]
  ·have hrb:=zhp (P:=P) h (lo:=some lop) (hi:=none) (len:=xs2.length) (cap:=cap) true hbn rfl (by omega) (by omega) (by omega) q4
   have hev':a.eval (.tmp s)=.slice (some ⟨g,0,none⟩) xs2.length cap:=by rw[zbb,hev,q1]
   simp only[xaf,xin,xcn]at hrb
   refine fin (.slice (if cap=n then some ⟨g,0,none⟩else some ⟨g,n*u'.size,none⟩) (xs2.length-n) (cap-n)) ?_ ?_
   ·rw[hev']
    simp[Instr.sliceAt,Instr.slice,run_underlying ht,hrb,sizeOf,typeInfo,hi,hs,zel]
   ·rw[q1]
    by_cases hlt:n<xs2.length
    ·have:¬cap=n:=by omega
     rw[if_neg this]
     exact .inr ⟨g,_,_,_,rfl,hlt,rfl⟩
    ·have e0:xs2.length-n=0:=by omega
     have e1:xs2.length=n:=by omega
     rw[e0]
     exact .inl ⟨_,_,_,_,rfl,by rw[e1]⟩
def slice_sound(h:InvOf P c σ a S)(hT:TabOK P T){t ty d:Nat}(hd:d<c.N){A:Operand}{lo hi:Option Operand}{us:Ups}{ob:Bool}(hx:sliceU T ty d t (look σ A) (lo.map (look σ)) (hi.map (look σ))=some (ob,us))(hob:ob=true) :
  ∃v,(Instr.sliceAt t (a.eval A) (lo.map a.eval) (hi.map a.eval) none).run P S.w=.ok v S.w∧Inv P c (upd us σ) (a.put (some d) v) S.w:=by
 unfold sliceU at hx
 split at hx
 case h_3=>cases hx
 ·rename_i i u ht
  obtain⟨hty,_,_,hkind⟩:=hT.kind ht
  obtain⟨_,d1,_,hd1,_,_,_,hk1⟩:=zax hty
  obtain⟨e,i1,hk,hte,hpos⟩:=zcy hkind
  have:=zeu (hk1.trans (xbx some hk))
  subst this
  obtain⟨hty1,hsz1,_,_⟩:=hT.kind hte
  obtain⟨j',d',hi',hd',_,hs',_,_⟩:=zax hty1
  have key:∀{M:Md} {xs:List u.den} {l r:Int},M=.sh∨M=.bw→(look σ A).val (.slice u)=some (M,xs)→bndV (lo.map (look σ)) 0=some l→bndV (hi.map (look σ)) (xs.length:Int)=some r→zbs l r xs.length=true →
    ∃v,(Instr.sliceAt t (a.eval A) (lo.map a.eval) (hi.map a.eval) none).run P S.w=.ok v S.w∧Inv P c (upd [(d,.v (.slice u) M ((xs.take r.toNat).drop l.toNat),0)] σ) (a.put (some d) v) S.w:=by
   intro M xs l r hM hv hl hr hc
   obtain⟨h0,h1,h2⟩:=cut_of hc
   obtain⟨p,hs⟩:=h.val hv
   obtain⟨b,cap,h3,h4,h5⟩:=hs.cut hM (l:=l.toNat) (r:=r.toNat) (by omega) (by omega)
   have hrb:=zhp (P:=P) h true hl hr h0 h1 h2 h4
   refine⟨_,?_,S,rfl,h.putE (e:=.v (.slice u) M _) hd ⟨by rcases hM with rfl|rfl<;>rfl,p,h5⟩⟩
   rw[h3]
   simp[Instr.sliceAt,Instr.slice,run_underlying hd1,hrb,sizeOf,typeInfo,hi',hs',hsz1]
  split at hx
  ·rename_i xs hv
   split at hx
   case h_2=>cases hx
   rename_i l r hl hr
   simp only[xat,xba]at hx
   obtain⟨rfl,rfl⟩:=hx
   exact key (.inl rfl) hv hl hr hob
  ·rename_i xs hv
   split at hx
   case h_2=>cases hx
   rename_i l r hl hr
   simp only[xat,xba]at hx
   obtain⟨rfl,rfl⟩:=hx
   exact key (.inr rfl) hv hl hr hob
  ·rename_i e' M xs hv
   split at hx
   ·rename_i lo' hlo'
    obtain⟨lop,rfl,rfl⟩:∃lop,lo=some lop∧lo'=look σ lop:=by
     cases lo with
     |none=>cases hlo'
     |some lop=>cases hlo';exact⟨lop,rfl,rfl⟩
    exact tail_sound h hd hd1 hi' (by rw[hs',hsz1]) hv hx hob
   rename_i hlo
   split at hx
   case h_2=>cases hx
   rename_i r us0 hr has
   simp only[xat,xba]at hx
   obtain⟨rfl,rfl⟩:=hx
   have hlo':lo=none:=by cases lo<;>first | rfl | cases hlo
   subst hlo'
   obtain⟨h0,h1,h2⟩:=cut_of hob
   have hsrc:∀A',look σ A'=look σ A→A'=A→srcU T ty e' d u .sh (look σ A)=some (us0,M,xs):=fun A' _ _=>by
    unfold srcU
    split
    ·rename_i hcon;rw[hcon]at hv;simp only[Opd.val,xad,xba]at hv;obtain⟨_,_,hv,_⟩:=hv;cases hv
    ·rw[hv];simp only[if_true,has,xcn]
   obtain⟨S1,h3,h4,h5,h6,h7,h8⟩:=zqy h hd hpos (hsrc A rfl rfl)
   have hsr:=h6.slot h7
   obtain⟨p,hs⟩:=h.val hv
   obtain⟨ad,cap,hA,hlA⟩:=zov hs (by simp)
   have hcap:xs.length≤cap∧(ad=none→cap=0∧xs=[])∧(∀x,ad=some x→∃g,x=⟨g,0,none⟩):=by
    rcases hsr.1.2.2.2 with⟨q1,q2⟩|⟨g,cap',cur,q1,q2,q3,q4,_⟩
    ·rw[←h8,hA]at q1
     simp only[Value.slice.injEq]at q1
     obtain⟨rfl,_,rfl⟩:=q1
     exact⟨by rw[q2];exact xak _,fun _=>⟨rfl,q2⟩,(fun x hx=>by cases hx)⟩
    ·rw[←h8,hA]at q1
     cases q1
     exact⟨q4,(fun h=>by cases h),(fun x hx=>⟨g,by cases hx;rfl⟩)⟩
   have hrb:=zhp (P:=P) h (lo:=none) true rfl hr h0 h1 h2 hcap.1
   have hv':(if cap=(0:Int).toNat then ad else ad.map (·.add ((0:Int).toNat*u.size)))=ad:=by
    split
    ·rfl
    ·cases ad with
     |none=>rfl
     |some x=>obtain⟨g,rfl⟩:=hcap.2.2 x rfl;simp[Addr.add]
   refine⟨.slice ad r.toNat cap,?_,?_⟩
   ·rw[hA]
    simp only[Int.toNat_zero]at hrb hv'
    simp only[xin]at hrb
    have hv2:(if cap=0 then ad else ad.map (·.add (0*u.size)))=ad:=hv'
    simp[Instr.sliceAt,Instr.slice,run_underlying hd1,hrb,sizeOf,typeInfo,hi',hs',hsz1]
    intro hne
    rw[if_neg hne]at hv2
    simpa using hv2
   ·rw[zjm,←h3]
    obtain⟨S',q1,q2,q3,q4⟩:=h6.regrow hd h7 (w':=S1.w) (v':=.slice ad r.toNat cap) (zs:=xs.take r.toNat) (cs:=(match S1.w.heap[((ad.map (·.block)).getD 0)]? with|some (Obj.cells cur _ _)=>cur.toList.take (r.toNat*u.size)|_=>[]))
     ⟨rfl,rfl,rfl,xak _,fun _ _ _=>rfl⟩ (fun b hb=>.inl (by rw[←h8,hA];cases ad<;>simp_all[Value.ownBlock]))
     (by
      have hlen:(xs.take r.toNat).length=r.toNat:=by rw[xbj];omega
      rw[hlen]
      rcases hsr.1.2.2.2 with⟨z1,z2⟩|⟨g,cap',cur,z1,z2,z3,z4,z5,z6,z7⟩
      ·rw[←h8,hA]at z1
       simp only[Value.slice.injEq]at z1
       obtain⟨rfl,_,rfl⟩:=z1
       have:r.toNat=0:=by rw[z2]at h2;simp at h2;omega
       rw[this]
       refine⟨?_,.inl ⟨rfl,rfl⟩⟩
       split<;>simp
      ·rw[←h8,hA]at z1
       cases z1
       simp only[xcn,xjq,z3]
       have:r.toNat≤cap:=by omega
       have hm:r.toNat*u.size≤cap*u.size:=xav _ this
       exact⟨by simp;omega,.inr ⟨g,cap,cur,rfl,xbz _,z3,this,z5,z6,rfl⟩⟩) (by rw[xbj];omega)
     fun S' hw' htr hf2 i hi=>by
      rw[xbj]at hi
      have hi':i<xs.length:=by omega
      rcases hsr.1.2.2.2 with⟨z1,z2⟩|⟨g,cap',cur,z1,z2,z3,z4,z5,z6,z7⟩
      ·rw[z2]at hi';simp at hi'
      ·rw[←h8,hA]at z1
       cases z1
       simp only[xcn,xjq,z3]
       rw[xhc]
       refine((z7 i hi').mono (.inl rfl) ((htr [i]).resolve_right (by simp)) fun _ _=>rfl).cong fun j hj=>?_
       have hlt:i*u.size+j<r.toNat*u.size:=by
        have:(i+1)*u.size≤r.toNat*u.size:=xav _ (by omega)
        rw[xcl]at this
        omega
       rw[xdt,if_pos hlt,xbm]
    rw[zvv]at q4
    exact⟨S',q1,q4⟩
  ·cases hx
 ·rename_i i ht
  obtain⟨hty,_,_,hkind⟩:=hT.kind ht
  obtain⟨_,d1,_,hd1,_,_,_,hk1⟩:=zax hty
  have:=znm (hk1.trans (xbx some (zod hkind)))
  subst this
  split at hx
  case h_2=>cases hx
  rename_i m x hv
  split at hx
  ·cases hx
  rename_i hm
  split at hx
  case h_2=>cases hx
  rename_i l r hl hr
  simp only[xat,xba]at hx
  obtain⟨rfl,rfl⟩:=hx
  obtain⟨h0,h1,h2⟩:=cut_of hob
  obtain⟨p,hs⟩:=h.val hv
  obtain⟨s,hs1,hs2,hs3⟩:=hs.str_inv hm
  have hlen:s.size=(x:List Int).length:=by rw[←hs2,xbw,xcc];rfl
  rw[←hlen]at hr h2
  have hrb:=zhp (P:=P) (len:=s.size) (cap:=s.size) h false hl hr h0 h1 h2 (xak _)
  refine⟨.string (s.extract l.toNat r.toNat),?_,S,rfl,h.putE (e:=.v .str .sh _) hd ⟨rfl,(0,[]),?_,fun h=>by cases h⟩⟩
  ·rw[hs1]
   simp[Instr.sliceAt,Instr.slice,run_underlying hd1,hrb]
  ·refine⟨s.extract l.toNat r.toNat,by simp[zab,Ty.agg],?_,by rw[xeh,xbj];omega⟩
   rw[←hs2,ByteArray.data_extract,Array.toList_extract,List.extract_eq_take_drop,xhr,List.map_drop,←List.drop_take]
end
end Go.X
