/- Part 15 of what stands below the statement. -/
import Derived.Test.YtmipjomnjkmdbaaGreatZ14
set_option linter.unusedSimpArgs false
set_option linter.unusedVariables false
namespace Go.Proofs.YtmipjomnjkmdbaaGreat
open Go Go.X
def lst{α:Type}(f:Nat→α)(n:Nat):List α:=(List.range n).map f
theorem zak{α:Type}(f:Nat→α)(n:Nat):(lst f n).length=n:=by simp[lst]
theorem zam{α:Type}(f:Nat→α){n i:Nat}(h:i<n)(d:α):(lst f n).getD i d=f i:=by
 simp[lst,xab,xbm,List.getElem?_range h]
theorem lst_get? {α:Type}(f:Nat→α){n i:Nat}(h:i<n):(lst f n)[i]?=some (f i):=by
 simp[lst,xbm,List.getElem?_range h]
theorem zlo{α:Type}(f:Nat→α)(n:Nat):lst f (n+1)=lst f n++[f n]:=by simp[lst,xhr]
theorem zao{α:Type}{f g:Nat→α}{n:Nat}(h:∀i,i<n→f i=g i):lst f n=lst g n:=by
 unfold lst
 exact xfp fun i hi=>h i (List.mem_range.1 hi)
def upd{α:Type}(f:Nat→α)(i:Nat)(x:α):Nat→α:=fun j=>if j=i then x else f j
theorem zpa{α:Type}(f:Nat→α)(i:Nat)(x:α):upd f i x i=x:=if_pos rfl
theorem zlv{α:Type}(f:Nat→α){i j:Nat}(x:α)(h:j≠i):upd f i x j=f j:=if_neg h
theorem zce{α:Type}(f:Nat→α)(n i:Nat)(x:α):(lst f n).set i x=lst (upd f i x) n:=by
 refine xhh fun j=>?_
 by_cases hj:j<n
 ·rw[lst_get? _ hj]
  by_cases h:i=j
  ·subst h
   rw[List.getElem?_set_self (by rw[zak];exact hj),zpa]
  ·rw[xgo h,lst_get? _ hj,zlv _ _ (fun e=>h e.symm)]
 ·rw[xcc (by rw[List.length_set,zak];omega),xcc (by rw[zak];omega)]
theorem lst_map{α β:Type}(f:Nat→α)(g:α→β)(n:Nat):(lst f n).map g=lst (fun i=>g (f i)) n:=by simp[lst]
theorem zkf{α:Type}(x:α)(n:Nat):List.replicate n x=lst (fun _=>x) n:=by
 induction n with
 |zero=>rfl
 |succ n ih=>rw[zlo,List.replicate_succ',ih]
theorem mem_lst{α:Type}{f:Nat→α}{n:Nat}{x:α}:x∈lst f n↔∃i,i<n∧f i=x:=by simp[lst]
def sumN(f:Nat→Nat):Nat→Nat
 | 0=>0
 |n+1=>sumN f n+f n
theorem zbp{f g:Nat→Nat}:∀{n:Nat},(∀i,i<n→f i=g i)→sumN f n=sumN g n
 | 0,_=>rfl
 |n+1,h=>by rw[sumN,sumN,zbp fun i hi=>h i (by omega),h n (by omega)]
theorem zgy{f g:Nat→Nat}:∀{n:Nat},(∀i,i<n→f i≤g i)→sumN f n≤sumN g n
 | 0,_=>Nat.le_refl _
 |n+1,h=>Nat.add_le_add (zgy fun i hi=>h i (by omega)) (h n (by omega))
theorem zfz(f g:Nat→Nat):∀n:Nat,sumN (fun i=>f i+g i) n=sumN f n+sumN g n
 | 0=>rfl
 |n+1=>by rw[sumN,sumN,sumN,zfz f g n];omega
theorem zit(f:Nat→Nat)(c:Nat):∀n:Nat,sumN (fun i=>f i*c) n=sumN f n*c
 | 0=>by rw[sumN,sumN,xek]
 |n+1=>by rw[sumN,sumN,zit f c n,xbl]
theorem zfm:∀n:Nat,sumN (fun _=>0) n=0
 | 0=>rfl
 |n+1=>by rw[sumN,zfm n]
theorem zma(f:Nat→Nat→Nat)(n:Nat):∀m:Nat,sumN (fun i=>sumN (f i) n) m=sumN (fun j=>sumN (fun i=>f i j) m) n
 | 0=>by simp only[sumN,zfm]
 |m+1=>by
  simp only[sumN]
  rw[zma f n m,←zfz]
theorem sumN_pos{f:Nat→Nat}:∀{n:Nat},0<sumN f n→∃i,i<n∧0<f i
 | 0,h=>absurd h (by simp[sumN])
 |n+1,h=>by
  rw[sumN]at h
  by_cases h0:0<f n
  ·exact⟨n,by omega,h0⟩
  ·obtain⟨i,h1,h2⟩:=sumN_pos (show 0<sumN f n by omega)
   exact⟨i,by omega,h2⟩
theorem sumN_one(c v:Nat):∀n:Nat,sumN (fun i=>if i=c then v else 0) n=if c<n then v else 0
 | 0=>rfl
 |n+1=>by
  rw[sumN,sumN_one c v n]
  by_cases h:c<n
  ·rw[if_pos h,if_neg (show n≠c by omega),if_pos (show c<n+1 by omega)];rfl
  ·rw[if_neg h]
   by_cases h2:n=c
   ·rw[if_pos h2,if_pos (by omega)];omega
   ·rw[if_neg h2,if_neg (by omega)]
theorem zpg{f:Nat→Nat}{n i:Nat}(h:i<n):f i≤sumN f n:=by
 induction n with
 |zero=>omega
 |succ n ih=>
  rw[sumN]
  by_cases h2:i=n
  ·subst h2;omega
  ·have:=ih (by omega);omega
theorem sumN_upd{f g:Nat→Nat}{n c:Nat}(hc:c<n)(h:∀i,i<n→i≠c→f i=g i):sumN f n+g c=sumN g n+f c:=by
 induction n with
 |zero=>omega
 |succ n ih=>
  rw[sumN,sumN]
  by_cases h2:c=n
  ·subst h2
   rw[zbp fun i hi=>h i (by omega) (by omega)];omega
  ·have:=ih (by omega) fun i hi hn=>h i (by omega) hn
   have:=h n (by omega) (by omega)
   omega
def selN(p:Nat→Bool)(n:Nat):List Nat:=(List.range n).filter p
def selI(p:Nat→Bool)(n:Nat):List Int:=(selN p n).map Int.ofNat
def cntN(p:Nat→Bool)(n:Nat):Nat:=sumN (fun i=>if p i then 1 else 0) n
theorem zmg(p:Nat→Bool)(n:Nat):selN p (n+1)=selN p n++(if p n then [n]else []):=by
 unfold selN
 rw[xhr,xer]
 congr 1
 cases h:p n<;>simp[xen,h]
theorem zct(p:Nat→Bool)(n:Nat):selI p (n+1)=selI p n++(if p n then [(n:Int)]else []):=by
 unfold selI
 rw[zmg,xcp]
 congr 1
 cases h:p n<;>rfl
theorem zgd(p:Nat→Bool):∀n:Nat,(selN p n).length=cntN p n
 | 0=>rfl
 |n+1=>by
  rw[zmg,List.length_append,zgd p n]
  show _=cntN p n+(if p n then 1 else 0)
  cases h:p n<;>rfl
theorem zay(p:Nat→Bool)(n:Nat):(selI p n).length=cntN p n:=by rw[selI,xbe,zgd]
theorem zfd{p:Nat→Bool}{n i:Nat}:i∈selN p n↔i<n∧p i=true:=by
 unfold selN;rw[List.mem_filter,List.mem_range]
theorem zaz{p:Nat→Bool}{n:Nat}{x:Int}:x∈selI p n↔∃i:Nat,x=(i:Int)∧i<n∧p i=true:=by
 unfold selI
 rw[xed]
 constructor
 ·rintro⟨i,h,rfl⟩;exact⟨i,rfl,zfd.1 h⟩
 ·rintro⟨i,rfl,h⟩;exact⟨i,zfd.2 h,rfl⟩
theorem selN_congr{p q:Nat→Bool}{n:Nat}(h:∀i,i<n→p i=q i):selN p n=selN q n:=by
 unfold selN
 exact xdq fun i hi=>h i (List.mem_range.1 hi)
theorem zbk{p q:Nat→Bool}{n:Nat}(h:∀i,i<n→p i=q i):selI p n=selI q n:=by
 unfold selI;rw[selN_congr h]
theorem zhz{p q:Nat→Bool}{n:Nat}(h:∀i,i<n→p i=q i):cntN p n=cntN q n:=zbp fun i hi=>by rw[h i hi]
theorem zbu(p:Nat→Bool)(n:Nat):cntN p n≤n:=by
 rw[←zgd]
 unfold selN
 exact Nat.le_trans (xdv _ _) (by simp)
theorem zqs{p:Nat→Bool}{n:Nat}:0<cntN p n↔∃i,i<n∧p i=true:=by
 constructor
 ·intro h
  obtain⟨i,h1,h2⟩:=sumN_pos h
  refine⟨i,h1,?_⟩
  cases hp:p i
  ·rw[hp]at h2;simp at h2
  ·rfl
 ·rintro⟨i,h1,h2⟩
  have:=zpg (f:=fun i=>if p i then 1 else 0) h1
  simp only[h2]at this
  exact this
theorem selN_filter(p q:Nat→Bool)(n:Nat):(selN p n).filter q=selN (fun i=>p i&&q i) n:=by
 unfold selN
 rw[xhb]
 exact xdq fun i _=>by rw[Bool.and_comm]
def extr(least:Bool)(r:Int→Rat)(l:List Int):List Int:=l.filter fun i=>l.all fun k=>if least then decide (r i≤r k)else decide (r k≤r i)
def zag(round:List Rat)(c:Int):Rat:=round.getD c.toNat 0
def zbm(lots:List Int)(c:Int):Nat:=lots.idxOf c
def zid(lots:List Int)(least:Bool)(l:List Int):Int:=l.tail.foldl (fun m c=>if least then(if zbm lots m<zbm lots c then c else m)else(if zbm lots c<zbm lots m then c else m)) (l.headD 0)
def zah(ties:Int)(earlier:List (List Rat)):List (List Rat):=if ties=3 then []else if ties=1 then earlier.reverse else earlier
def tieL(least:Bool)(rounds:List (List Rat))(tied:List Int):List Int:=rounds.foldl (fun l r=>if 1<l.length then extr least (zag r) l else l) tied
def tieB(ties:Int)(earlier:List (List Rat))(tied lots:List Int)(least:Bool):Int:=
 let l:=tieL least (zah ties earlier) tied
 if l.length=1 then l.headD 0 else zid lots least l
abbrev Gp:=List Int×Int
structure GP where
 gs:List Gp
 n:Nat
 seats:Nat
 q:Nat
 tot:Nat
 ties:Int
 lots:List Int
def GP.p(P:GP)(g:Nat):List Int:=(P.gs.getD g ([],0)).1
def GP.k(P:GP)(g:Nat):Nat:=(P.gs.getD g ([],0)).2.toNat
def GP.G(P:GP):Nat:=P.gs.length
structure GS where
 D:Nat
 num:Nat→Nat
 at_:Nat→Nat
 st:Nat→Nat
 keep:Nat→Rat
def frac(a b:Nat):Rat:=(a:Rat)/(b:Rat)
structure Rd where
 votes:List Rat
 keep:List Rat
 quota:Rat
 exh:Rat
 sur:Rat
 el:List Int
 ex:List Int
 ti:List Int
end Go.Proofs.YtmipjomnjkmdbaaGreat
namespace Go.Proofs.YtmipjomnjkmdbaaGreat
open Go Go.X
theorem zff{α:Type}(f:α→Rat):∀{l:List α},l≠ []→∃i∈l,∀k∈l,f i≤f k
 | [],h=>absurd rfl h
 | [x],_=>⟨x,by simp,fun k hk=>by simp at hk;subst hk;exact xig⟩
 |x::y::l,_=>by
  obtain⟨i,h1,h2⟩:=zff f (l:=y::l) (by simp)
  rcases Rat.le_total (a:=f x) (b:=f i)with h|h
  ·refine⟨x,by simp,fun k hk=>?_⟩
   rcases xaw.1 hk with rfl|hk
   ·exact xig
   ·exact Rat.le_trans h (h2 k hk)
  ·refine⟨i,xai _ h1,fun k hk=>?_⟩
   rcases xaw.1 hk with rfl|hk
   ·exact h
   ·exact h2 k hk
theorem zqh{α:Type}(f:α→Nat){l:List α}(h:l≠ []):∃i∈l,∀k∈l,f i≤f k:=by
 induction l with
 |nil=>exact absurd rfl h
 |cons x l ih=>
  by_cases hl:l=[]
  ·subst hl;exact⟨x,by simp,fun k hk=>by simp at hk;subst hk;exact Nat.le_refl _⟩
  ·obtain⟨i,h1,h2⟩:=ih hl
   by_cases hx:f x≤f i
   ·refine⟨x,by simp,fun k hk=>?_⟩
    rcases xaw.1 hk with rfl|hk
    ·exact Nat.le_refl _
    ·exact Nat.le_trans hx (h2 k hk)
   ·refine⟨i,xai _ h1,fun k hk=>?_⟩
    rcases xaw.1 hk with rfl|hk
    ·omega
    ·exact h2 k hk
theorem extr_ne{least:Bool}{r:Int→Rat}{l:List Int}(h:l≠ []):extr least r l≠ []:=by
 cases least
 ·obtain⟨i,h1,h2⟩:=zff (fun i=>- r i) h
  have:i∈extr false r l:=List.mem_filter.2 ⟨h1,xcd.2 fun k hk=>by
   have:=h2 k hk
   simp only[xbg,xcm,xaf]
   grind⟩
  exact xfw this
 ·obtain⟨i,h1,h2⟩:=zff r h
  have:i∈extr true r l:=List.mem_filter.2 ⟨h1,xcd.2 fun k hk=>by
   simp only[if_true,xaf]
   exact h2 k hk⟩
  exact xfw this
theorem extr_sub{least:Bool}{r:Int→Rat}{l:List Int}{x:Int}(h:x∈extr least r l):x∈l:=(List.mem_filter.1 h).1
theorem zfy:∀{least:Bool} {rounds:List (List Rat)} {l:List Int} {x:Int},x∈tieL least rounds l→x∈l
 |_,[],_,_,h=>h
 |least,r::rounds,l,x,h=>by
  have h':x∈tieL least rounds (if 1<l.length then extr least (zag r) l else l):=h
  have:=zfy h'
  split at this
  ·exact extr_sub this
  ·exact this
theorem zpc:∀{least:Bool} {rounds:List (List Rat)} {l:List Int},l≠ []→tieL least rounds l≠ []
 |_,[],_,h=>h
 |least,r::rounds,l,h=>by
  show tieL least rounds (if 1<l.length then extr least (zag r) l else l)≠ []
  refine zpc ?_
  split
  ·exact extr_ne h
  ·exact h
theorem zjj{α:Type}(f:α→α→α)(hf:∀a b,f a b=a∨f a b=b):∀(l:List α) (x:α),l.foldl f x=x∨l.foldl f x∈l
 | [],x=>.inl rfl
 |y::l,x=>by
  rw[xfc]
  rcases zjj f hf l (f x y)with h|h
  ·rw[h]
   rcases hf x y with h1|h1
   ·exact .inl h1
   ·exact .inr (by rw[h1];simp)
  ·exact .inr (xai _ h)
theorem byLot_mem{lots:List Int}{least:Bool}{l:List Int}(h:l≠ []):zid lots least l∈l:=by
 cases l with
 |nil=>exact absurd rfl h
 |cons x l=>
  unfold zid
  simp only[List.tail_cons,xhu]
  rcases zjj (fun m c=>if least then(if zbm lots m<zbm lots c then c else m)else(if zbm lots c<zbm lots m then c else m)) (fun a b=>by cases least<;>simp only[if_true,xbg,xcm]<;>split<;>simp) l x with h|h
  ·rw[h];simp
  ·exact xai _ h
theorem zji{l:List Int}(h:l≠ []):l.headD 0∈l:=by
 cases l with
 |nil=>exact absurd rfl h
 |cons x l=>simp
theorem tieB_mem{ties:Int}{earlier:List (List Rat)}{tied lots:List Int}{least:Bool}(h:tied≠ []):tieB ties earlier tied lots least∈tied:=by
 unfold tieB
 have hn:=zpc (least:=least) (rounds:=zah ties earlier) h
 simp only
 split
 ·exact zfy (zji hn)
 ·exact zfy (byLot_mem hn)
theorem getD_drop{α:Type}(l:List α)(k i:Nat)(d:α):(l.drop k).getD i d=l.getD (k+i) d:=by
 simp[xab,xfz]
def GP.mkd(P:GP):Nat:=sumN (fun g=>if P.p g=[]then 0 else P.k g) P.G
structure GP.OK(P:GP):Prop where
 n1:1≤P.n
 n7:P.n≤7
 seats1:1≤P.seats
 seats5:P.seats≤5
 prefs:∀g,g<P.G→∀c∈P.p g,∃i:Nat,c=(i:Int)∧i<P.n
 plen:∀g,g<P.G→(P.p g).length≤7
 total:sumN P.k P.G=P.tot
 tot5:P.tot≤100000
 q1:1≤P.q
 q5:P.q≤100001
 quota:P.mkd<P.q*(P.seats+1)
 ties1:1≤P.ties
 ties3:P.ties≤3
 lotn:P.lots.length=P.n
 lots:∀c∈P.lots,∃i:Nat,c=(i:Int)∧i<P.n
 lotd:P.lots.Nodup
variable {P:GP} {s:GS}
theorem zbg{l:List Int}{i:Nat}(h:i<l.length):l.getD i 0∈l:=by
 rw[xab,xad h]
 exact xbr h
theorem cnt_upd{p q:Nat→Bool}{n x:Nat}(hx:x<n)(h:∀i,i<n→i≠x→p i=q i)(h0:q x=false)(h1:p x=true):cntN p n=cntN q n+1:=by
 have:=sumN_upd (f:=fun i=>if p i then 1 else 0) (g:=fun i=>if q i then 1 else 0) hx fun i hi hne=>by rw[h i hi hne]
 simp only[h0,h1,if_true,xbg,xcm]at this
 unfold cntN
 omega
def eB:Nat:=2208
end Go.Proofs.YtmipjomnjkmdbaaGreat
namespace Go.Proofs.YtmipjomnjkmdbaaGreat
open Go Go.X
abbrev CT:=List Int×(List (List Int)×(Int×(Int×(Int×(Int×(Int×(Int×Int)))))))
abbrev RD:=List Rt×(List Rt×(Rt×(Rt×(Rt×(List Int×(List Int×List Int))))))
theorem zcg{α:Type}{l:List α}{d:α}(h:l.length+1≤4294967296):decide ((l.length:Int)+(([d]:List α).length:Int)≤LIM)=true:=by
 have:(l.length:Int)+(([d]:List α).length:Int)=((l.length+1:Nat):Int):=by simp
 rw[this];exact zbo h
theorem zgn(a b:Nat):decide ((a:Int)=(b:Int))=decide (a=b):=xca.2 xdi
theorem frac_nd(a b:Nat):(frac a b).num.natAbs≤a∧(frac a b).den≤max 1 b:=by
 have e:frac a b=mkRat a b:=by
  unfold frac
  rw[Rat.mkRat_eq_div]
  rfl
 rw[e]
 by_cases hb:b=0
 ·subst hb;rw[xib];exact⟨xbt _,xgv _ _⟩
 ·rw[Rat.num_mkRat,Rat.den_mkRat,if_neg hb,if_neg hb]
  refine⟨?_,Nat.le_trans (xcv _ _) (xhk _ _)⟩
  rw[xet]
  have:((a:Int)/((b.gcd a:Nat):Int))=((a/b.gcd a:Nat):Int):=rfl
  rw[this,xet]
  exact xcv _ _
theorem frac_bz{a b e:Nat}(ha:a<2^e)(hb:b<2^e)(he:1≤e):Bz e (frac a b):=by
 obtain⟨h1,h2⟩:=frac_nd a b
 have:1<2^e:=Nat.one_lt_two_pow (by omega)
 exact⟨by omega,by omega⟩
theorem Bz.sz2{q:Rat}(h:Bz eB q):Sz 268435456 (rr q):=by
 have h':Bz (32*69) q:=h
 have:=Bz.sz (k:=69) h'
 exact⟨by have:=this.1;omega,by have:=this.2;omega⟩
theorem selN_getD_lt{p:Nat→Bool}{n j:Nat}(h:j<(selN p n).length):(selN p n).getD j 0<n∧p ((selN p n).getD j 0)=true:=by
 rw[xab,xad h]
 exact zfd.1 (xbr h)
theorem selI_getD{p:Nat→Bool}{n j:Nat}(h:j<(selN p n).length):(selI p n).getD j 0=(((selN p n).getD j 0:Nat):Int):=by
 unfold selI
 rw[xab,xbm,xad h,xab,xad h];rfl
theorem zbb{α:Type}(l:List α)(d:α){n:Nat}(h:n<l.length):l.take (n+1)=l.take n++[l.getD n d]:=by
 rw[xeg,xab,xad h];rfl
def zfk{α:Type}(f:Nat→α)(L:List Nat)(x:α):Nat→α:=fun c=>if c∈L then x else f c
theorem updAll_snoc{α:Type}(f:Nat→α)(L:List Nat)(c:Nat)(x:α):upd (zfk f L x) c x=zfk f (L++[c]) x:=by
 funext d
 unfold upd zfk
 by_cases h:d=c
 ·subst h;simp
 ·simp[h]
theorem updAll_nil{α:Type}(f:Nat→α)(x:α):zfk f [] x=f:=by funext d;simp[zfk]
variable {P:GP} {s:GS}
end Go.Proofs.YtmipjomnjkmdbaaGreat
namespace Go.Proofs.YtmipjomnjkmdbaaGreat
open Go Go.X
theorem zpe{α:Type}(l:List α)(x:α){i:Nat}(h:i<l.length):(l.set i x).take (i+1)=l.take i++[x]:=by
 refine xhh fun j=>?_
 by_cases hj:j<i+1
 ·rw[xhg hj]
  by_cases h2:i=j
  ·subst h2
   rw[List.getElem?_set_self h,xck (by rw[xaq];omega),xaq,xdu (by omega),Nat.sub_self];rfl
  ·rw[xgo h2,xcl (by rw[xaq];omega),xhg (by omega)]
 ·rw[xcc (by rw[xaq,List.length_set];omega),xcc (by rw[List.length_append,xaq];simp;omega)]
theorem zby(g:Int→Bool)(s:List Int){j:Nat}(h:j<s.length):(s.take (j+1)).filter g=(s.take j).filter g++(if g (s.getD j 0)then [s.getD j 0]else []):=by
 rw[zbb s 0 h,xer]
 congr 1
 rw[xen]
 cases hg:g (s.getD j 0)<;>rfl
theorem getD_of_drop{s t:List Int}{j:Nat}(h:s.drop j=t.drop j):s.getD j 0=t.getD j 0:=by
 have h1:=getD_drop s j 0 0
 have h2:=getD_drop t j 0 0
 rw[xco]at h1 h2
 rw[←h1,←h2,h]
theorem zla{s t:List Int}{j:Nat}(h:s.drop j=t.drop j):s.drop (j+1)=t.drop (j+1):=by
 rw[←xid,←xid,h]
theorem d134_eq{s:List Int}{f:Int→Option Bool}{g:Int→Bool}(hf:∀c∈s,f c=some (g c))(hs:s.length≤1000000):d134 s f=some (s.filter fun c=>!g c):=by
 unfold d134
 rw[d101_on hf (by omega)]
 have hle:=zem g s
 by_cases h:zar g s<s.length
 ·rw[if_pos h,Option.bind_some,decide_eq_false (show ¬((zar g s:Nat):Int)=-1 by omega),cond_false]
  obtain⟨i0,hi0⟩:∃i0,zar g s=i0:=⟨_,rfl⟩
  have hat:=zen g s h
  have hlt:=zcn g s
  rw[hi0]at h hat hlt
  rw[hi0,zau (by omega)]
  refine zbj (Q:=fun r=>r=some (s.filter fun c=>!g c)) (fun(m:Nat) (st:(List Int)×(Int→Option Bool)×Int×Int)=>∃(s':List Int) (i:Nat),st=(s',f,(i:Int),((i0+1+m:Nat):Int))∧s'.length=s.length∧i≤i0+m∧i0+1+m≤s.length∧s'.take i=(s.take (i0+1+m)).filter (fun c=>!g c)∧s'.drop (i0+1+m)=s.drop (i0+1+m)) (s.length-(i0+1)) ?_ ?_ ?_
  ·refine⟨s,i0,rfl,rfl,by omega,by omega,?_,rfl⟩
   rw[zby _ s h,hat,show(!true)=false from rfl]
   simp only[xbg,xcm,xcf]
   refine(xgx.2 fun x hx=>?_).symm
   obtain⟨k,hk,hkx⟩:=xbu hx
   rw[xaq]at hk
   have:=hlt k (by omega)
   rw[xab,xad (by omega)]at this
   rw[xei]at hkx
   rw[←hkx]
   simpa using this
  ·rintro m st hm ⟨s',i,rfl,hl,hi,hmle,ht,hd⟩
   have hj:i0+1+m<s.length:=by omega
   have hgd:=getD_of_drop hd
   have hmem:s.getD (i0+1+m) 0∈s:=zbg hj
   simp only[hl,dlt hj,d0le,xac,cond_true,tn,zae,hgd,hf _ hmem,Option.bind_some]
   rw[show i0+1+(m+1)=i0+1+m+1 by omega]
   cases hg:g (s.getD (i0+1+m) 0)with
   |true=>
    refine⟨_,by rw[xaj,cond_false,zau (by omega)],s',i,rfl,hl,by omega,by omega,?_,zla hd⟩
    rw[zby _ s hj,hg,ht];simp
   |false=>
    refine⟨_,by simp only[xae,cond_true,dlt (show i<s.length by omega),zau (show i<9223372036854775807 by omega),zau (show i0+1+m<9223372036854775807 by omega),xac],s'.set i (s.getD (i0+1+m) 0),i+1,rfl,by simpa using hl,by omega,by omega,?_,?_⟩
    ·rw[zpe _ _ (by omega),zby _ s hj,hg,ht];simp
    ·rw[xii (by omega)];exact zla hd
  ·rintro st ⟨s',i,rfl,hl,hi,hmle,ht,hd⟩
   have e:i0+1+(s.length-(i0+1))=s.length:=by omega
   rw[e]at ht hd ⊢
   rw[xbd]at ht
   refine⟨(s',(i:Int)),by simp only[hl,nlt (Nat.le_refl s.length),cond_false],?_⟩
   have hil:i≤s'.length:=by omega
   have hlen:(List.take i s'++List.replicate (s'.length-i) 0).length=s'.length:=by simp;omega
   have c1:zck (i:Int) (s'.length:Int) s'.length=true:=by
    unfold zck
    simp only[xag,xaf]
    omega
   have c2:zck 0 (i:Int) s'.length=true:=by
    unfold zck
    simp only[xag,xaf]
    omega
   simp only[c1,cond_true,tn,hlen,c2]
   rw[List.take_append_of_le_length (by rw[xaq];omega),List.take_take,Nat.min_self,ht]
 ·rw[if_neg h,Option.bind_some]
  have hall:∀x∈s,g x=false:=fun x hx=>by
   cases hg:g x
   ·rfl
   ·exact absurd ((zik g s).2 ⟨x,hx,hg⟩) h
  rw[xgx.2 fun x hx=>by rw[hall x hx];rfl]
  rfl
theorem zdp(p:Nat→Bool):∀n:Nat,(selI p n).Pairwise (·< ·)
 | 0=>List.Pairwise.nil
 |n+1=>by
  rw[zct,xfj]
  refine⟨zdp p n,by split<;>simp,fun x hx y hy=>?_⟩
  obtain⟨i,rfl,h1,_⟩:=zaz.1 hx
  split at hy
  ·simp at hy;subst hy;omega
  ·simp at hy
theorem sortI_of{l m:List Int}(hp:l.Perm m)(hs:m.Pairwise (·≤·)):zdu l=m:=by
 unfold zdu
 have h1:=List.mergeSort_perm l fun x y=>decide (x≤y)
 have h2:(l.mergeSort fun x y=>decide (x≤y)).Pairwise (·≤·):=by
  have:=List.pairwise_mergeSort (le:=fun x y:Int=>decide (x≤y)) (fun a b c h1 h2=>decide_eq_true (Int.le_trans (of_decide_eq_true h1) (of_decide_eq_true h2))) (fun a b=>by simp only[xcw,xaf];omega) l
  exact this.imp fun h=>of_decide_eq_true h
 exact(h1.trans hp).eq_of_pairwise (fun a b _ _ h3 h4=>Int.le_antisymm h3 h4) h2 hs
theorem sel_perm{p q:Nat→Bool}(h:∀i,p i=true→q i=false):∀n:Nat,(selI p n++selI q n).Perm (selI (fun i=>p i||q i) n)
 | 0=>xie _
 |n+1=>by
  have ih:=sel_perm h n
  rw[zct,zct,zct]
  cases hp:p n
  ·simp only[xbg,xcm,xcf,xat]
   cases hq:q n
   ·simp only[xbg,xcm,xcf];exact ih
   ·simp only[if_true]
    rw[←xbz]
    exact ih.append_right _
  ·rw[h n hp]
   simp only[xbg,xcm,xcf,xau,if_true]
   refine List.Perm.trans ?_ (ih.append_right [(n:Int)])
   rw[xbz,xbz]
   exact List.Perm.append_left _ xht
theorem sortI_two{p q:Nat→Bool}(h:∀i,p i=true→q i=false)(n:Nat):zdu (selI p n++selI q n)=selI (fun i=>p i||q i) n:=
 sortI_of (sel_perm h n) ((zdp _ n).imp fun h=>Int.le_of_lt h)
def ext0(ρ:Int→Rat)(l:List Int):List Int:=l.filter fun i=>l.all fun k=>decide (ρ i≤ρ k)
def sgR(least:Bool)(r:Int→Rat)(c:Int):Rat:=if least then r c else-r c
theorem extr_ext0(least:Bool)(r:Int→Rat)(l:List Int):extr least r l=ext0 (sgR least r) l:=by
 unfold extr ext0 sgR
 refine xdq fun i _=>?_
 congr 1
 funext k
 cases least
 ·simp only[xbg,xcm]
  exact xca.2 ⟨fun h=>by grind,fun h=>by grind⟩
 ·rfl
theorem zqg{ρ:Int→Rat}{l:List Int}{x:Int}:x∈ext0 ρ l↔x∈l∧∀k∈l,ρ x≤ρ k:=by
 unfold ext0
 rw[List.mem_filter,xcd]
 simp only[xaf]
theorem ext0_ne{ρ:Int→Rat}{l:List Int}(h:l≠ []):ext0 ρ l≠ []:=by
 obtain⟨i,h1,h2⟩:=zff ρ h
 exact xfw (zqg.2 ⟨h1,h2⟩)
theorem ext0_nil(ρ:Int→Rat):ext0 ρ []=[]:=rfl
theorem ext0_snoc(ρ:Int→Rat){l:List Int}(x:Int)(hl:l≠ []):ext0 ρ (l++[x])=if ρ x<ρ ((ext0 ρ l).headD 0)then [x]else if ρ x=ρ ((ext0 ρ l).headD 0)then ext0 ρ l++[x]else ext0 ρ l:=by
 have hy:=zji (ext0_ne (ρ:=ρ) hl)
 generalize(ext0 ρ l).headD 0=y at hy ⊢
 obtain⟨h1,h2⟩:=zqg.1 hy
 have e:ext0 ρ (l++[x])=l.filter (fun i=>(l.all fun k=>decide (ρ i≤ρ k))&&decide (ρ i≤ρ x))++if(l.all fun k=>decide (ρ x≤ρ k))then [x]else []:=by
  unfold ext0
  rw[xer]
  congr 1
  ·refine xdq fun i _=>?_
   rw[List.all_append];simp
  ·rw[xen,List.all_append]
   have:ρ x≤ρ x:=xig
   simp[this]
 rw[e]
 by_cases c1:ρ x<ρ y
 ·rw[if_pos c1]
  have a1:l.filter (fun i=>(l.all fun k=>decide (ρ i≤ρ k))&&decide (ρ i≤ρ x))=[]:=by
   refine xgd.2 fun i hi hc=>?_
   simp only[xag,xaf]at hc
   have:=h2 i hi
   grind
  have a2:(l.all fun k=>decide (ρ x≤ρ k))=true:=xcd.2 fun k hk=>decide_eq_true (by have:=h2 k hk;grind)
  rw[a1,a2];rfl
 ·rw[if_neg c1]
  have a1:l.filter (fun i=>(l.all fun k=>decide (ρ i≤ρ k))&&decide (ρ i≤ρ x))=ext0 ρ l:=by
   unfold ext0
   refine xdq fun i hi=>?_
   cases hall:(l.all fun k=>decide (ρ i≤ρ k))
   ·rfl
   ·have:=of_decide_eq_true (xcd.1 hall y h1)
    rw[xap]
    exact decide_eq_true (by grind)
  rw[a1]
  by_cases c2:ρ x=ρ y
  ·rw[if_pos c2]
   have a2:(l.all fun k=>decide (ρ x≤ρ k))=true:=xcd.2 fun k hk=>decide_eq_true (by have:=h2 k hk;grind)
   rw[a2];rfl
  ·rw[if_neg c2]
   have a2:(l.all fun k=>decide (ρ x≤ρ k))=false:=by
    rw[List.all_eq_false]
    exact⟨y,h1,by simp only[xaf];grind⟩
   rw[a2];simp
def ordQ(least:Bool)(a b:Rat):Int:=if least then cmpQ a b else 0-cmpQ a b
theorem ordQ_lt(least:Bool)(r:Int→Rat)(x y:Int):decide (ordQ least (r x) (r y)<0)=decide (sgR least r x<sgR least r y):=by
 refine xca.2 ?_
 unfold ordQ sgR cmpQ
 cases least<;>simp only[xbg,xcm,if_true]
 ·by_cases h1:r x<r y
  ·rw[if_pos h1];constructor
   ·intro h;omega
   ·intro h;grind
  ·rw[if_neg h1]
   by_cases h2:r x=r y
   ·rw[if_pos h2];constructor
    ·intro h;omega
    ·intro h;grind
   ·rw[if_neg h2];constructor
    ·intro _;grind
    ·intro _;omega
 ·by_cases h1:r x<r y
  ·rw[if_pos h1];constructor
   ·intro h;exact h1
   ·intro h;omega
  ·rw[if_neg h1];constructor
   ·intro h;split at h<;>omega
   ·intro h;exact absurd h h1
theorem ordQ_eq(least:Bool)(r:Int→Rat)(x y:Int):decide (ordQ least (r x) (r y)=0)=decide (sgR least r x=sgR least r y):=by
 refine xca.2 ?_
 unfold ordQ sgR cmpQ
 cases least<;>simp only[xbg,xcm,if_true]
 ·by_cases h1:r x<r y
  ·rw[if_pos h1];constructor
   ·intro h;omega
   ·intro h;grind
  ·rw[if_neg h1]
   by_cases h2:r x=r y
   ·rw[if_pos h2];constructor
    ·intro h;grind
    ·intro h;omega
   ·rw[if_neg h2];constructor
    ·intro _;omega
    ·intro _;grind
 ·by_cases h1:r x<r y
  ·rw[if_pos h1];constructor
   ·intro h;omega
   ·intro h;grind
  ·rw[if_neg h1];constructor
   ·intro h;split at h
    ·assumption
    ·omega
   ·intro h;rw[if_pos h]
theorem zni(a b:Rat):-1≤cmpQ a b∧cmpQ a b≤1:=by
 unfold cmpQ;(repeat' split)<;>omega
end Go.Proofs.YtmipjomnjkmdbaaGreat
namespace Go.Proofs.YtmipjomnjkmdbaaGreat
open Go Go.X
theorem zfa(v:Int):∀l:List Int,zar (fun x=>decide (v=x)) l=l.idxOf v
 | []=>rfl
 |x::l=>by
  unfold zar
  rw[List.idxOf_cons,zfa v l]
  by_cases h:v=x
  ·subst h;simp
  ·have:(x == v)=false:=by simp;exact fun e=>h e.symm
   rw[this];simp[h]
theorem d188_eq{lots:List Int}(hl:lots.length≤1000){a b:Int}(ha:a∈lots)(hb:b∈lots):d188 a b lots=some ((zbm lots a:Int)-(zbm lots b:Int)):=by
 unfold d188
 have h1:=xfr.2 ha
 have h2:=xfr.2 hb
 rw[zqm a (by omega),zqm b (by omega),zfa,zfa,if_pos h1,if_pos h2]
 simp only[Option.bind_some]
 unfold zbm
 rw[zbi (by omega) (by omega)]
theorem d190_eq{x:List Int}{cmp:Int→Int→Option Int}{g:Int→Int→Int}(hx:x≠ [])(hl:x.length≤1000)(hc:∀a∈x,∀b∈x,cmp a b=some (g a b)):d190 x cmp=some (x.tail.foldl (fun m c=>if 0<g c m then c else m) (x.headD 0)):=by
 have hp:=xcg.2 hx
 unfold d190
 rw[decide_eq_false (show ¬((x.length:Int)<1) by omega),cond_false,show(decide (0≤0)&&decide ((0:Int)<(x.length:Int)))=true by rw[decide_eq_true (show(0:Int)<(x.length:Int) by omega)];rfl,cond_true]
 have hmem:∀i,(x.tail.take i).foldl (fun m c=>if 0<g c m then c else m) (x.headD 0)∈x:=fun i=>by
  cases x with
  |nil=>exact absurd rfl hx
  |cons y x=>
   simp only[List.tail_cons,xhu]
   rcases zjj (fun m c=>if 0<g c m then c else m) (fun a b=>by split<;>simp) (x.take i) y with h|h
   ·rw[h];simp
   ·exact xai _ (xbv h)
 refine zad (fun i=>(x,cmp,(x.tail.take i).foldl (fun m c=>if 0<g c m then c else m) (x.headD 0),((i+1:Nat):Int))) (x.length-1) ?_ (fun i hi=>?_) (b:=x.tail.foldl (fun m c=>if 0<g c m then c else m) (x.headD 0)) ?_ rfl
 ·rw[xct,xic]
  cases x with
  |nil=>exact absurd rfl hx
  |cons y x=>rfl
 ·have hlt:i+1<x.length:=by omega
  have hxm:x.getD (i+1) 0∈x:=zbg hlt
  have ht:x.tail.getD i 0=x.getD (i+1) 0:=by
   cases x with
   |nil=>exact absurd rfl hx
   |cons y x=>rfl
  have hs:x.tail.take (i+1)=x.tail.take i++[x.getD (i+1) 0]:=by rw[zbb x.tail 0 (by rw[xhl];omega),ht]
  simp only[dlt hlt,d0le,xac,cond_true,tn,zae,hc _ hxm _ (hmem i),Option.bind_some,zau (show i+1<9223372036854775807 by omega),hs,List.foldl_append,xfc,xic]
  generalize(x.tail.take i).foldl (fun m c=>if 0<g c m then c else m) (x.headD 0)=m
  by_cases h:0<g (x.getD (i+1) 0) m
  ·rw[decide_eq_true h,cond_true,if_pos h]
  ·rw[decide_eq_false h,cond_false,if_neg h]
 ·have e:x.length-1+1=x.length:=by omega
  rw[e]
  simp only[nlt (Nat.le_refl x.length),cond_false]
  rw[xan (by rw[xhl];omega)]
theorem d191_eq{x:List Int}{cmp:Int→Int→Option Int}{g:Int→Int→Int}(hx:x≠ [])(hl:x.length≤1000)(hc:∀a∈x,∀b∈x,cmp a b=some (g a b)):d191 x cmp=some (x.tail.foldl (fun m c=>if g c m<0 then c else m) (x.headD 0)):=by
 have hp:=xcg.2 hx
 unfold d191
 rw[decide_eq_false (show ¬((x.length:Int)<1) by omega),cond_false,show(decide (0≤0)&&decide ((0:Int)<(x.length:Int)))=true by rw[decide_eq_true (show(0:Int)<(x.length:Int) by omega)];rfl,cond_true]
 have hmem:∀i,(x.tail.take i).foldl (fun m c=>if g c m<0 then c else m) (x.headD 0)∈x:=fun i=>by
  cases x with
  |nil=>exact absurd rfl hx
  |cons y x=>
   simp only[List.tail_cons,xhu]
   rcases zjj (fun m c=>if g c m<0 then c else m) (fun a b=>by split<;>simp) (x.take i) y with h|h
   ·rw[h];simp
   ·exact xai _ (xbv h)
 refine zad (fun i=>(x,cmp,(x.tail.take i).foldl (fun m c=>if g c m<0 then c else m) (x.headD 0),((i+1:Nat):Int))) (x.length-1) ?_ (fun i hi=>?_) (b:=x.tail.foldl (fun m c=>if g c m<0 then c else m) (x.headD 0)) ?_ rfl
 ·rw[xct,xic]
  cases x with
  |nil=>exact absurd rfl hx
  |cons y x=>rfl
 ·have hlt:i+1<x.length:=by omega
  have hxm:x.getD (i+1) 0∈x:=zbg hlt
  have ht:x.tail.getD i 0=x.getD (i+1) 0:=by
   cases x with
   |nil=>exact absurd rfl hx
   |cons y x=>rfl
  have hs:x.tail.take (i+1)=x.tail.take i++[x.getD (i+1) 0]:=by rw[zbb x.tail 0 (by rw[xhl];omega),ht]
  simp only[dlt hlt,d0le,xac,cond_true,tn,zae,hc _ hxm _ (hmem i),Option.bind_some,zau (show i+1<9223372036854775807 by omega),hs,List.foldl_append,xfc,xic]
  generalize(x.tail.take i).foldl (fun m c=>if g c m<0 then c else m) (x.headD 0)=m
  by_cases h:g (x.getD (i+1) 0) m<0
  ·rw[decide_eq_true h,cond_true,if_pos h]
  ·rw[decide_eq_false h,cond_false,if_neg h]
 ·have e:x.length-1+1=x.length:=by omega
  rw[e]
  simp only[nlt (Nat.le_refl x.length),cond_false]
  rw[xan (by rw[xhl];omega)]
structure LotsOK(n:Nat)(lots:List Int):Prop where
 n1:1≤n
 n7:n≤7
 len:lots.length=n
 within:∀c∈lots,∃i:Nat,c=(i:Int)∧i<n
 nodup:lots.Nodup
theorem LotsOK.mem{n:Nat}{lots:List Int}(h:LotsOK n lots){i:Nat}(hi:i<n):(i:Int)∈lots:=by
 refine xdh fun hni=>?_
 have:=zjc (n:=n) ((i:Int)::lots) (xfv.2 ⟨hni,h.nodup⟩) (fun x hx=>by
  rcases xaw.1 hx with rfl|hx
  ·omega
  ·obtain⟨j,rfl,hj⟩:=h.within x hx;omega)
 rw[xbo,h.len]at this
 omega
theorem d185_eq{n:Nat}{ties:Int}{tied lots:List Int}(h1:1≤ties)(h3:ties≤3)(hl:LotsOK n lots)(ht:tied≠ [])(hts:tied.Pairwise (·< ·))(htb:∀c∈tied,∃i:Nat,c=(i:Int)∧i<n)(htl:tied.length≤1000):d185 ties tied lots=some true:=by
 have hn1:=hl.n1
 have hn7:=hl.n7
 have hp:=xcg.2 ht
 unfold d185
 rw[zae]
 simp only[hl.len,decide_eq_false (show ¬ties<1 by omega),decide_eq_false (show ¬3<ties by omega),decide_eq_false (show ¬(n:Int)<1 by omega),decide_eq_false (show ¬7<(n:Int) by omega),decide_eq_false (show ¬(tied.length:Int)=0 by omega),xae,cond_true,cond_false]
 refine zad (fun i=>(tied,(n:Int),lst (fun v=>decide ((v:Int)∈lots.take i)) 7,lots,(n:Int),(i:Int))) n ?_ (fun i hi=>?_) (b:=.inl (tied,(n:Int))) ?_ ?_
 ·simp only[xct,List.not_mem_nil,xci];rfl
 ·have hil:i<lots.length:=by rw[hl.len];exact hi
  obtain⟨c,hc,hcn⟩:=hl.within _ (zbg hil)
  have hnot:decide ((c:Int)∈lots.take i)=false:=decide_eq_false fun hm=>by
   have:=hl.nodup.sublist (xge (i+1) lots)
   rw[zbb lots 0 hil,hc,xeh]at this
   exact this.2.2 _ hm _ (by simp) rfl
  simp only[dlt hi,hl.len,d0le,xac,cond_true,tn,zae,hc,decide_eq_false (show ¬(c:Int)<0 by omega),decide_eq_false (show ¬(n:Int)≤(c:Int) by omega),xae,show decide ((c:Int)<7)=true from decide_eq_true (by omega),zam (fun v=>decide ((v:Int)∈lots.take i)) (show c<7 by omega),hnot,cond_false,zce,zau (show i<9223372036854775807 by omega)]
  have e:lst (upd (fun v=>decide ((v:Int)∈lots.take i)) c true) 7=lst (fun v=>decide ((v:Int)∈lots.take (i+1))) 7:=zao fun v hv=>by
   rw[zbb lots 0 hil,hc]
   unfold upd
   by_cases hvc:v=c
   ·subst hvc;simp
   ·rw[if_neg hvc]
    refine xca.2 ?_
    rw[List.mem_append,xdn]
    exact⟨.inl,fun hm=>hm.resolve_right fun e=>hvc (xdi.1 e)⟩
  rw[e]
 ·simp only[nlt (Nat.le_refl n),cond_false]
 ·simp only
  refine zad (fun i=>(tied,(n:Int),tied,(tied.length:Int),(i:Int))) tied.length rfl (fun i hi=>?_) (b:=.inl ()) ?_ rfl
  ·obtain⟨c,hc,hcn⟩:=htb _ (zbg hi)
   simp only[dlt hi,d0le,xac,cond_true,tn,zae,hc,decide_eq_false (show ¬(c:Int)<0 by omega),decide_eq_false (show ¬(n:Int)≤(c:Int) by omega),xae,zau (show i<9223372036854775807 by omega)]
   cases i with
   |zero=>rfl
   |succ i=>
    have hlt:tied.getD i 0<tied.getD (i+1) 0:=by
     rw[xab,xad (by omega),xab,xad hi]
     exact xcu.1 hts i (i+1) (by omega) hi (by omega)
    rw[hc]at hlt
    simp only[show decide ((0:Int)<((i+1:Nat):Int))=true from decide_eq_true (by omega),cond_true,zoz (show i<9223372036854775807 by omega),d0le,dlt (show i<tied.length by omega),xac,tn,decide_eq_false (show ¬(c:Int)≤tied.getD i 0 by omega),cond_false]
  ·simp only[nlt (Nat.le_refl tied.length),cond_false]
def RndOK(n:Nat)(r:List Rat):Prop:=r.length=n∧∀q∈r,Bz eB q
theorem zms{r:List Rat}{c:Nat}(h:c<r.length):(r.map rr).getD c (false,[],[])=rr (r.getD c 0):=by
 rw[xab,xbm,xad h,xab,xad h];rfl
theorem zbr{α:Type}{l:List α}{d:α}{i:Nat}(h:i<l.length):l.getD i d∈l:=by
 rw[xab,xad h]
 exact xbr h
theorem RndOK.bz{n:Nat}{r:List Rat}(h:RndOK n r){c:Nat}(hc:c<n):Bz eB (zag r (c:Int)):=h.2 _ (zbr (by rw[h.1];exact hc))
theorem d213_eq{n:Nat}{r:List Rat}(h:RndOK n r){c:Nat}(hc:c<n):d213 (r.map rr) (c:Int)=some (rr (zag r (c:Int))):=by
 have hc':c<r.length:=by rw[h.1];exact hc
 unfold d213
 rw[xbe,dlt hc']
 simp only[cond_true,d0le,xac,tn,zms hc']
 rfl
theorem w_ord(least:Bool)(a b:Rat):(bif !least then w (0-cmpQ a b)else cmpQ a b)=ordQ least a b:=by
 have:=zni a b
 unfold ordQ
 cases least
 ·rw[xae,cond_true,zbi (by omega) (by omega)];rfl
 ·rfl
theorem zde(l:List Int):l.getD 0 0=l.headD 0:=by cases l<;>rfl
theorem ext0_len(ρ:Int→Rat)(l:List Int):(ext0 ρ l).length≤l.length:=xdv _ _
theorem d187_eq{n:Nat}{r:List Rat}(h:RndOK n r){l:List Int}(hl:∀c∈l,∃i:Nat,c=(i:Int)∧i<n)(hll:l.length≤1000)(least:Bool):d187 l (r.map rr) least=some (extr least (zag r) l):=by
 rw[extr_ext0]
 unfold d187
 refine zad (fun i=>(r.map rr,least,ext0 (sgR least (zag r)) (l.take i),l,(l.length:Int),(i:Int))) l.length rfl (fun i hi=>?_) (b:=ext0 (sgR least (zag r)) l) ?_ rfl
 ·obtain⟨c,hc,hcn⟩:=hl _ (zbg hi)
  have hol:=ext0_len (sgR least (zag r)) (l.take i)
  rw[xaq]at hol
  simp only[dlt hi,d0le,xac,cond_true,tn,zae,hc,zau (show i<9223372036854775807 by omega)]
  rw[zbb l 0 hi,hc]
  by_cases hi0:l.take i=[]
  ·rw[hi0,ext0_nil]
   have e:ext0 (sgR least (zag r)) ([]++[(c:Int)])=[(c:Int)]:=by
    have:sgR least (zag r) (c:Int)≤sgR least (zag r) (c:Int):=xig
    simp[ext0,xen,this]
   rw[e]
   simp only[show decide ((0:Int)<(([]:List Int).length:Int))=false from rfl,cond_false,show decide ((-1:Int)≤0)=true from rfl,cond_true,zcg (l:=([]:List Int)) (d:=(c:Int)) (by simp)]
   rfl
  ·have hne:=ext0_ne (ρ:=sgR least (zag r)) hi0
   have hpos:=xcg.2 hne
   obtain⟨y,hy⟩:∃y,(ext0 (sgR least (zag r)) (l.take i)).headD 0=y:=⟨_,rfl⟩
   have hym:y∈l:=by
    have:=zji hne
    rw[hy]at this
    exact xbv (zqg.1 this).1
   obtain⟨d,rfl,hdn⟩:=hl _ hym
   rw[ext0_snoc _ _ hi0,hy]
   generalize ext0 (sgR least (zag r)) (l.take i)=out at *
   have hlt1:=ordQ_lt least (zag r) (c:Int) (d:Int)
   have heq1:=ordQ_eq least (zag r) (c:Int) (d:Int)
   have hg0:(decide (0≤0)&&decide ((0:Int)<(out.length:Int)))=true:=by
    rw[decide_eq_true (show(0:Int)<(out.length:Int) by omega)];rfl
   have hg1:decide ((0:Int)<(out.length:Int))=true:=decide_eq_true (by omega)
   have hcut:zck 0 0 out.length=true:=by
    unfold zck
    simp only[xag,xaf]
    omega
   have hb:=w_ord least (zag r (c:Int)) (zag r (d:Int))
   rw[hg0]
   simp only[hg1,cond_true,zde,hy,d213_eq h hcn,d213_eq h hdn,Option.bind_some,d137_rr (h.bz hcn).sz2 (h.bz hdn).sz2,hcut,xct]
   have hcl:decide ((([]:List Int).length:Int)+(([(c:Int)]:List Int).length:Int)≤LIM)=true:=zcg (l:=([]:List Int)) (d:=(c:Int)) (by simp)
   have hol2:=zcg (l:=out) (d:=(c:Int)) (by omega)
   have key:∀o:Int,o=ordQ least (zag r (c:Int)) (zag r (d:Int))→(bif decide (o<0)then
     bif decide (o≤0)then
      bif decide ((([]:List Int).length:Int)+(([(c:Int)]:List Int).length:Int)≤LIM)then(some (Sum.inl (r.map rr,least,([]:List Int)++[(c:Int)],l,(l.length:Int),((i+1:Nat):Int))):Option ((List Rt×Bool×List Int×List Int×Int×Int)⊕List Int))else none
     else some (Sum.inl (r.map rr,least,([]:List Int),l,(l.length:Int),((i+1:Nat):Int)))
    else
     bif decide (o≤0)then
      bif decide ((out.length:Int)+(([(c:Int)]:List Int).length:Int)≤LIM)then some (Sum.inl (r.map rr,least,out++[(c:Int)],l,(l.length:Int),((i+1:Nat):Int)))else none
     else some (Sum.inl (r.map rr,least,out,l,(l.length:Int),((i+1:Nat):Int))))=some (.inl (r.map rr,least,if sgR least (zag r) (c:Int)<sgR least (zag r) (d:Int)then [(c:Int)]else if sgR least (zag r) (c:Int)=sgR least (zag r) (d:Int)then out++[(c:Int)]else out,l,(l.length:Int),((i+1:Nat):Int))):=by
    intro o ho
    rw[←ho]at hlt1 heq1
    rw[hcl,hol2]
    by_cases c1:o<0
    ·rw[decide_eq_true c1]at hlt1
     rw[if_pos (of_decide_eq_true hlt1.symm),decide_eq_true c1,decide_eq_true (show o≤0 by omega)];rfl
    ·rw[decide_eq_false c1]at hlt1
     rw[if_neg (xcn hlt1.symm),decide_eq_false c1]
     by_cases c2:o=0
     ·rw[decide_eq_true c2]at heq1
      rw[if_pos (of_decide_eq_true heq1.symm),decide_eq_true (show o≤0 by omega)];rfl
     ·rw[decide_eq_false c2]at heq1
      rw[if_neg (xcn heq1.symm),decide_eq_false (show ¬o≤0 by omega)];rfl
   cases least
   ·rw[xae,cond_true]at hb ⊢
    exact key _ hb
   ·rw[xaj,cond_false]at hb ⊢
    exact key _ hb
 ·simp only[nlt (Nat.le_refl l.length),cond_false,xbd]
theorem znv:∀{least:Bool} {rs:List (List Rat)} {l:List Int},l.length≤1→tieL least rs l=l
 |_,[],_,_=>rfl
 |least,r::rs,l,h=>by
  show tieL least rs (if 1<l.length then extr least (zag r) l else l)=l
  rw[if_neg (by omega)]
  exact znv h
theorem tieL_snoc(least:Bool)(rs:List (List Rat))(r:List Rat)(l:List Int):tieL least (rs++[r]) l=if 1<(tieL least rs l).length then extr least (zag r) (tieL least rs l)else tieL least rs l:=by
 unfold tieL
 rw[List.foldl_append];rfl
theorem tieL_append(least:Bool)(rs rs':List (List Rat))(l:List Int):tieL least (rs++rs') l=tieL least rs' (tieL least rs l):=by
 unfold tieL
 rw[List.foldl_append]
theorem extr_len(least:Bool)(r:Int→Rat)(l:List Int):(extr least r l).length≤l.length:=xdv _ _
theorem ziq:∀(least:Bool) (rs:List (List Rat)) (l:List Int),(tieL least rs l).length≤l.length
 |_,[],_=>Nat.le_refl _
 |least,r::rs,l=>by
  show(tieL least rs (if 1<l.length then extr least (zag r) l else l)).length≤_
  refine Nat.le_trans (ziq least rs _) ?_
  split
  ·exact extr_len _ _ _
  ·exact Nat.le_refl _
theorem d155_eq{n:Nat}{ties:Int}{E:List (List Rat)}{tied lots:List Int}{least:Bool}(h1:1≤ties)(h3:ties≤3)(hl:LotsOK n lots)(hE:∀r∈E,RndOK n r)(hEl:E.length≤1000000)(ht:tied≠ [])(hts:tied.Pairwise (·< ·))(htb:∀c∈tied,∃i:Nat,c=(i:Int)∧i<n)(htl:tied.length≤1000) :
  ∃b,d155 ties (E.map (List.map rr)) tied lots least=some (tieB ties E tied lots least,b,E.map (List.map rr)):=by
 have hcl:d186 tied=some tied:=by unfold d186;rw[zbo (by omega)];rfl
 unfold d155
 rw[d185_eq h1 h3 hl ht hts htb htl]
 simp only[Option.bind_some,xaj,cond_false,hcl]
 have hfin:∀left:List Int,left=tieL least (zah ties E) tied→∃b,(bif (decide ((left.length:Int)=1))then
   bif (decide (0≤0)&&decide (0<(left.length:Int)))then
    some ((List.getD left 0 0),false,E.map (List.map rr))
   else none
  else
   bif least then
    (d190 left (fun a a_1=>d188 a a_1 lots)).bind fun r_3=>
    some (r_3,true,E.map (List.map rr))
   else
    (d191 left (fun a_2 a_3=>d188 a_2 a_3 lots)).bind fun r_4=>
    some (r_4,true,E.map (List.map rr)))=some (tieB ties E tied lots least,b,E.map (List.map rr)):=by
  intro left hleft
  have hne:left≠ []:=by rw[hleft];exact zpc ht
  have hlen:left.length≤tied.length:=by rw[hleft];exact ziq _ _ _
  have hlot:∀a∈left,a∈lots:=fun a ha=>by
   rw[hleft]at ha
   obtain⟨i,rfl,hi⟩:=htb _ (zfy ha)
   exact hl.mem hi
  have hll:=hl.len
  have hn7:=hl.n7
  unfold tieB
  simp only[←hleft]
  by_cases hone:left.length=1
  ·refine⟨false,?_⟩
   rw[if_pos hone,hone,zde];rfl
  ·refine⟨true,?_⟩
   rw[if_neg hone,decide_eq_false (show ¬(left.length:Int)=1 by omega),cond_false]
   have hc:∀a∈left,∀b∈left,d188 a b lots=some ((zbm lots a:Int)-(zbm lots b:Int)):=fun a ha b hb=>d188_eq (by omega) (hlot a ha) (hlot b hb)
   cases least
   ·rw[cond_false,d191_eq hne (by omega) hc,Option.bind_some]
    unfold zid
    simp only[xbg,xcm]
    congr 3
    funext m c
    by_cases h:zbm lots c<zbm lots m
    ·rw[if_pos h,if_pos (by omega)]
    ·rw[if_neg h,if_neg (by omega)]
   ·rw[cond_true,d190_eq hne (by omega) hc,Option.bind_some]
    unfold zid
    simp only[if_true]
    congr 3
    funext m c
    by_cases h:zbm lots m<zbm lots c
    ·rw[if_pos h,if_pos (by omega)]
    ·rw[if_neg h,if_neg (by omega)]
 refine zco (Q:=fun r=>∃b,r=some (tieB ties E tied lots least,b,E.map (List.map rr))) (fun(M:Nat) (st:Int×(List (List Rt))×Bool×(List Int)×(List Int)×Int)=>∃i:Nat,st=(ties,E.map (List.map rr),least,lots,tieL least ((zah ties E).take i) tied,(i:Int))∧i+M=E.length) E.length ⟨0,by rw[xct];rfl,by omega⟩ ?_
 rintro M st ⟨i,rfl,hM⟩
 have hsub:∀c∈tieL least ((zah ties E).take i) tied,∃j:Nat,c=(j:Int)∧j<n:=fun c hc=>htb c (zfy hc)
 have hlen:=ziq least ((zah ties E).take i) tied
 obtain⟨left,hleft⟩:∃left,tieL least ((zah ties E).take i) tied=left:=⟨_,rfl⟩
 rw[hleft]at hsub hlen
 have hEm:(E.map (List.map rr)).length=E.length:=xbe ..
 simp only[hleft,hEm,zae]
 by_cases c3:ties=3
 ·have hr:zah ties E=[]:=by unfold zah;rw[if_pos c3]
  have hq:left=tieL least (zah ties E) tied:=by rw[←hleft,hr,List.take_nil]
  have hd3:(!decide (ties=3))=false:=by rw[decide_eq_true c3];rfl
  refine .inr ⟨(E.map (List.map rr),least,lots,left),?_,hfin left hq⟩
  rw[hd3]
  simp only[cond_false]
  cases decide ((i:Int)<(E.length:Int))<;>cases decide (1<(left.length:Int))<;>rfl
 ·have hd3:(!decide (ties=3))=true:=by rw[decide_eq_false c3];rfl
  have hrl:(zah ties E).length=E.length:=by
   unfold zah
   rw[if_neg c3]
   split
   ·exact List.length_reverse
   ·rfl
  rw[hd3]
  rcases xbk M with h0|h0
  ·have hq:left=tieL least (zah ties E) tied:=by rw[←hleft,xan (by omega)]
   refine .inr ⟨(E.map (List.map rr),least,lots,left),?_,hfin left hq⟩
   simp only[nlt (show E.length≤i by omega),cond_false]
  ·have hiE:i<E.length:=by omega
   by_cases hl1:1<left.length
   ·have hg:decide ((1:Int)<(left.length:Int))=true:=decide_eq_true (by omega)
    have key:∀(r:List Rat) (z:List Rt),r∈E→(zah ties E).getD i []=r→z=r.map rr→d187 left z least=some (tieL least ((zah ties E).take (i+1)) tied):=by
     rintro r z hr hri rfl
     rw[d187_eq (hE r hr) hsub (by omega),zbb (zah ties E) [] (by omega),tieL_snoc,hleft,hri,if_pos hl1]
    refine .inl ⟨(ties,E.map (List.map rr),least,lots,tieL least ((zah ties E).take (i+1)) tied,((i+1:Nat):Int)),M-1,?_,by omega,i+1,rfl,by omega⟩
    simp only[dlt hiE,hg,cond_true,d0le,xac,tn,zau (show i<9223372036854775807 by omega)]
    by_cases c1:ties=1
    ·have i1:w (w ((E.length:Int)-1)-(i:Int))=((E.length-1-i:Nat):Int):=by
      rw[zbi (n:=(E.length:Int)-1) (by omega) (by omega),zbi (by omega) (by omega)];omega
     have hgr:(zah ties E).getD i []=E.getD (E.length-1-i) []:=by
      unfold zah
      rw[if_neg c3,if_pos c1]
      rw[xab,List.getElem?_reverse hiE,xab]
     have hz:(E.map (List.map rr)).getD (E.length-1-i) []=(E.getD (E.length-1-i) []).map rr:=by
      rw[xab,xbm,xad (by omega),xab,xad (by omega)];rfl
     simp only[decide_eq_true c1,cond_true,i1,d0le,dlt (show E.length-1-i<E.length by omega),xac,tn]
     rw[key _ _ (zbr (by omega)) hgr hz];rfl
    ·have hgr:(zah ties E).getD i []=E.getD i []:=by
      unfold zah
      rw[if_neg c3,if_neg c1]
     have hz:(E.map (List.map rr)).getD i []=(E.getD i []).map rr:=by
      rw[xab,xbm,xad hiE,xab,xad hiE];rfl
     simp only[decide_eq_false c1,cond_false]
     rw[key _ _ (zbr (by omega)) hgr hz];rfl
   ·have hg:decide ((1:Int)<(left.length:Int))=false:=decide_eq_false (by omega)
    have hq:left=tieL least (zah ties E) tied:=by
     have e:=tieL_append least ((zah ties E).take i) ((zah ties E).drop i) tied
     rw[xdc,hleft,znv (l:=left) (by omega)]at e
     exact e.symm
    refine .inr ⟨(E.map (List.map rr),least,lots,left),?_,hfin left hq⟩
    simp only[dlt hiE,hg,cond_true,cond_false]
end Go.Proofs.YtmipjomnjkmdbaaGreat
namespace Go.Proofs.YtmipjomnjkmdbaaGreat
open Go Go.X
def rdT(r:Rd):RD:=(r.votes.map rr,r.keep.map rr,rr r.quota,rr r.exh,rr r.sur,r.el,r.ex,r.ti)
variable {P:GP} {s:GS}
theorem zge(p:Nat→Bool)(g:Int→Bool)(n:Nat):(selI p n).filter g=selI (fun i=>p i&&g (i:Int)) n:=by
 unfold selI
 rw[List.filter_map,←selN_filter]
 rfl
theorem sum_sel(p:Nat→Bool)(f:Nat→Nat):∀n:Nat,((selN p n).map f).sum=sumN (fun i=>if p i then f i else 0) n
 | 0=>rfl
 |n+1=>by
  rw[zmg,xcp,List.sum_append,sum_sel p f n,sumN]
  congr 1
  cases p n<;>simp
theorem sum_take_le(l:List Nat)(j:Nat):(l.take j).sum≤l.sum:=by
 conv=>rhs;rw[←xdc j l]
 rw[List.sum_append]
 omega
theorem zog(hP:P.OK):LotsOK P.n P.lots:=⟨hP.n1,hP.n7,hP.lotn,hP.lots,hP.lotd⟩
theorem zqe:∀{rs:List Rd},(∀r∈rs,r.el.length≤7)→(rs.flatMap Rd.el).length≤7*rs.length
 | [],_=>by simp
 |r::rs,h=>by
  rw[xfg,List.length_append,xbo]
  have:=zqe (rs:=rs) fun x hx=>h x (xai _ hx)
  have:=h r (by simp)
  omega
end Go.Proofs.YtmipjomnjkmdbaaGreat
namespace Go.Proofs.YtmipjomnjkmdbaaGreat
open Go Go.X
variable {P:GP} {s:GS}
theorem zpz{α:Type}{l m:List α}(h:l.length+m.length≤4294967296):decide ((l.length:Int)+(m.length:Int)≤LIM)=true:=by
 rw[show(l.length:Int)+(m.length:Int)=((l.length+m.length:Nat):Int) by omega];exact zbo h
end Go.Proofs.YtmipjomnjkmdbaaGreat
namespace Go.Proofs.YtmipjomnjkmdbaaGreat
open Go Go.X
def zmq(n:Int)(lots:List Int):Bool:=decide ((lots.length:Int)=n)&&decide (isB n lots)
def fitE(m:Int)(c:CT)(gs:List Grp)(lots:List Int):Int:=
 bif decide (m<1)||(decide (3<m)|| !decide (c.2.2.1=m))then 5
 else bif decide ((c.2.1.length:Int)<1)||(decide (7<(c.2.1.length:Int))||(decide (c.2.2.2.1<1)||(decide (5<c.2.2.2.1)||((decide (m=1)&& !decide (c.2.2.2.1=1))||(!(bif decide (m=2)then decide (1≤c.2.2.2.2.2.1)&&decide (c.2.2.2.2.2.1≤6)else decide (c.2.2.2.2.2.1=0))||(decide (c.2.2.2.2.2.2.1<1)||decide (3<c.2.2.2.2.2.2.1)))))))then 4
 else bif !zii (c.2.1.length:Int) gs then 8
 else bif !zmq (c.2.1.length:Int) lots then 13
 else 0
set_option maxHeartbeats 2000000 in
theorem d66_eq(m:Int)(c:CT){gs:List Grp}{lots:List Int}(hg:GsOK gs)(hl:lots.length≤281474976710656):d66 m c gs lots=some (fitE m c gs lots):=by
 have hp:decide ((c.2.1.length:Int)<1)=false→decide (7<(c.2.1.length:Int))=false→d124 (c.2.1.length:Int) gs=some (zii (c.2.1.length:Int) gs):=fun h1 h2=>by
  have h1:=xcn h1
  have h2:=xcn h2
  rw[d124_eq (by omega) hg.1 hg.2]
  unfold zii goodP
  rw[decide_eq_true (show 1≤(c.2.1.length:Int)∧(c.2.1.length:Int)≤7 by omega)];rfl
 have hq:decide (7<(c.2.1.length:Int))=false→d125 lots (c.2.1.length:Int)=some (zmq (c.2.1.length:Int) lots):=fun h2=>by
  have h2:=xcn h2
  unfold d125 zmq
  by_cases h:(lots.length:Int)=(c.2.1.length:Int)
  ·rw[decide_eq_true h,cond_true,d165_eq (by omega) hl];rfl
  ·rw[decide_eq_false h];rfl
 unfold d66 fitE
 cases he2:decide (m=2)<;>cases hg1:decide (1≤c.2.2.2.2.2.1)<;>simp only[he2,hg1,xaj,xae,cond_true,cond_false,xba,xat,Bool.or_true,xau,xap,xar,Option.bind_some]
 all_goals
  rw[zae]
  cases ha1:decide (m<1)
  case true=>simp only[ha1,zae,xaj,xae,cond_true,cond_false,xba,xat,Bool.or_true,xau,xap,xar,Option.bind_some]
  try simp only[ha1,xaj,xae,cond_true,cond_false,xba,xat,Bool.or_true,xau,xap,xar,Option.bind_some]
  cases ha2:decide (3<m)
  case true=>simp only[ha2,zae,xaj,xae,cond_true,cond_false,xba,xat,Bool.or_true,xau,xap,xar,Option.bind_some]
  try simp only[ha2,xaj,xae,cond_true,cond_false,xba,xat,Bool.or_true,xau,xap,xar,Option.bind_some]
  cases ha3:decide (c.2.2.1=m)
  case false=>simp only[ha3,zae,xaj,xae,cond_true,cond_false,xba,xat,Bool.or_true,xau,xap,xar,Option.bind_some]
  try simp only[ha3,xaj,xae,cond_true,cond_false,xba,xat,Bool.or_true,xau,xap,xar,Option.bind_some]
  rw[zae]
  try simp only[xaj,xae,cond_true,cond_false,xba,xat,Bool.or_true,xau,xap,xar,Option.bind_some]
  cases hn1:decide ((c.2.1.length:Int)<1)
  case true=>simp only[hn1,zae,xaj,xae,cond_true,cond_false,xba,xat,Bool.or_true,xau,xap,xar,Option.bind_some]
  try simp only[hn1,xaj,xae,cond_true,cond_false,xba,xat,Bool.or_true,xau,xap,xar,Option.bind_some]
  cases hn2:decide (7<(c.2.1.length:Int))
  case true=>simp only[hn2,zae,xaj,xae,cond_true,cond_false,xba,xat,Bool.or_true,xau,xap,xar,Option.bind_some]
  try simp only[hn2,xaj,xae,cond_true,cond_false,xba,xat,Bool.or_true,xau,xap,xar,Option.bind_some]
  simp only[zae,hp hn1 hn2,hq hn2,xaj,xae,cond_true,cond_false,xba,xat,Bool.or_true,xau,xap,xar,Option.bind_some]
  cases hs1:decide (c.2.2.2.1<1)
  case true=>simp only[hs1,zae,xaj,xae,cond_true,cond_false,xba,xat,Bool.or_true,xau,xap,xar,Option.bind_some]
  try simp only[hs1,xaj,xae,cond_true,cond_false,xba,xat,Bool.or_true,xau,xap,xar,Option.bind_some]
  cases hs2:decide (5<c.2.2.2.1)
  case true=>simp only[hs2,zae,xaj,xae,cond_true,cond_false,xba,xat,Bool.or_true,xau,xap,xar,Option.bind_some]
  try simp only[hs2,xaj,xae,cond_true,cond_false,xba,xat,Bool.or_true,xau,xap,xar,Option.bind_some]
  cases hm1:decide (m=1)<;>cases hso:decide (c.2.2.2.1=1)<;>simp only[hm1,hso,xaj,xae,cond_true,cond_false,xba,xat,Bool.or_true,xau,xap,xar,Option.bind_some]
  all_goals (try (cases hg2:decide (c.2.2.2.2.2.1≤6)<;>simp only[hg2,xaj,xae,cond_true,cond_false,xba,xat,Bool.or_true,xau,xap,xar,Option.bind_some]))
  all_goals (try (cases hg0:decide (c.2.2.2.2.2.1=0)<;>simp only[hg0,xaj,xae,cond_true,cond_false,xba,xat,Bool.or_true,xau,xap,xar,Option.bind_some]))
  all_goals (try (cases ht1:decide (c.2.2.2.2.2.2.1<1)<;>simp only[ht1,xaj,xae,cond_true,cond_false,xba,xat,Bool.or_true,xau,xap,xar,Option.bind_some]))
  all_goals (try (cases ht2:decide (3<c.2.2.2.2.2.2.1)<;>simp only[ht2,xaj,xae,cond_true,cond_false,xba,xat,Bool.or_true,xau,xap,xar,Option.bind_some]))
  all_goals (try (cases zii (c.2.1.length:Int) gs<;>simp only[xaj,xae,cond_true,cond_false,xba,xat,Bool.or_true,xau,xap,xar,Option.bind_some]))
  all_goals (try (cases zmq (c.2.1.length:Int) lots<;>simp only[xaj,xae,cond_true,cond_false,xba,xat,Bool.or_true,xau,xap,xar,Option.bind_some]))
set_option maxHeartbeats 2000000 in
theorem d23_eq(m:Int)(c:CT){gs:List Grp}{lots:List Int}(hg:GsOK gs)(hl:lots.length≤281474976710656):d23 m c gs lots=some (fitE m c gs lots):=by
 have hp:d70 (c.2.1.length:Int) gs=some (zii (c.2.1.length:Int) gs):=d70_eq hg
 have hq:d71 (c.2.1.length:Int) lots=some (zmq (c.2.1.length:Int) lots):=by
  unfold d71 zmq
  by_cases h:(lots.length:Int)=(c.2.1.length:Int)
  ·rw[decide_eq_true h,cond_true,d32_eq _ hl];rfl
  ·rw[decide_eq_false h];rfl
 unfold d23 fitE
 rw[zae]
 cases ha1:decide (m<1)
 case true=>simp only[ha1,zae,xaj,xae,cond_true,cond_false,xba,xat,Bool.or_true,xau,xap,xar,Option.bind_some]
 try simp only[ha1,xaj,xae,cond_true,cond_false,xba,xat,Bool.or_true,xau,xap,xar,Option.bind_some]
 cases ha2:decide (3<m)
 case true=>simp only[ha2,zae,xaj,xae,cond_true,cond_false,xba,xat,Bool.or_true,xau,xap,xar,Option.bind_some]
 try simp only[ha2,xaj,xae,cond_true,cond_false,xba,xat,Bool.or_true,xau,xap,xar,Option.bind_some]
 cases ha3:decide (c.2.2.1=m)
 case false=>simp only[ha3,zae,xaj,xae,cond_true,cond_false,xba,xat,Bool.or_true,xau,xap,xar,Option.bind_some]
 try simp only[ha3,xaj,xae,cond_true,cond_false,xba,xat,Bool.or_true,xau,xap,xar,Option.bind_some]
 rw[zae]
 cases he2:decide (m=2)<;>cases hg1:decide (1≤c.2.2.2.2.2.1)<;>simp only[he2,hg1,hp,hq,zae,xaj,xae,cond_true,cond_false,xba,xat,Bool.or_true,xau,xap,xar,Option.bind_some]
 all_goals
  cases hn1:decide ((c.2.1.length:Int)<1)
  case true=>simp only[hn1,zae,xaj,xae,cond_true,cond_false,xba,xat,Bool.or_true,xau,xap,xar,Option.bind_some]
  try simp only[hn1,xaj,xae,cond_true,cond_false,xba,xat,Bool.or_true,xau,xap,xar,Option.bind_some]
  cases hn2:decide (7<(c.2.1.length:Int))
  case true=>simp only[hn2,zae,xaj,xae,cond_true,cond_false,xba,xat,Bool.or_true,xau,xap,xar,Option.bind_some]
  try simp only[hn2,xaj,xae,cond_true,cond_false,xba,xat,Bool.or_true,xau,xap,xar,Option.bind_some]
  cases hs1:decide (c.2.2.2.1<1)
  case true=>simp only[hs1,zae,xaj,xae,cond_true,cond_false,xba,xat,Bool.or_true,xau,xap,xar,Option.bind_some]
  try simp only[hs1,xaj,xae,cond_true,cond_false,xba,xat,Bool.or_true,xau,xap,xar,Option.bind_some]
  cases hs2:decide (5<c.2.2.2.1)
  case true=>simp only[hs2,zae,xaj,xae,cond_true,cond_false,xba,xat,Bool.or_true,xau,xap,xar,Option.bind_some]
  try simp only[hs2,xaj,xae,cond_true,cond_false,xba,xat,Bool.or_true,xau,xap,xar,Option.bind_some]
  cases hm1:decide (m=1)<;>cases hso:decide (c.2.2.2.1=1)<;>simp only[hm1,hso,xaj,xae,cond_true,cond_false,xba,xat,Bool.or_true,xau,xap,xar,Option.bind_some]
  all_goals (try (cases hg2:decide (c.2.2.2.2.2.1≤6)<;>simp only[hg2,xaj,xae,cond_true,cond_false,xba,xat,Bool.or_true,xau,xap,xar,Option.bind_some]))
  all_goals (try (cases hg0:decide (c.2.2.2.2.2.1=0)<;>simp only[hg0,xaj,xae,cond_true,cond_false,xba,xat,Bool.or_true,xau,xap,xar,Option.bind_some]))
  all_goals (try (cases ht1:decide (c.2.2.2.2.2.2.1<1)<;>simp only[ht1,xaj,xae,cond_true,cond_false,xba,xat,Bool.or_true,xau,xap,xar,Option.bind_some]))
  all_goals (try (cases ht2:decide (3<c.2.2.2.2.2.2.1)<;>simp only[ht2,xaj,xae,cond_true,cond_false,xba,xat,Bool.or_true,xau,xap,xar,Option.bind_some]))
  all_goals (try (cases zii (c.2.1.length:Int) gs<;>simp only[xaj,xae,cond_true,cond_false,xba,xat,Bool.or_true,xau,xap,xar,Option.bind_some]))
  all_goals (try (cases zmq (c.2.1.length:Int) lots<;>simp only[xaj,xae,cond_true,cond_false,xba,xat,Bool.or_true,xau,xap,xar,Option.bind_some]))
theorem zmz{m:Int}{c:CT}{gs:List Grp}{lots:List Int}(h:fitE m c gs lots=0):1≤m∧m≤3∧c.2.2.1=m∧1≤c.2.1.length∧c.2.1.length≤7∧1≤c.2.2.2.1∧c.2.2.2.1≤5∧(m=1→c.2.2.2.1=1)∧(m=2→1≤c.2.2.2.2.2.1∧c.2.2.2.2.2.1≤6)∧(m≠2→c.2.2.2.2.2.1=0)∧1≤c.2.2.2.2.2.2.1∧c.2.2.2.2.2.2.1≤3∧PileOK (c.2.1.length:Int) gs (wsum (fun _=>1) gs)∧lots.length=c.2.1.length∧isB (c.2.1.length:Int) lots:=by
 unfold fitE at h
 by_cases h1:(decide (m<1)||(decide (3<m)|| !decide (c.2.2.1=m)))=true
 ·rw[h1]at h;exact absurd h (by show ¬(5:Int)=0;omega)
 have h1:(decide (m<1)||(decide (3<m)|| !decide (c.2.2.1=m)))=false:=by simpa using h1
 rw[h1,cond_false]at h
 cases h2:(decide ((c.2.1.length:Int)<1)||(decide (7<(c.2.1.length:Int))||(decide (c.2.2.2.1<1)||(decide (5<c.2.2.2.1)||((decide (m=1)&& !decide (c.2.2.2.1=1))||(!(bif decide (m=2)then decide (1≤c.2.2.2.2.2.1)&&decide (c.2.2.2.2.2.1≤6)else decide (c.2.2.2.2.2.1=0))||(decide (c.2.2.2.2.2.2.1<1)||decide (3<c.2.2.2.2.2.2.1))))))))
 case true=>rw[h2]at h;exact absurd h (by show ¬(4:Int)=0;omega)
 rw[h2,cond_false]at h
 cases h3:zii (c.2.1.length:Int) gs
 case false=>rw[h3]at h;exact absurd h (by show ¬(8:Int)=0;omega)
 rw[h3,xaj,cond_false]at h
 cases h4:zmq (c.2.1.length:Int) lots
 case false=>rw[h4]at h;exact absurd h (by show ¬(13:Int)=0;omega)
 simp only[xbw,xav,xeu,xaf]at h1 h2
 obtain⟨a1,a2,a3⟩:=h1
 obtain⟨b1,b2,b3,b4,b5,b6,b7,b8⟩:=h2
 unfold zmq at h4
 simp only[xag,xaf]at h4
 refine⟨by omega,by omega,a3,by omega,by omega,by omega,by omega,fun hm=>?_,fun hm=>?_,fun hm=>?_,by omega,by omega,(pileB_ok h3).2.2,by omega,h4.2⟩
 ·rw[decide_eq_true hm,xap,xeu,xaf]at b5
  exact b5
 ·rw[decide_eq_true hm,cond_true,xag,xaf,xaf]at b6
  exact b6
 ·rw[decide_eq_false hm,cond_false,xaf]at b6
  exact b6
theorem d30_eq{b s:Int}(h0:0≤b)(h1:b≤100000)(h2:1≤s)(h3:s≤5):d30 b s=some (b/(s+1)+1):=by
 have e:w (s+1)=s+1:=zbi (by omega) (by omega)
 have hd:Int.tdiv b (s+1)=b/(s+1):=xdp h0
 have hle:b/(s+1)≤b:=Int.ediv_le_self _ h0
 have hge:0≤b/(s+1):=Int.ediv_nonneg h0 (by omega)
 unfold d30
 rw[zae]
 simp only[decide_eq_false (show ¬b<0 by omega),decide_eq_false (show ¬100000<b by omega),decide_eq_false (show ¬s<1 by omega),decide_eq_false (show ¬5<s by omega),xae,cond_true,cond_false,e,decide_eq_false (show ¬s+1=0 by omega),hd]
 rw[zbi (n:=b/(s+1)) (by omega) (by omega),zbi (by omega) (by omega)]
theorem PileOK.d67{n:Int}{gs:List Grp}{N:Int}(h:PileOK n gs N)(hn:n≤7):d67 gs=some (wsum (fun _=>1) gs):=by
 obtain⟨hl,hg⟩:=h.sizes hn
 have hf:∀p:List Int,0≤(1:Int)∧(1:Int)≤1:=fun p=>by omega
 unfold Go.Proofs.YtmipjomnjkmdbaaGreat.d67
 rw[h.d100 hn]
 simp only[Option.bind_some,xaj,cond_false]
 have:d104 gs (fun a=>d126 a)=some (wsum (fun _=>1) gs):=by
  unfold d104
  refine zad (b:=wsum (fun _=>1) gs) (fun i=>((fun a=>d126 a),wsum (fun _=>1) (gs.take i),gs,(gs.length:Int),(i:Int))) gs.length rfl (fun i hi=>?_) ?_ rfl
  ·have h1:=h.part hf (i+1)
   rw[zdf _ gs hi]at h1
   simp only[dlt hi,d0le,xac,cond_true,tn,d126,Option.bind_some,zau (show i<9223372036854775807 by omega)]
   rw[zbi (by omega) (by omega),zdf _ gs hi,Int.mul_one]
  ·simp only[nlt (Nat.le_refl gs.length),cond_false,xbd]
 rw[this];rfl
def gpOf(c:CT)(gs:List Grp)(lots:List Int):GP:=
 {gs:=gs,n:=c.2.1.length,seats:=c.2.2.2.1.toNat,q:=(wsum zba gs/(c.2.2.2.1+1)+1).toNat,tot:=(wsum (fun _=>1) gs).toNat,ties:=c.2.2.2.2.2.2.1,lots:=lots}
theorem zls{n:Int}{gs:List Grp}{N:Int}(h:PileOK n gs N)(b:List Int→Bool)(c:CT)(lots:List Int):∀m,m≤gs.length→wsum (fun p=>if b p then 1 else 0) (gs.take m)=((sumN (fun g=>if b ((gpOf c gs lots).p g)then(gpOf c gs lots).k g else 0) m:Nat):Int)
 | 0,_=>rfl
 |m+1,hm=>by
  have hb:=(h.ballots _ (zbr (l:=gs) (d:=([],0)) (i:=m) (by omega))).2
  rw[zdf _ gs (by omega),zls h b c lots m (by omega),sumN,Int.natCast_add]
  congr 1
  show _*(if b (gs.getD m ([],0)).1 then 1 else 0)=((if b (gs.getD m ([],0)).1 then(gs.getD m ([],0)).2.toNat else 0:Nat):Int)
  split
  ·rw[Int.mul_one];omega
  ·rw[Int.mul_zero];rfl
theorem quo_lt{m s:Nat}(h1:1≤s)(h5:s≤5):m<(m/(s+1)+1)*(s+1):=by
 have:s=1∨s=2∨s=3∨s=4∨s=5:=by omega
 rcases this with rfl|rfl|rfl|rfl|rfl<;>omega
theorem gpOf_ok{c:CT}{gs:List Grp}{lots:List Int}(h:fitE 3 c gs lots=0):(gpOf c gs lots).OK∧(gpOf c gs lots).G≤1000000∧c.2.2.2.1=((gpOf c gs lots).seats:Int)∧d67 gs=some ((gpOf c gs lots).tot:Int)∧d52 gs=some (wsum zba gs)∧d30 (wsum zba gs) c.2.2.2.1=some ((gpOf c gs lots).q:Int):=by
 obtain⟨_,_,_,n1,n7,s1,s5,_,_,_,t1,t3,hp,ll,hB⟩:=zmz h
 obtain⟨hl,hg⟩:=hp.sizes (by omega)
 have hmk:=hp.part (f:=zba) (fun p=>by unfold zba;split<;>omega) gs.length
 have hto:=hp.part (f:=fun _=>1) (fun p=>by omega) gs.length
 rw[xbd]at hmk hto
 have hS:c.2.2.2.1=(c.2.2.2.1.toNat:Int):=by omega
 have e1:wsum (fun _=>1) gs=((sumN (gpOf c gs lots).k gs.length:Nat):Int):=by
  have:=zls hp (fun _=>true) c lots gs.length (Nat.le_refl _)
  rw[xbd]at this
  simpa using this
 have e2:wsum zba gs=(((gpOf c gs lots).mkd:Nat):Int):=by
  have:=zls hp (fun p=>decide (p≠ [])) c lots gs.length (Nat.le_refl _)
  rw[xbd]at this
  have hf:(fun p:List Int=>if decide (p≠ [])=true then(1:Int)else 0)=zba:=by
   funext p;unfold zba;by_cases hp:p=[]<;>simp[hp]
  rw[hf]at this
  rw[this]
  congr 1
  unfold GP.mkd
  refine zbp fun g hg=>?_
  by_cases hp:(gpOf c gs lots).p g=[]<;>simp[hp]
 obtain⟨S,hSS⟩:∃S,c.2.2.2.1.toNat=S:=⟨_,rfl⟩
 have hq:(gpOf c gs lots).q=(gpOf c gs lots).mkd/(S+1)+1:=by
  show(wsum zba gs/(c.2.2.2.1+1)+1).toNat=_
  rw[e2,hS,hSS]
  rfl
 have hm5:(gpOf c gs lots).mkd≤100000:=by omega
 have hdiv:=xcv (gpOf c gs lots).mkd (S+1)
 have hq1:1≤(gpOf c gs lots).q∧(gpOf c gs lots).q≤100001:=by
  rw[hq]
  generalize(gpOf c gs lots).mkd/(S+1)=Q at hdiv ⊢
  omega
 refine⟨⟨n1,n7,by show 1≤c.2.2.2.1.toNat;omega,by show c.2.2.2.1.toNat≤5;omega,fun g hgl x hx=>?_,fun g hgl=>?_,?_,by show(wsum (fun _=>1) gs).toNat≤_;omega,hq1.1,hq1.2,?_,t1,t3,ll,fun x hx=>?_,hB.1⟩,by show gs.length≤_;omega,?_,?_,hp.d52 (by omega),?_⟩
 ·have:=(hp.ballots _ (zbr (l:=gs) (d:=([],0)) (i:=g) hgl)).1.2 x hx
  exact⟨x.toNat,by omega,by show x.toNat<c.2.1.length;omega⟩
 ·exact(hg _ (zbr (l:=gs) (d:=([],0)) (i:=g) hgl)).1
 ·show sumN (gpOf c gs lots).k gs.length=(wsum (fun _=>1) gs).toNat
  omega
 ·rw[hq]
  show _<_*(c.2.2.2.1.toNat+1)
  rw[hSS]
  exact quo_lt (by omega) (by omega)
 ·have:=hB.2 x hx
  exact⟨x.toNat,by omega,by show x.toNat<c.2.1.length;omega⟩
 ·exact hS
 ·rw[hp.d67 (by omega)]
  congr 1
  show _=((wsum (fun _=>1) gs).toNat:Int)
  omega
 ·rw[d30_eq hmk.1 hmk.2 s1 s5]
  congr 1
  show _=((wsum zba gs/(c.2.2.2.1+1)+1).toNat:Int)
  have:0≤wsum zba gs/(c.2.2.2.1+1):=Int.ediv_nonneg hmk.1 (by omega)
  omega
variable {P:GP} {s:GS}
end Go.Proofs.YtmipjomnjkmdbaaGreat
namespace Go.Proofs.YtmipjomnjkmdbaaGreat
open Go Go.X
theorem d122_eq(a b:Nat)(ha:a≤4611686018427387904)(hb:b≤4611686018427387904):d122 (a:Int) (b:Int)=some ((Nat.gcd a b:Nat):Int):=by
 unfold d122
 refine zco (Q:=fun r=>r=some ((Nat.gcd a b:Nat):Int)) (fun(M:Nat) (st:Int×Int)=>∃x:Nat,st=((x:Int),(M:Int))∧x≤4611686018427387904∧M≤4611686018427387904∧Nat.gcd x M=Nat.gcd a b) b ⟨a,rfl,ha,hb,rfl⟩ ?_
 rintro M st ⟨x,rfl,h1,h2,h3⟩
 rcases xbk M with h0|h0
 ·subst h0
  rw[xik]at h3
  exact .inr ⟨(x:Int),rfl,by rw[h3]⟩
 ·have hm:=xdk x h0
  have e:w (Int.tmod (x:Int) (M:Int))=((x%M:Nat):Int):=by rw[tmodN,zbi (by omega) (by omega)]
  refine .inl ⟨((M:Int),((x%M:Nat):Int)),x%M,?_,hm,M,rfl,h2,by omega,?_⟩
  ·simp only[decide_eq_true (show(0:Int)<(M:Int) by omega),decide_eq_false (show ¬(M:Int)=0 by omega),xae,cond_true,e]
  ·rw[←h3,xgh x M,Nat.gcd_rec M x,xgh]
theorem d123_eq(n:Nat)(h:n≤4611686018427387904):d123 (n:Int)=some (zan n):=by
 unfold d123
 rw[zap (by omega)]
 refine zco (Q:=fun r=>r=some (zan n)) (fun(M:Nat) (st:(List Int)×Int)=>∃l:List Int,st=(l,(M:Int))∧M≤n∧l.length≤n-M∧l.length≤1000000∧l++zan M=zan n∧(l.length+(zan M).length=(zan n).length)) n ⟨[],rfl,Nat.le_refl _,by simp,by simp,rfl,by simp⟩ ?_
 rintro M st ⟨l,rfl,h1,h2,h3,h4,h5⟩
 have hln:(zan n).length≤2:=zij (by omega)
 rcases xbk M with h0|h0
 ·subst h0
  rw[zcf,xcf]at h4
  exact .inr ⟨l,rfl,by rw[h4]⟩
 ·have hp:=zev (n:=M) (by omega)
  have hl:=xbh List.length hp
  rw[xbo]at hl
  refine .inl ⟨(l++[((M%4294967296:Nat):Int)],((M/4294967296:Nat):Int)),M/4294967296,?_,by omega,_,rfl,by omega,by simp;omega,by simp;omega,?_,by simp;omega⟩
  ·simp only[decide_eq_true (show(0:Int)<(M:Int) by omega),cond_true,zcj,zcg (l:=l) (d:=((M%4294967296:Nat):Int)) (by omega),shr32,zap (show M/4294967296<18446744073709551616 by omega)]
  ·rw[xbz,List.singleton_append,←hp,h4]
theorem d65_eq{a b:Nat}(ha:a≤4611686018427387904)(hb:b≤4611686018427387904)(hb0:0<b):d65 (a:Int) (b:Int)=some (rr (frac a b)):=by
 have hg:0<Nat.gcd a b:=Nat.gcd_pos_of_pos_right a hb0
 unfold d65
 rw[d122_eq a b ha hb,Option.bind_some,decide_eq_false (show ¬((Nat.gcd a b:Nat):Int)=0 by omega)]
 have h1:a/Nat.gcd a b≤a:=xcv _ _
 have h2:b/Nat.gcd a b≤b:=xcv _ _
 have wN:∀A:Nat,A≤4611686018427387904→w (A:Int)=(A:Int):=fun A hA=>zbi (by omega) (by omega)
 have e1:w (Int.tdiv (a:Int) ((Nat.gcd a b:Nat):Int))=((a/Nat.gcd a b:Nat):Int):=by rw[tdivN,wN _ (Nat.le_trans h1 ha)]
 have e2:w (Int.tdiv (b:Int) ((Nat.gcd a b:Nat):Int))=((b/Nat.gcd a b:Nat):Int):=by rw[tdivN,wN _ (Nat.le_trans h2 hb)]
 simp only[xae,cond_true,e1,e2,d123_eq _ (Nat.le_trans h1 ha),d123_eq _ (Nat.le_trans h2 hb),Option.bind_some]
 congr 1
 rcases xbk a with h0|h0
 ·subst h0
  have:frac 0 b=0:=by unfold frac;rw[Rat.div_def];simp
  rw[this,zpm,Nat.gcd_zero_left,Nat.zero_div,Nat.div_self hb0,zcf,zev (n:=1) (by omega)]
  simp[zcf]
 ·have h:=zpn false (a:=a) (b:=b) (by omega) (by omega)
  have e:frac a b=mkRat (sgnN false a) b:=by
   unfold frac
   show _=mkRat (a:Int) b
   rw[Rat.mkRat_eq_div]
   rfl
  rw[e,h]
theorem d72_eq{n:Nat}(hn:n≤1000):∃l,d72 (n:Int)=some l∧l.length=n:=by
 unfold d72
 refine⟨lst (fun i=>[wu8 (w (97+(i:Int)))]) n,?_,zak _ _⟩
 refine zad (fun i=>((n:Int),lst (fun i=>[wu8 (w (97+(i:Int)))]) i,(i:Int))) n rfl (fun i hi=>?_) ?_ rfl
 ·simp only[dlt hi,cond_true,zcg (l:=lst (fun i=>[wu8 (w (97+(i:Int)))]) i) (d:=[wu8 (w (97+(i:Int)))]) (by rw[zak];omega),zau (show i<9223372036854775807 by omega),zlo]
 ·simp only[nlt (Nat.le_refl n),cond_false]
structure ConOK(c:CT)(n:Nat)(m:Int):Prop where
 names:c.2.1.length=n
 method:c.2.2.1=m
 seats1:1≤c.2.2.2.1
 seats5:c.2.2.2.1≤5
 seat:m=1→c.2.2.2.1=1
 digits:m=2→1≤c.2.2.2.2.2.1∧c.2.2.2.2.2.1≤6
 nodigits:m≠2→c.2.2.2.2.2.1=0
 ties1:1≤c.2.2.2.2.2.2.1
 ties3:c.2.2.2.2.2.2.1≤3
theorem d27_eq{n:Nat}(hn:n≤1000){code:Int}(hc:WT (.int .i64) code):∃l,d27 (n:Int) code=some l∧l.length=n∧isB (n:Int) l:=by
 have hwt:∀x:Int,WT (.int .i64) x→-9223372036854775808≤x∧x≤9223372036854775807:=fun x hx=>wt_int hx
 unfold d27
 refine zbj (Q:=fun r=>∃l,r=some l∧l.length=n∧isB (n:Int) l) (fun(i:Nat) (st:Int×Int×(List Int)×Int)=>∃(cd:Int) (out:List Int),st=((n:Int),cd,out,(i:Int))∧WT (.int .i64) cd∧out.length=i∧isB (i:Int) out) n ?_ ?_ ?_
 ·exact⟨code,[],rfl,hc,rfl,List.nodup_nil,fun x hx=>by simp at hx⟩
 ·rintro i st hi ⟨cd,out,rfl,hcd,hlen,hb⟩
  have hcb:=hwt cd hcd
  have b:=zke cd (n:=((i+1:Nat):Int)) (by omega)
  obtain⟨r,hr⟩:∃r:Nat,cd%((i+1:Nat):Int)=(r:Int):=⟨(cd%((i+1:Nat):Int)).toNat,by omega⟩
  have hri:r≤i:=by omega
  have c1:zck 0 (r:Int) out.length=true:=by
   unfold zck
   simp only[xag,xaf]
   omega
  have c2:zck (r:Int) (out.length:Int) out.length=true:=by
   unfold zck
   simp only[xag,xaf]
   omega
  have hq:-9223372036854775808≤Int.tdiv cd ((i+1:Nat):Int)∧Int.tdiv cd ((i+1:Nat):Int)≤9223372036854775807:=by
   have h1:=Int.natAbs_tdiv_le_natAbs cd ((i+1:Nat):Int)
   by_cases h0:cd=-9223372036854775808
   ·subst h0
    have h2:Int.tdiv (-9223372036854775808) ((i+1:Nat):Int)=-(Int.tdiv 9223372036854775808 ((i+1:Nat):Int)):=by rw[←Int.neg_tdiv]
    have h3:0≤Int.tdiv 9223372036854775808 ((i+1:Nat):Int):=Int.tdiv_nonneg (by omega) (by omega)
    omega
   ·omega
  have hne:decide (((i+1:Nat):Int)=0)=false:=decide_eq_false (by omega)
  have ht:(out.take r).length=r:=by rw[xaq];omega
  have l1:decide ((([]:List Int).length:Int)+((out.take r).length:Int)≤LIM)=true:=zpz (by rw[ht];simp;omega)
  have l2:=zcg (l:=out.take r) (d:=(i:Int)) (by omega)
  have l3:decide (((out.take r++[(i:Int)]).length:Int)+((out.drop r).length:Int)≤LIM)=true:=zpz (by simp;omega)
  simp only[dlt hi,cond_true,zau (show i<9223372036854775807 by omega),zng hcd (show(0:Int)<((i+1:Nat):Int) by omega) (by omega),hr,Option.bind_some,hne,xae,c1,c2,xhe,tn,xbd,l1,l2,l3]
  refine⟨_,rfl,_,_,rfl,?_,by simp;omega,?_,fun x hx=>?_⟩
  ·rw[zbi hq.1 hq.2]
   exact zbi hq.1 hq.2
  ·have hp:(out.take r++[(i:Int)]++out.drop r).Perm ((i:Int)::out):=by
    have h1:(out.take r++[(i:Int)]++out.drop r).Perm ([(i:Int)]++out.take r++out.drop r):=List.Perm.append_right _ xht
    have h2:[(i:Int)]++out.take r++out.drop r=(i:Int)::out:=by rw[xbz,xdc];rfl
    rwa[h2]at h1
   refine hp.nodup_iff.2 (xfv.2 ⟨fun hm=>?_,hb.1⟩)
   have:=hb.2 _ hm
   omega
  ·simp only[List.mem_append,xdn]at hx
   rcases hx with(hx|hx)|hx
   ·have:=hb.2 x (xbv hx);omega
   ·omega
   ·have:=hb.2 x (xia hx);omega
 ·rintro st ⟨cd,out,rfl,hcd,hlen,hb⟩
  exact⟨out,by simp only[nlt (Nat.le_refl n),cond_false],out,rfl,hlen,hb⟩
theorem zna{c:CT}{n:Nat}{m:Int}{gs:List Grp}{lots:List Int}{N:Int}(hc:ConOK c n m)(hm:1≤m)(hm3:m≤3)(h1:1≤n)(h7:n≤7)(hp:PileOK (n:Int) gs N)(hl:lots.length=n)(hb:isB (n:Int) lots):fitE m c gs lots=0:=by
 have hn:=hc.names
 have hpb:zii (n:Int) gs=true:=by
  unfold zii goodP
  rw[decide_eq_true hp.good,decide_eq_true (show 1≤(n:Int)∧(n:Int)≤7 by omega)];rfl
 have hqb:zmq (n:Int) lots=true:=by
  unfold zmq
  rw[decide_eq_true hb,decide_eq_true (by omega)];rfl
 have:=hc.seats1
 have:=hc.seats5
 have:=hc.ties1
 have:=hc.ties3
 unfold fitE
 rw[hn,hpb,hqb]
 simp only[decide_eq_false (show ¬m<1 by omega),decide_eq_false (show ¬3<m by omega),decide_eq_true hc.method,decide_eq_false (show ¬(n:Int)<1 by omega),decide_eq_false (show ¬7<(n:Int) by omega),decide_eq_false (show ¬c.2.2.2.1<1 by omega),decide_eq_false (show ¬5<c.2.2.2.1 by omega),decide_eq_false (show ¬c.2.2.2.2.2.2.1<1 by omega),decide_eq_false (show ¬3<c.2.2.2.2.2.2.1 by omega),xaj,xau,xat,cond_false]
 have h1:(decide (m=1)&& !decide (c.2.2.2.1=1))=false:=by
  by_cases h:m=1
  ·rw[decide_eq_true (hc.seat h)];simp
  ·rw[decide_eq_false h];rfl
 have h2:(bif decide (m=2)then decide (1≤c.2.2.2.2.2.1)&&decide (c.2.2.2.2.2.1≤6)else decide (c.2.2.2.2.2.1=0))=true:=by
  by_cases h:m=2
  ·rw[decide_eq_true h,cond_true,decide_eq_true (hc.digits h).1,decide_eq_true (hc.digits h).2];rfl
  ·rw[decide_eq_false h,cond_false,decide_eq_true (hc.nodigits h)]
 rw[h1,h2]
 rfl
end Go.Proofs.YtmipjomnjkmdbaaGreat
namespace Go.Proofs.YtmipjomnjkmdbaaGreat
open Go Go.X
variable {P:GP} {s:GS}
theorem zcm(p:Nat→Bool)(n:Nat):(selI p n).Nodup:=(zdp p n).imp fun h=>by omega
end Go.Proofs.YtmipjomnjkmdbaaGreat
namespace Go.Proofs.YtmipjomnjkmdbaaGreat
open Go Go.X
def mup(a b:Nat):Nat:=(a+b-1)/b
structure MP where
 P:GP
 one:Nat
 om:Nat
def mw(one:Nat)(kp:Nat→Nat)(p:List Int):Nat→Nat
 | 0=>one
 |j+1=>mw one kp p j-mup (mw one kp p j*kp (p.getD j 0).toNat) one
def zef(one:Nat)(kp:Nat→Nat)(p:List Int)(j:Nat):Nat:=mup (mw one kp p j*kp (p.getD j 0).toNat) one
def zpw(one:Nat)(kp:Nat→Nat)(p:List Int)(c:Nat):Nat:=sumN (fun j=>if p.getD j 0=(c:Int)then zef one kp p j else 0) p.length
def mvo(P:GP)(one:Nat)(kp:Nat→Nat)(c:Nat):Nat:=sumN (fun g=>P.k g*zpw one kp (P.p g) c) P.G
def mro(P:GP)(one:Nat)(kp:Nat→Nat):Nat:=sumN (fun g=>P.k g*mw one kp (P.p g) (P.p g).length) P.G
structure MS where
 st:Nat→Nat
 kp:Nat→Nat
 since:Nat
 bef:Option Nat
def MS.v(Q:MP)(s:MS)(c:Nat):Nat:=mvo Q.P Q.one s.kp c
def MS.rest(Q:MP)(s:MS):Nat:=mro Q.P Q.one s.kp
def MS.quo(Q:MP)(s:MS):Nat:=sumN (s.v Q) Q.P.n/(Q.P.seats+1)+1
def MS.reach(Q:MP)(s:MS)(i:Nat):Bool:=decide (s.st i=0)&&decide (s.quo Q≤s.v Q i)
def zdl(v:Nat→Nat)(lots:List Int)(d i:Nat):Bool:=decide (v i<v d)||(decide (v d=v i)&&decide (zbm lots (d:Int)<zbm lots (i:Int)))
def MS.fl(Q:MP)(s:MS):Nat:=cntN (fun i=>decide (s.st i=1)) Q.P.n
def MS.rank(Q:MP)(s:MS)(i:Nat):Nat:=cntN (fun d=>s.reach Q d&&zdl (s.v Q) Q.P.lots d i) Q.P.n
def MS.el(Q:MP)(s:MS)(i:Nat):Bool:=s.reach Q i&&decide (s.rank Q i<Q.P.seats-s.fl Q)
def MS.st1(Q:MP)(s:MS)(i:Nat):Nat:=if s.el Q i then 1 else s.st i
def MS.sur(Q:MP)(s:MS):Nat:=sumN (fun i=>if s.st1 Q i=1 then s.v Q i-s.quo Q else 0) Q.P.n
def MS.f1(Q:MP)(s:MS):Nat:=cntN (fun i=>decide (s.st1 Q i=1)) Q.P.n
def MS.h1(Q:MP)(s:MS):Nat:=cntN (fun i=>decide (s.st1 Q i=0)) Q.P.n
def MS.some1(Q:MP)(s:MS):Bool:=decide (0<cntN (s.el Q) Q.P.n)
def MS.stall(Q:MP)(s:MS):Bool:=decide (s.sur Q<Q.om)||decide (60≤s.since+1)||(match s.bef with | some b=>decide (b≤s.sur Q) | none=>false)
def MS.near(Q:MP)(s:MS)(i:Nat):Bool:=decide (s.st i=0)&&(List.range Q.P.n).all fun k=>!decide (s.st k=0)||decide (s.v Q i≤s.v Q k+s.sur Q)
def MS.tied(Q:MP)(s:MS):List Int:=selI (s.near Q) Q.P.n
def MS.pick(Q:MP)(E:List (List Rat))(s:MS):Int:=if(s.tied Q).length=1 then(s.tied Q).headD 0 else tieB Q.P.ties E (s.tied Q) Q.P.lots true
def MS.rd0(Q:MP)(s:MS):Rd:=
 {votes:=lst (fun i=>frac (s.v Q i) Q.one) Q.P.n
  keep:=lst (fun i=>frac (s.kp i) Q.one) Q.P.n
  quota:=frac (s.quo Q) Q.one
  exh:=frac (s.rest Q) Q.one
  sur:=frac (s.sur Q) Q.one
  el:=selI (s.el Q) Q.P.n
  ex:=[]
  ti:=[]}
def MS.fin(Q:MP)(s:MS):Bool:=decide (s.f1 Q=Q.P.seats)||decide (s.f1 Q+s.h1 Q≤Q.P.seats)
def MS.done(Q:MP)(s:MS):Rd:={s.rd0 Q with el:=if s.f1 Q=Q.P.seats then selI (s.el Q) Q.P.n else selI (fun i=>s.el Q i||decide (s.st1 Q i=0)) Q.P.n}
def MS.excl(Q:MP)(E:List (List Rat))(s:MS):MS:={st:=upd s.st (s.pick Q E).toNat 2,kp:=upd s.kp (s.pick Q E).toNat 0,since:=0,bef:=none}
def MS.kp1(Q:MP)(s:MS)(i:Nat):Nat:=if s.st1 Q i=1∧0<s.v Q i then min Q.one (mup (mup (s.kp i*s.quo Q) Q.one*Q.one) (s.v Q i))else s.kp i
def MS.redu(Q:MP)(s:MS):MS:={st:=s.st1 Q,kp:=s.kp1 Q,since:=if s.some1 Q then 0 else s.since+1,bef:=some (s.sur Q)}
def MS.exR(Q:MP)(E:List (List Rat))(s:MS):Rd:={s.rd0 Q with ex:=[s.pick Q E],ti:=if(s.tied Q).length=1 then []else s.tied Q}
def MS.cut(Q:MP)(s:MS):Bool:=!s.some1 Q&&s.stall Q
def mstep(Q:MP)(E:List (List Rat))(s:MS):Rd×Option MS:=
 if s.fin Q then(s.done Q,none)
 else if s.cut Q then(s.exR Q E,some (s.excl Q E))
 else(s.rd0 Q,some (s.redu Q))
def mrun(Q:MP):Nat→List Rd→MS→List Rd
 | 0,rs,_=>rs
 |k+1,rs,s=>match mstep Q (rs.map Rd.votes) s with
  |(r,none)=>rs++[r]
  |(r,some s')=>mrun Q k (rs++[r]) s'
def MP.s0(Q:MP):MS:={st:=fun _=>0,kp:=fun _=>Q.one,since:=0,bef:=none}
def zhe(Q:MP):List Rd:=mrun Q 500 [] Q.s0
theorem mup_le{a b c:Nat}(hb:0<b)(h:a≤c*b):mup a b≤c:=by
 unfold mup
 have:(a+b-1)/b<c+1:=by
  rw[xdl hb,xbl]
  omega
 omega
theorem mup_pos{a b:Nat}(hb:0<b)(ha:0<a):0<mup a b:=by
 unfold mup
 exact Nat.div_pos (by omega) hb
section
variable {one:Nat} {kp:Nat→Nat} (h1:0<one) (hk:∀c,kp c≤one)
include h1 hk
theorem zhr(p:List Int)(j:Nat):zef one kp p j≤mw one kp p j:=mup_le h1 (xby _ (hk _))
theorem mw_step(p:List Int)(j:Nat):mw one kp p (j+1)+zef one kp p j=mw one kp p j:=by
 have:=zhr h1 hk p j
 show mw one kp p j-zef one kp p j+_=_
 omega
theorem mw_sum(p:List Int):∀j,sumN (zef one kp p) j+mw one kp p j=one
 | 0=>by show 0+one=one;omega
 |j+1=>by
  have h2:=mw_sum p j
  have h3:=mw_step h1 hk p j
  rw[sumN]
  omega
theorem mw_le(p:List Int)(j:Nat):mw one kp p j≤one:=by have:=mw_sum h1 hk p j;omega
theorem mgive_sum{n:Nat}{p:List Int}(hp:∀c∈p,∃i:Nat,c=(i:Int)∧i<n):sumN (zpw one kp p) n+mw one kp p p.length=one:=by
 have hm:=mw_sum h1 hk p p.length
 refine Eq.trans ?_ hm
 congr 1
 unfold zpw
 rw[zma (fun c j=>if p.getD j 0=(c:Int)then zef one kp p j else 0)]
 refine zbp fun j hj=>?_
 obtain⟨i,e,hi⟩:=hp _ (zbg hj)
 rw[e]
 have:sumN (fun c:Nat=>if(i:Int)=(c:Int)then zef one kp p j else 0) n=sumN (fun c=>if c=i then zef one kp p j else 0) n:=zbp fun c _=>by
  by_cases h:c=i
  ·subst h;rw[if_pos rfl,if_pos rfl]
  ·rw[if_neg h,if_neg (by omega)]
 rw[this,sumN_one,if_pos hi]
theorem mv_sum{P:GP}(hP:P.OK):sumN (mvo P one kp) P.n+mro P one kp=P.tot*one:=by
 unfold mvo mro
 rw[zma (fun c g=>P.k g*zpw one kp (P.p g) c),←zfz,←hP.total,←zit]
 refine zbp fun g hg=>?_
 have h2:=mgive_sum h1 hk (n:=P.n) (hP.prefs g hg)
 have h3:sumN (fun c=>P.k g*zpw one kp (P.p g) c) P.n=P.k g*sumN (zpw one kp (P.p g)) P.n:=by
  rw[xbb,←zit]
  exact zbp fun c _=>xbb _ _
 rw[h3,←xbq,h2]
theorem mv_le{P:GP}(hP:P.OK){c:Nat}(hc:c<P.n):mvo P one kp c≤P.tot*one:=by
 have h2:=mv_sum h1 hk hP
 have h3:=zpg (f:=mvo P one kp) hc
 omega
end
structure MP.OK(Q:MP):Prop where
 P:Q.P.OK
 one1:0<Q.one
 one6:Q.one≤1000000
 om:0<Q.om
structure MI(Q:MP)(s:MS):Prop where
 st2:∀c,s.st c≤2
 kp1:∀c,s.kp c≤Q.one
 hop:∀c,s.st c=0→s.kp c=Q.one
 elc:∀c,s.st c=1→0<s.kp c
 exc:∀c,s.st c=2→s.kp c=0
 since:s.since≤59
 fill:s.fl Q<Q.P.seats
 left:0<cntN (fun i=>decide (s.st i=0)) Q.P.n
variable {Q:MP} {s:MS}
theorem MS.v_le(hQ:Q.OK)(hI:MI Q s){c:Nat}(hc:c<Q.P.n):s.v Q c≤Q.P.tot*Q.one:=mv_le hQ.one1 hI.kp1 hQ.P hc
theorem MS.sum_le(hQ:Q.OK)(hI:MI Q s):sumN (s.v Q) Q.P.n+s.rest Q=Q.P.tot*Q.one:=mv_sum hQ.one1 hI.kp1 hQ.P
theorem MS.tot_le(hQ:Q.OK):Q.P.tot*Q.one≤100000000000:=Nat.le_trans (Nat.mul_le_mul hQ.P.tot5 hQ.one6) (by decide)
theorem MS.quo_le(hQ:Q.OK)(hI:MI Q s):s.quo Q≤Q.P.tot*Q.one+1:=by
 have h1:=MS.sum_le hQ hI
 have h2:=xcv (sumN (s.v Q) Q.P.n) (Q.P.seats+1)
 unfold MS.quo
 omega
theorem zbx(c:Nat):(s.el Q c=true∧s.st c=0∧s.st1 Q c=1∧s.quo Q≤s.v Q c)∨(s.el Q c=false∧s.st1 Q c=s.st c):=by
 unfold MS.st1
 cases h:s.el Q c
 ·exact .inr ⟨rfl,rfl⟩
 ·unfold MS.el MS.reach at h
  rw[xag,xag,xaf,xaf]at h
  exact .inl ⟨rfl,h.1.1,rfl,h.1.2⟩
theorem f1_eq:s.f1 Q=s.fl Q+cntN (s.el Q) Q.P.n:=by
 unfold MS.f1 MS.fl cntN
 rw[←zfz]
 refine zbp fun i hi=>?_
 rcases zbx (Q:=Q) (s:=s) i with⟨h0,h1,h2,_⟩|⟨h0,h2⟩
 ·simp[h0,h1,h2]
 ·simp[h0,h2]
theorem h1_eq:s.h1 Q+cntN (s.el Q) Q.P.n=cntN (fun i=>decide (s.st i=0)) Q.P.n:=by
 unfold MS.h1 cntN
 rw[←zfz]
 refine zbp fun i hi=>?_
 rcases zbx (Q:=Q) (s:=s) i with⟨h0,h1,h2,_⟩|⟨h0,h2⟩
 ·simp[h0,h1,h2]
 ·simp[h0,h2]
def MS.meas(Q:MP)(s:MS):Nat:=cntN (fun i=>decide (s.st i=0)) Q.P.n*61+(60-s.since)
end Go.Proofs.YtmipjomnjkmdbaaGreat
namespace Go.Proofs.YtmipjomnjkmdbaaGreat
open Go Go.X
theorem countP_at{α:Type}{R:α→α→Bool}:∀{L:List α},L.Pairwise (fun a b=>R a b=true)→(∀a∈L,R a a=false)→(∀a∈L,∀b∈L,R a b=true→R b a=false)→∀{j:Nat} (hj:j<L.length),L.countP (fun d=>R d L[j])=j
 | [],_,_,_,j,hj=>by simp at hj
 |x::L,hp,hi,ha,0,_=>by
  rw[List.countP_eq_zero]
  intro d hd
  rw[List.getElem_cons_zero]
  rcases xaw.1 hd with rfl|hd
  ·rw[hi d (by simp)];simp
  ·rw[ha x (by simp) d (xai _ hd) ((xdb.1 hp).1 d hd)];simp
 |x::L,hp,hi,ha,j+1,hj=>by
  obtain⟨h1,h2⟩:=xdb.1 hp
  have hj':j<L.length:=by simpa using hj
  have ih:=countP_at h2 (fun a h=>hi a (xai _ h)) (fun a h b h'=>ha a (xai _ h) b (xai _ h')) hj'
  rw[List.getElem_cons_succ,List.countP_cons,ih,if_pos (h1 _ (xbr hj'))]
theorem ins_ex{α:Type}{R:α→α→Bool}(x:α):∀{L:List α},L.Pairwise (fun a b=>R a b=true)→(∀a∈L,R x a=true∨R a x=true)→(∀a∈L,∀b∈L,R x a=true→R a b=true→R x b=true)→∃A B,L=A++B∧(A++x::B).Pairwise fun a b=>R a b=true
 | [],_,_,_=>⟨[],[],rfl,by simp⟩
 |y::L,hp,ht,hr=>by
  obtain⟨h1,h2⟩:=xdb.1 hp
  cases hxy:R x y with
  |true=>
   refine⟨[],y::L,rfl,?_⟩
   rw[xcz]
   refine xdb.2 ⟨fun b hb=>?_,hp⟩
   rcases xaw.1 hb with rfl|hb
   ·exact hxy
   ·exact hr y (by simp) b (xai _ hb) hxy (h1 b hb)
  |false=>
   have hyx:R y x=true:=(ht y (by simp)).resolve_left (by rw[hxy];simp)
   obtain⟨A,B,e,hs⟩:=ins_ex x h2 (fun a ha=>ht a (xai _ ha)) (fun a ha b hb=>hr a (xai _ ha) b (xai _ hb))
   refine⟨y::A,B,by rw[e];rfl,?_⟩
   rw[xbx]
   refine xdb.2 ⟨fun b hb=>?_,hs⟩
   rcases List.mem_append.1 hb with hb|hb
   ·exact h1 b (by rw[e];exact xde _ hb)
   ·rcases xaw.1 hb with rfl|hb
    ·exact hyx
    ·exact h1 b (by rw[e];exact xgj _ hb)
theorem zjl{α:Type}{R:α→α→Bool}:∀{l:List α},l.Nodup→(∀a∈l,∀b∈l,a≠b→R a b=true∨R b a=true)→(∀a∈l,∀b∈l,∀c∈l,R a b=true→R b c=true→R a c=true)→∃L:List α,L.Perm l∧L.Pairwise fun a b=>R a b=true
 | [],_,_,_=>⟨[],xie _,by simp⟩
 |x::l,hn,ht,hr=>by
  obtain⟨h1,h2⟩:=xfv.1 hn
  obtain⟨L,hL,hs⟩:=zjl h2 (fun a ha b hb=>ht a (xai _ ha) b (xai _ hb)) (fun a ha b hb c hc=>hr a (xai _ ha) b (xai _ hb) c (xai _ hc))
  have hm:∀a∈L,a∈l:=fun a ha=>hL.mem_iff.1 ha
  obtain⟨A,B,e,hs'⟩:=ins_ex x hs (fun a ha=>ht x (by simp) a (xai _ (hm a ha)) fun e=>h1 (by rw[e];exact hm a ha)) (fun a ha b hb=>hr x (by simp) a (xai _ (hm a ha)) b (xai _ (hm b hb)))
  refine⟨A++x::B,?_,hs'⟩
  refine List.perm_middle.trans (List.Perm.cons x ?_)
  rw[←e]
  exact hL
section
variable {v:Nat→Nat} {lots:List Int}
theorem better_irr(a:Nat):zdl v lots a a=false:=by
 unfold zdl
 simp
theorem znl{a b:Nat}(h:zdl v lots a b=true):zdl v lots b a=false:=by
 unfold zdl at h ⊢
 simp only[xcw,xag,xaf,xbw,Bool.and_eq_false_iff,xav]at h ⊢
 omega
theorem zle{a b c:Nat}(h:zdl v lots a b=true)(h':zdl v lots b c=true):zdl v lots a c=true:=by
 unfold zdl at h h' ⊢
 simp only[xcw,xag,xaf]at h h' ⊢
 omega
theorem zlf{a b:Nat}(ha:(a:Int)∈lots)(hne:a≠b):zdl v lots a b=true∨zdl v lots b a=true:=by
 have hp:zbm lots (a:Int)≠zbm lots (b:Int):=fun e=>by
  unfold zbm at e
  have h1:lots.idxOf (a:Int)<lots.length:=xfa ha
  have e1:=xfx h1
  have h2:lots.idxOf (b:Int)<lots.length:=by rw[←e];exact h1
  have e2:=xfx h2
  have:(a:Int)=(b:Int):=by
   rw[←e1,←e2]
   congr 1
  omega
 unfold zdl
 simp only[xcw,xag,xaf]
 omega
end
def zkr(v:Nat→Nat)(lots:List Int)(a b:Int):Bool:=zdl v lots a.toNat b.toNat
variable {Q:MP} {s:MS}
theorem zkx(hQ:Q.OK):∃L:List Int,L.Perm (selI (s.reach Q) Q.P.n)∧L.Pairwise fun a b=>zkr (s.v Q) Q.P.lots a b=true:=by
 refine zjl (zcm _ _) (fun a ha b hb hne=>?_) (fun a _ b _ c _=>zle)
 obtain⟨i,rfl,hi,_⟩:=zaz.1 ha
 obtain⟨k,rfl,hk,_⟩:=zaz.1 hb
 exact zlf ((zog hQ.P).mem hi) fun e=>hne (by rw[xak,xak]at e;rw[e])
theorem znh(p q:Nat→Bool):∀n:Nat,(selI p n).countP (fun d=>q d.toNat)=cntN (fun d=>p d&&q d) n
 | 0=>rfl
 |n+1=>by
  rw[zct,List.countP_append,znh p q n]
  show _=cntN (fun d=>p d&&q d) n+(if(p n&&q n)=true then 1 else 0)
  congr 1
  cases hp:p n
  ·simp
  ·rw[if_pos rfl,List.countP_singleton,xak]
   simp
theorem zql(hQ:Q.OK){L:List Int}(hL:L.Perm (selI (s.reach Q) Q.P.n))(hs:L.Pairwise fun a b=>zkr (s.v Q) Q.P.lots a b=true){i:Nat}(hi:i<Q.P.n):(i:Int)∈L.take (Q.P.seats-s.fl Q)↔s.el Q i=true:=by
 have hrank:∀{j:Nat} (hj:j<L.length),s.rank Q (L[j]).toNat=j:=fun{j} hj=>by
  have h1:=countP_at (R:=zkr (s.v Q) Q.P.lots) hs (fun a _=>better_irr _) (fun a _ b _ h=>znl h) hj
  rw[hL.countP_eq]at h1
  have h2:=znh (s.reach Q) (fun d=>zdl (s.v Q) Q.P.lots d (L[j]).toNat) Q.P.n
  exact h2.symm.trans h1
 unfold MS.el
 rw[xag,xaf]
 constructor
 ·intro h
  have hm:=xbv h
  obtain⟨j,hj,e⟩:=xbu h
  rw[xei]at e
  rw[xaq]at hj
  have hr:=hrank (j:=j) (by omega)
  rw[e,xak]at hr
  obtain⟨k,e2,_,h2⟩:=zaz.1 (hL.mem_iff.1 hm)
  have:=xdi.1 e2
  subst this
  exact⟨h2,by omega⟩
 ·rintro⟨h1,h2⟩
  have hm:(i:Int)∈L:=hL.mem_iff.2 (zaz.2 ⟨i,rfl,hi,h1⟩)
  obtain⟨j,hj,e⟩:=xbu hm
  have hr:=hrank hj
  rw[e,xak]at hr
  rw[xfk]
  exact⟨j,by omega,e⟩
theorem el_perm(hQ:Q.OK){L:List Int}(hL:L.Perm (selI (s.reach Q) Q.P.n))(hs:L.Pairwise fun a b=>zkr (s.v Q) Q.P.lots a b=true):(L.take (Q.P.seats-s.fl Q)).Perm (selI (s.el Q) Q.P.n):=by
 have hnd:L.Nodup:=hL.nodup_iff.2 (zcm _ _)
 refine(List.perm_ext_iff_of_nodup (hnd.sublist (xge _ _)) (zcm _ _)).2 fun c=>?_
 constructor
 ·intro h
  obtain⟨i,rfl,hi,_⟩:=zaz.1 (hL.mem_iff.1 (xbv h))
  exact zaz.2 ⟨i,rfl,hi,(zql hQ hL hs hi).1 h⟩
 ·intro h
  obtain⟨i,rfl,hi,h2⟩:=zaz.1 h
  exact(zql hQ hL hs hi).2 h2
theorem el_cnt(hQ:Q.OK):cntN (s.el Q) Q.P.n≤Q.P.seats-s.fl Q:=by
 obtain⟨L,hL,hs⟩:=zkx (s:=s) hQ
 rw[←zay,←(el_perm hQ hL hs).length_eq,xaq]
 exact xhq _ _
theorem f1_le(hQ:Q.OK)(hI:MI Q s):s.f1 Q≤Q.P.seats:=by
 have h1:=f1_eq (Q:=Q) (s:=s)
 have h2:=el_cnt (s:=s) hQ
 have h3:=hI.fill
 omega
theorem zhx(hQ:Q.OK)(hI:MI Q s)(h:s.fin Q=false):s.f1 Q<Q.P.seats∧Q.P.seats<s.f1 Q+s.h1 Q:=by
 unfold MS.fin at h
 rw[xbw,xav,xav]at h
 have:=f1_le hQ hI
 omega
theorem some1_iff:s.some1 Q=false↔∀i,i<Q.P.n→s.el Q i=false:=by
 unfold MS.some1
 rw[xav]
 constructor
 ·intro h i hi
  cases he:s.el Q i
  ·rfl
  ·exact absurd (zqs.2 ⟨i,hi,he⟩) h
 ·intro h hc
  obtain⟨i,hi,he⟩:=zqs.1 hc
  rw[h i hi]at he
  cases he
theorem el_out{i:Nat}(h:s.some1 Q=false)(hi:i<Q.P.n):s.el Q i=false∧s.st1 Q i=s.st i:=by
 have:=some1_iff.1 h i hi
 refine⟨this,?_⟩
 unfold MS.st1
 rw[this];rfl
theorem near_ne(hI:MI Q s):s.tied Q≠ []:=by
 have hne:selN (fun i=>decide (s.st i=0)) Q.P.n≠ []:=by
  have:=hI.left
  rw[←zgd]at this
  exact xcg.1 this
 obtain⟨i,k1,k2⟩:=zqh (s.v Q) hne
 obtain⟨k3,k4⟩:=zfd.1 k1
 refine xfw (a:=(i:Int)) (zaz.2 ⟨i,rfl,k3,?_⟩)
 unfold MS.near
 rw[k4,xap,xcd]
 intro k hk
 by_cases h5:s.st k=0
 ·have:=k2 k (zfd.2 ⟨List.mem_range.1 hk,decide_eq_true h5⟩)
  rw[xcw,xaf]
  exact .inr (by omega)
 ·simp[h5]
theorem pickM_mem(E:List (List Rat))(h:s.tied Q≠ []):s.pick Q E∈s.tied Q:=by
 unfold MS.pick
 split
 ·exact zji h
 ·exact tieB_mem h
theorem zix(hI:MI Q s)(E:List (List Rat)):∃x:Nat,s.pick Q E=(x:Int)∧x<Q.P.n∧s.st x=0:=by
 obtain⟨i,h2,h3,h4⟩:=zaz.1 (pickM_mem E (near_ne hI))
 refine⟨i,h2,h3,?_⟩
 unfold MS.near at h4
 rw[xag,xaf]at h4
 exact h4.1
theorem hop_excl{x:Nat}(hx:x<Q.P.n)(h0:s.st x=0):cntN (fun i=>decide (s.st i=0)) Q.P.n=cntN (fun i=>decide (upd s.st x 2 i=0)) Q.P.n+1:=
 cnt_upd hx (fun i hi hne=>by rw[zlv _ _ hne]) (by rw[zpa];rfl) (decide_eq_true h0)
theorem fl_excl{x:Nat}(hx:x<Q.P.n)(h0:s.st x=0):cntN (fun i=>decide (upd s.st x 2 i=1)) Q.P.n=s.fl Q:=by
 refine zhz fun i hi=>?_
 unfold upd
 split
 ·rename_i e;subst e;rw[h0];rfl
 ·rfl
theorem zjm(hQ:Q.OK)(hI:MI Q s)(hf:s.fin Q=false)(hc:s.cut Q=true)(E:List (List Rat)):MI Q (s.excl Q E)∧(s.excl Q E).meas Q<s.meas Q:=by
 obtain⟨x,h1,h2,h3⟩:=zix hI E
 have hff:=zhx hQ hI hf
 have hs1:s.some1 Q=false:=by
  unfold MS.cut at hc
  rw[xag,xgf]at hc
  exact hc.1
 have hcnt:cntN (s.el Q) Q.P.n=0:=by
  refine xgb fun h=>?_
  unfold MS.some1 at hs1
  rw[xav]at hs1
  exact hs1 h
 have hf1:=f1_eq (Q:=Q) (s:=s)
 have hh1:=h1_eq (Q:=Q) (s:=s)
 have hh:=hop_excl (Q:=Q) h2 h3
 have hfl:=fl_excl (Q:=Q) h2 h3
 have hsi:=hI.since
 unfold MS.excl
 rw[h1,xak]
 refine⟨⟨fun c=>?_,fun c=>?_,fun c hc=>?_,fun c hc=>?_,fun c hc=>?_,xbt _,?_,?_⟩,?_⟩
 ·show upd s.st x 2 c≤2
  unfold upd;split
  ·exact Nat.le_refl _
  ·exact hI.st2 c
 ·show upd s.kp x 0 c≤_
  unfold upd;split
  ·exact xbt _
  ·exact hI.kp1 c
 ·have hc':upd s.st x 2 c=0:=hc
  show upd s.kp x 0 c=_
  unfold upd at hc' ⊢
  split at hc'
  ·omega
  ·rename_i e;rw[if_neg e];exact hI.hop c hc'
 ·have hc':upd s.st x 2 c=1:=hc
  show 0<upd s.kp x 0 c
  unfold upd at hc' ⊢
  split at hc'
  ·omega
  ·rename_i e;rw[if_neg e];exact hI.elc c hc'
 ·have hc':upd s.st x 2 c=2:=hc
  show upd s.kp x 0 c=0
  unfold upd at hc' ⊢
  split at hc'
  ·rename_i e;rw[if_pos e]
  ·rename_i e;rw[if_neg e];exact hI.exc c hc'
 ·show cntN (fun i=>decide (upd s.st x 2 i=1)) Q.P.n<_
  rw[hfl];exact hI.fill
 ·show 0<cntN (fun i=>decide (upd s.st x 2 i=0)) Q.P.n
  omega
 ·show cntN (fun i=>decide (upd s.st x 2 i=0)) Q.P.n*61+(60-0)<cntN (fun i=>decide (s.st i=0)) Q.P.n*61+(60-s.since)
  omega
theorem quo_pos:0<s.quo Q:=Nat.succ_pos _
theorem ziw(hQ:Q.OK)(hI:MI Q s)(hf:s.fin Q=false)(hc:s.cut Q=false):MI Q (s.redu Q)∧(s.redu Q).meas Q<s.meas Q:=by
 have hff:=zhx hQ hI hf
 have hf1:=f1_eq (Q:=Q) (s:=s)
 have hh1:=h1_eq (Q:=Q) (s:=s)
 have hsi:=hI.since
 have hst:∀c,s.st1 Q c=2→s.st c=2:=fun c hc=>by
  rcases zbx (Q:=Q) (s:=s) c with⟨_,_,h2,_⟩|⟨_,h2⟩<;>omega
 have hst0:∀c,s.st1 Q c=0→s.st c=0:=fun c hc=>by
  rcases zbx (Q:=Q) (s:=s) c with⟨_,_,h2,_⟩|⟨_,h2⟩<;>omega
 have hsome:s.some1 Q=false→s.since+1<60:=fun h=>by
  unfold MS.cut at hc
  rw[h,xae,xap]at hc
  unfold MS.stall at hc
  rw[xbw,xbw,xav,xav]at hc
  omega
 refine⟨⟨fun c=>?_,fun c=>?_,fun c hc=>?_,fun c hc=>?_,fun c hc=>?_,?_,?_,?_⟩,?_⟩
 ·show s.st1 Q c≤2
  have:=hI.st2 c
  rcases zbx (Q:=Q) (s:=s) c with⟨_,_,h2,_⟩|⟨_,h2⟩<;>omega
 ·show s.kp1 Q c≤_
  unfold MS.kp1;split
  ·exact xhq _ _
  ·exact hI.kp1 c
 ·have hc':s.st1 Q c=0:=hc
  show s.kp1 Q c=_
  unfold MS.kp1
  rw[if_neg (by omega)]
  exact hI.hop c (hst0 c hc')
 ·have hc':s.st1 Q c=1:=hc
  have hkp:0<s.kp c:=by
   rcases zbx (Q:=Q) (s:=s) c with⟨_,h1,h2,_⟩|⟨_,h2⟩
   ·rw[hI.hop c h1];exact hQ.one1
   ·exact hI.elc c (by omega)
  show 0<s.kp1 Q c
  unfold MS.kp1;split
  ·rename_i h
   refine Nat.lt_min.2 ⟨hQ.one1,mup_pos h.2 (Nat.mul_pos (mup_pos hQ.one1 (Nat.mul_pos hkp quo_pos)) hQ.one1)⟩
  ·exact hkp
 ·have hc':s.st1 Q c=2:=hc
  show s.kp1 Q c=0
  unfold MS.kp1
  rw[if_neg (by omega)]
  exact hI.exc c (hst c hc')
 ·show(if s.some1 Q then 0 else s.since+1)≤59
  cases h:s.some1 Q
  ·have:=hsome h
   simp only[xbg,xcm];omega
  ·simp
 ·show s.f1 Q<_
  omega
 ·show 0<s.h1 Q
  omega
 ·show s.h1 Q*61+(60-(if s.some1 Q then 0 else s.since+1))<cntN (fun i=>decide (s.st i=0)) Q.P.n*61+(60-s.since)
  cases h:s.some1 Q
  ·simp only[xbg,xcm];omega
  ·have:0<cntN (s.el Q) Q.P.n:=by
    unfold MS.some1 at h
    exact of_decide_eq_true h
   simp only[if_true];omega
theorem s0_inv(hQ:Q.OK):MI Q Q.s0:=by
 have h1:=hQ.P.seats1
 have h2:=hQ.P.n1
 refine⟨fun _=>xbt _,fun _=>Nat.le_refl _,fun _ _=>rfl,fun _ h=>(by cases h),fun _ h=>(by cases h),xbt _,?_,zqs.2 ⟨0,by omega,rfl⟩⟩
 have:Q.s0.fl Q=0:=by unfold MS.fl cntN;exact zfm _
 omega
theorem s0_meas(hQ:Q.OK):Q.s0.meas Q≤487:=by
 have h:=zbu (fun i=>decide (Q.s0.st i=0)) Q.P.n
 have:=hQ.P.n7
 unfold MS.meas
 show _*61+(60-0)≤_
 omega
theorem bzM(hQ:Q.OK){a:Nat}(h:a≤1000000000000000000):Bz eB (frac a Q.one):=by
 have:=hQ.one6
 refine frac_bz (xeq h (Nat.lt_trans (show(1000000000000000000:Nat)<2^64 by decide) (xhx (by decide) (by decide)))) (xeq this (Nat.lt_trans (show(1000000:Nat)<2^64 by decide) (xhx (by decide) (by decide)))) (by decide)
theorem votes_rndM(hQ:Q.OK)(hI:MI Q s):RndOK Q.P.n (s.rd0 Q).votes:=⟨zak _ _,fun q hq=>by
 obtain⟨i,hi,rfl⟩:=mem_lst.1 hq
 have h1:=MS.v_le hQ hI hi
 have h2:=MS.tot_le hQ
 exact bzM hQ (by omega)⟩
structure MRun(Q:MP)(s:MS)(rs:List Rd):Prop where
 inv:MI Q s
 rnd:∀r∈rs,RndOK Q.P.n r.votes∧r.el.length≤7
 len:rs.length+s.meas Q≤487
 run:mrun Q (500-rs.length) rs s=zhe Q
theorem MRun.start(hQ:Q.OK):MRun Q Q.s0 []:=⟨s0_inv hQ,fun r hr=>by simp at hr,by have:=s0_meas hQ;simp;omega,rfl⟩
theorem zkl(hQ:Q.OK):(selI (s.el Q) Q.P.n).length≤7:=by rw[zay];have:=zbu (s.el Q) Q.P.n;have:=hQ.P.n7;omega
theorem MRun.next(hQ:Q.OK){rs:List Rd}(h:MRun Q s rs){r:Rd}{s':MS}(hs:mstep Q (rs.map Rd.votes) s=(r,some s'))(hi:MI Q s')(hm:s'.meas Q<s.meas Q)(hv:r.votes=(s.rd0 Q).votes)(he:r.el=(s.rd0 Q).el):MRun Q s' (rs++[r]):=by
 have hl:=h.len
 refine⟨hi,fun x hx=>?_,by simp;omega,?_⟩
 ·rcases List.mem_append.1 hx with hx|hx
  ·exact h.rnd x hx
  ·rw[xdn]at hx
   subst hx
   rw[hv,he]
   exact⟨votes_rndM hQ h.inv,zkl hQ⟩
 ·have hr:=h.run
  rw[show 500-rs.length=(499-rs.length)+1 by omega,mrun,hs]at hr
  rw[←hr]
  simp only[List.length_append,xbo,xea]
  rw[show 500-(rs.length+(0+1))=499-rs.length by omega]
theorem mstep_fin{E:List (List Rat)}(hf:s.fin Q=true):mstep Q E s=(s.done Q,none):=by unfold mstep;rw[if_pos hf]
theorem mstep_cut{E:List (List Rat)}(hf:s.fin Q=false)(hc:s.cut Q=true):mstep Q E s=(s.exR Q E,some (s.excl Q E)):=by unfold mstep;rw[if_neg (by rw[hf];simp),if_pos hc]
theorem mstep_redu{E:List (List Rat)}(hf:s.fin Q=false)(hc:s.cut Q=false):mstep Q E s=(s.rd0 Q,some (s.redu Q)):=by unfold mstep;rw[if_neg (by rw[hf];simp),if_neg (by rw[hc];simp)]
theorem MRun.fin{rs:List Rd}(h:MRun Q s rs)(hf:s.fin Q=true):rs++[s.done Q]=zhe Q:=by
 have hl:=h.len
 have hr:=h.run
 rw[show 500-rs.length=(499-rs.length)+1 by omega,mrun,mstep_fin hf]at hr
 exact hr
theorem MRun.excl(hQ:Q.OK){rs:List Rd}(h:MRun Q s rs)(hf:s.fin Q=false)(hc:s.cut Q=true):MRun Q (s.excl Q (rs.map Rd.votes)) (rs++[s.exR Q (rs.map Rd.votes)]):=by
 obtain⟨h1,h2⟩:=zjm hQ h.inv hf hc (rs.map Rd.votes)
 exact h.next hQ (mstep_cut hf hc) h1 h2 rfl rfl
theorem MRun.redu(hQ:Q.OK){rs:List Rd}(h:MRun Q s rs)(hf:s.fin Q=false)(hc:s.cut Q=false):MRun Q (s.redu Q) (rs++[s.rd0 Q]):=by
 obtain⟨h1,h2⟩:=ziw hQ h.inv hf hc
 exact h.next hQ (mstep_redu hf hc) h1 h2 rfl rfl
inductive MTr(Q:MP):MS→List Rd→List Rd→Prop
 |fin {s:MS} {rs:List Rd}:MRun Q s rs→s.fin Q=true→MTr Q s rs [s.done Q]
 |excl {s:MS} {rs rest:List Rd}:MRun Q s rs→s.fin Q=false→s.cut Q=true→MTr Q (s.excl Q (rs.map Rd.votes)) (rs++[s.exR Q (rs.map Rd.votes)]) rest→MTr Q s rs (s.exR Q (rs.map Rd.votes)::rest)
 |redu {s:MS} {rs rest:List Rd}:MRun Q s rs→s.fin Q=false→s.cut Q=false→MTr Q (s.redu Q) (rs++[s.rd0 Q]) rest→MTr Q s rs (s.rd0 Q::rest)
theorem mtr_ex(hQ:Q.OK):∀(m:Nat) {s:MS} {rs:List Rd},s.meas Q<m→MRun Q s rs→∃rest,MTr Q s rs rest∧rs++rest=zhe Q
 | 0,_,_,h,_=>by omega
 |m+1,s,rs,h,hR=>by
  cases hf:s.fin Q with
  |true=>exact⟨_,.fin hR hf,hR.fin hf⟩
  |false=>
   cases hc:s.cut Q with
   |true=>
    have hme:=(zjm hQ hR.inv hf hc (rs.map Rd.votes)).2
    obtain⟨rest,h1,h2⟩:=mtr_ex hQ m (by omega) (hR.excl hQ hf hc)
    exact⟨_,.excl hR hf hc h1,by rw[←h2,xbz];rfl⟩
   |false=>
    have hme:=(ziw hQ hR.inv hf hc).2
    obtain⟨rest,h1,h2⟩:=mtr_ex hQ m (by omega) (hR.redu hQ hf hc)
    exact⟨_,.redu hR hf hc h1,by rw[←h2,xbz];rfl⟩
theorem zmr(hQ:Q.OK):MTr Q Q.s0 [] (zhe Q):=by
 obtain⟨rest,h1,h2⟩:=mtr_ex hQ (Q.s0.meas Q+1) (by omega) (MRun.start hQ)
 rw[xcz]at h2
 rwa[h2]at h1
end Go.Proofs.YtmipjomnjkmdbaaGreat
namespace Go.Proofs.YtmipjomnjkmdbaaGreat
open Go Go.X
variable {P:GP} {s:GS}
def rd0:Rd:=⟨[],[],0,0,0,[],[],[]⟩
theorem drop_getD{α:Type}{l:List α}{i:Nat}(d:α)(h:i<l.length):l.drop i=l.getD i d::l.drop (i+1):=by
 rw[xab,xad h]
 exact xfm h
end Go.Proofs.YtmipjomnjkmdbaaGreat
namespace Go.Proofs.YtmipjomnjkmdbaaGreat
open Go Go.X
structure Ren(n:Nat)(ρ:Nat→Nat)(l l':List Int):Prop where
 mem:∀i,i<n→((i:Int)∈l↔((ρ i:Nat):Int)∈l')
 len:l.length=l'.length
 ins:∀c∈l,∃i:Nat,c=(i:Int)∧i<n
 ins':∀c∈l',∃i:Nat,c=(i:Int)∧i<n
end Go.Proofs.YtmipjomnjkmdbaaGreat
namespace Go.Proofs.YtmipjomnjkmdbaaGreat
open Go Go.X
theorem d44_eq{l:List Int}(hl:l.length≤281474976710656):d44 l=some (selI (fun i=>decide ((i:Int)∈l)) 12):=by
 unfold d44
 refine zad (fun i=>(l,selI (fun i=>decide ((i:Int)∈l)) i,(i:Int))) 12 rfl (fun i hi=>?_) (b:=selI (fun i=>decide ((i:Int)∈l)) 12) ?_ rfl
 ·have hc:=zbu (fun i=>decide ((i:Int)∈l)) i
  simp only[decide_eq_true (show(i:Int)<12 by omega),cond_true,zae,d49_eq (i:Int) hl,Option.bind_some,zau (show i<9223372036854775807 by omega),zct]
  cases decide ((i:Int)∈l)
  ·simp
  ·simp only[cond_true,if_true,zcg (l:=selI (fun i=>decide ((i:Int)∈l)) i) (d:=(i:Int)) (by rw[zay];omega)]
 ·rfl
theorem while_prp{α β γ:Type}{f:α→Option (α⊕β)}{k:β→Option γ}{a0:α}{b:β}{X:Option γ→Prop}(st:Nat→α)(n:Nat)(h0:st 0=a0)(hs:∀i,i<n→f (st i)=some (.inl (st (i+1))))(he:f (st n)=some (.inr b))(hk:X (k b)):X ((zaa f a0).bind k):=by
 rw[zad st n h0 hs he rfl];exact hk
end Go.Proofs.YtmipjomnjkmdbaaGreat
namespace Go.Proofs.YtmipjomnjkmdbaaGreat
open Go Go.X
theorem wsum_gen{n:Int}{gs:List Grp}{N:Int}(h:PileOK n gs N)(f:List Int→Nat)(c:CT)(lots:List Int):∀m,m≤gs.length→wsum (fun p=>(f p:Int)) (gs.take m)=((sumN (fun g=>(gpOf c gs lots).k g*f ((gpOf c gs lots).p g)) m:Nat):Int)
 | 0,_=>by simp[wsum,sumN]
 |m+1,hm=>by
  have hg:=(h.ballots _ (zbr (l:=gs) (d:=([],0)) (i:=m) (by omega))).2
  rw[zdf _ gs (by omega),wsum_gen h f c lots m (by omega),sumN]
  have e1:(gpOf c gs lots).p m=(gs.getD m ([],0)).1:=rfl
  have e2:(((gpOf c gs lots).k m:Nat):Int)=(gs.getD m ([],0)).2:=by
   show((gs.getD m ([],0)).2.toNat:Int)=_
   omega
  rw[e1,Int.natCast_add,xgz,e2]
end Go.Proofs.YtmipjomnjkmdbaaGreat
namespace Go.Proofs.YtmipjomnjkmdbaaGreat
open Go Go.X
theorem zgx(f:Nat→Nat){m n:Nat}(h:m≤n):sumN f m≤sumN f n:=by
 induction n with
 |zero=>rw[show m=0 by omega];exact Nat.le_refl _
 |succ n ih=>
  by_cases hm:m=n+1
  ·rw[hm];exact Nat.le_refl _
  ·rw[sumN];have:=ih (by omega);omega
theorem wmul{a b:Nat}(h:a*b≤9223372036854775807):w ((a:Int)*(b:Int))=((a*b:Nat):Int):=by rw[←xgz,zbi (by omega) (by omega)]
theorem wsubN{a b:Nat}(h:b≤a)(ha:a≤9223372036854775807):w ((a:Int)-(b:Int))=((a-b:Nat):Int):=by rw[zbi (by omega) (by omega)];omega
theorem ten_le{d e:Nat}(h:d≤e):10^d≤10^e:=xdd (by decide) h
theorem ten_six{d:Nat}(h:d≤6):10^d≤1000000:=Nat.le_trans (ten_le h) (by decide)
theorem zpd(d:Nat):0<10^d:=xev (by decide)
theorem wten{i:Nat}(h:i<18):w (((10^i:Nat):Int)*10)=((10^(i+1):Nat):Int):=by
 have h2:10^(i+1)≤10^18:=ten_le (by omega)
 have h3:(10:Nat)^18=1000000000000000000:=by decide
 rw[h3,xbj]at h2
 rw[xbj]
 generalize 10^i=x at h2 ⊢
 rw[zbi (by omega) (by omega)]
 omega
theorem d111_eq{d:Nat}(h:d≤18):d111 (d:Int)=some ((10^d:Nat):Int):=by
 unfold d111
 refine zad (fun i=>(((10^i:Nat):Int),(d:Int),(i:Int))) d rfl (fun i hi=>?_) ?_ rfl
 ·simp only[dlt hi,cond_true,wten (show i<18 by omega),zau (show i<9223372036854775807 by omega)]
 ·simp only[nlt (Nat.le_refl d),cond_false]
theorem d114_eq{d:Nat}(h:d≤18):d114 (d:Int)=some ((10^d:Nat):Int):=by
 unfold d114
 refine zad (fun i=>((d:Int),((10^i:Nat):Int),(i:Int))) d rfl (fun i hi=>?_) ?_ rfl
 ·simp only[dlt hi,cond_true,wten (show i<18 by omega),zau (show i<9223372036854775807 by omega)]
 ·simp only[nlt (Nat.le_refl d),cond_false]
theorem zqp{a b:Nat}(hb:0<b)(h:a+b≤4611686018427387904):d121 (a:Int) (b:Int)=some ((mup a b:Nat):Int):=by
 unfold d121 mup
 have h1:=xcv (a+b-1) b
 have h2:Int.tdiv ((a+b-1:Nat):Int) (b:Int)=(((a+b-1)/b:Nat):Int):=by
  rw[xdp (by omega)];rfl
 have h3:w ((a+b-1:Nat):Int)=((a+b-1:Nat):Int):=zbi (by omega) (by omega)
 have h4:w (((a+b-1)/b:Nat):Int)=(((a+b-1)/b:Nat):Int):=by
  generalize(a+b-1)/b=q at h1 ⊢
  exact zbi (by omega) (by omega)
 rw[decide_eq_false (show ¬(b:Int)=0 by omega),xae,cond_true,wadd (by omega),show((a+b:Nat):Int)-1=((a+b-1:Nat):Int) by omega,h3,h2,h4]
theorem zim{a b:Nat}(hb:0<b)(h:a+b≤4611686018427387904):d119 (a:Int) (b:Int)=some ((mup a b:Nat):Int):=by
 have:=zqp hb h
 unfold d121 at this
 unfold d119
 exact this
def zee(one:Nat)(kp:Nat→Nat)(p:List Int)(m c:Nat):Nat:=sumN (fun j=>if p.getD j 0=(c:Int)then zef one kp p j else 0) m
def mvoU(P:GP)(one:Nat)(kp:Nat→Nat)(m c:Nat):Nat:=sumN (fun g=>P.k g*zpw one kp (P.p g) c) m
def mroU(P:GP)(one:Nat)(kp:Nat→Nat)(m:Nat):Nat:=sumN (fun g=>P.k g*mw one kp (P.p g) (P.p g).length) m
theorem give_step{one:Nat}{kp:Nat→Nat}{p:List Int}{n j k x:Nat}(V:Nat→Nat)(hx:p.getD j 0=(x:Int)) :
  (lst (fun c=>((V c+k*zee one kp p j c:Nat):Int)) n).set x (((V x+k*zee one kp p j x+zef one kp p j*k:Nat)):Int)=lst (fun c=>((V c+k*zee one kp p (j+1) c:Nat):Int)) n:=by
 rw[zce]
 refine zao fun c _=>?_
 unfold upd zee
 rw[sumN,hx]
 by_cases h:c=x
 ·subst h
  rw[if_pos rfl,if_pos rfl,xbq,xbb (zef one kp p j) k,xch]
 ·rw[if_neg h,if_neg (by omega),xco]
section
variable {gs:List Grp} (c:CT) (lots:List Int) {one:Nat} {kp:Nat→Nat} (h1:0<one) (h6:one≤1000000) (hk:∀i,kp i≤one)
include h1 h6 hk
theorem zon(hP:sumN (gpOf c gs lots).k gs.length≤100000){g j x:Nat}(hg:g<gs.length)(hj:j<((gpOf c gs lots).p g).length):mvoU (gpOf c gs lots) one kp g x+(gpOf c gs lots).k g*zee one kp ((gpOf c gs lots).p g) j x≤100000000000∧zef one kp ((gpOf c gs lots).p g) j*(gpOf c gs lots).k g≤100000000000:=by
 have hkg:(gpOf c gs lots).k g≤100000:=Nat.le_trans (zpg hg) hP
 have hmg:∀g m x,m≤((gpOf c gs lots).p g).length→zee one kp ((gpOf c gs lots).p g) m x≤one:=fun g m x hm=>by
  have e:=mw_sum h1 hk ((gpOf c gs lots).p g) m
  have:zee one kp ((gpOf c gs lots).p g) m x≤sumN (zef one kp ((gpOf c gs lots).p g)) m:=zgy fun i _=>by split<;>omega
  omega
 have hmp:zef one kp ((gpOf c gs lots).p g) j≤one:=Nat.le_trans (zhr h1 hk _ _) (mw_le h1 hk _ _)
 refine⟨?_,Nat.le_trans (Nat.mul_le_mul hmp hkg) (Nat.le_trans (xam _ h6) (by decide))⟩
 have e1:mvoU (gpOf c gs lots) one kp g x+(gpOf c gs lots).k g*zee one kp ((gpOf c gs lots).p g) j x≤sumN (fun g=>(gpOf c gs lots).k g*one) (g+1):=by
  rw[sumN]
  refine Nat.add_le_add (zgy fun i _=>xby _ (hmg i _ x (Nat.le_refl _))) (xby _ (hmg g j x (by omega)))
 have e2:=zgx (fun g=>(gpOf c gs lots).k g*one) (show g+1≤gs.length by omega)
 rw[zit (gpOf c gs lots).k one gs.length]at e2
 have e3:sumN (gpOf c gs lots).k gs.length*one≤100000*1000000:=Nat.mul_le_mul hP h6
 omega
theorem zmk(hP:sumN (gpOf c gs lots).k gs.length≤100000){g:Nat}(hg:g<gs.length):mroU (gpOf c gs lots) one kp (g+1)≤100000000000∧mw one kp ((gpOf c gs lots).p g) ((gpOf c gs lots).p g).length*(gpOf c gs lots).k g≤100000000000:=by
 have hkg:(gpOf c gs lots).k g≤100000:=Nat.le_trans (zpg hg) hP
 refine⟨?_,Nat.le_trans (Nat.mul_le_mul (mw_le h1 hk _ _) hkg) (Nat.le_trans (xam _ h6) (by decide))⟩
 have e1:mroU (gpOf c gs lots) one kp (g+1)≤sumN (fun g=>(gpOf c gs lots).k g*one) (g+1):=zgy fun i _=>xby _ (mw_le h1 hk _ _)
 have e2:=zgx (fun g=>(gpOf c gs lots).k g*one) (show g+1≤gs.length by omega)
 rw[zit (gpOf c gs lots).k one gs.length]at e2
 have e3:sumN (gpOf c gs lots).k gs.length*one≤100000*1000000:=Nat.mul_le_mul hP h6
 omega
end
theorem pile_k{n:Nat}{gs:List Grp}{N:Int}(hp:PileOK (n:Int) gs N)(c:CT)(lots:List Int):sumN (gpOf c gs lots).k gs.length≤100000∧∀g,g<gs.length→(gs.getD g ([],0)).2=(((gpOf c gs lots).k g:Nat):Int):=by
  have h:=wsum_gen hp (fun _=>1) c lots _ (Nat.le_refl _)
  rw[xbd]at h
  have ht:=hp.total
  have hm:=hp.most
  have e:wsum (fun _=>((1:Nat):Int)) gs=wsum (fun _=>1) gs:=rfl
  rw[e,ht]at h
  simp only[xdj]at h
  refine ⟨by have e2:sumN (gpOf c gs lots).k gs.length=sumN (fun g=>(gpOf c gs lots).k g) gs.length:=rfl
             omega,fun g hg=>?_⟩
  have:=(hp.ballots _ (zbr (l:=gs) (d:=([],0)) (i:=g) hg)).2
  show _=((gs.getD g ([],0)).2.toNat:Int)
  omega
theorem d58_ok{n d:Nat}{gs:List Grp}{N:Int}(h1n:1≤n)(hn:n≤7)(hd1:1≤d)(hd6:d≤6)(hp:PileOK (n:Int) gs N)(c:CT)(lots:List Int){kp:Nat→Nat}(hk:∀i,kp i≤10^d) :
  d58 (d:Int) (lst (fun i=>(kp i:Int)) n) gs=some (lst (fun x=>((mvo (gpOf c gs lots) (10^d) kp x:Nat):Int)) n,((mro (gpOf c gs lots) (10^d) kp:Nat):Int),true):=by
 have ho1:=zpd d
 have ho6:=ten_six hd6
 obtain⟨hks,hkg⟩:=pile_k hp c lots
 have hgl:=(hp.gs (by omega)).1
 have h111:=d111_eq (d:=d) (by omega)
 have h120:d120 (n:Int) gs=some true:=by
  unfold d120
  rw[decide_eq_true (show(1:Int)≤(n:Int) by omega),cond_true,decide_eq_true (show(n:Int)≤7 by omega),cond_true,hp.d124 (by omega)];rfl
 have hball:∀g,g<gs.length→isB (n:Int) ((gpOf c gs lots).p g):=fun g hg=>(hp.ballots _ (zbr (l:=gs) (d:=([],0)) (i:=g) hg)).1
 have hdb:=fun g j x hg hj=>zon c lots ho1 ho6 hk hks (g:=g) (j:=j) (x:=x) hg hj
 have hrb:=fun g hg=>zmk c lots ho1 ho6 hk hks (g:=g) hg
 have hmp:∀p j,zef (10^d) kp p j≤10^d:=fun p j=>Nat.le_trans (zhr ho1 hk _ _) (mw_le ho1 hk _ _)
 have hmw:∀p j,mw (10^d) kp p j≤10^d:=fun p j=>mw_le ho1 hk _ _
 have hmst:∀p j,mw (10^d) kp p j-zef (10^d) kp p j=mw (10^d) kp p (j+1):=fun p j=>rfl
 have hmpe:∀p j,zef (10^d) kp p j=mup (mw (10^d) kp p j*kp (p.getD j 0).toNat) (10^d):=fun p j=>rfl
 have hmpl:=fun p j=>zhr ho1 hk p j
 unfold d58
 simp only[zak,zae,decide_eq_false (show ¬(d:Int)<1 by omega),decide_eq_false (show ¬(6:Int)<(d:Int) by omega),xae,cond_true,h120,Option.bind_some,xaj,cond_false,h111]
 generalize hone:10^d=one at *
 refine zad (fun i=>(lst (fun i=>(kp i:Int)) n,gs,(0:Int),(one:Int),lst (fun i=>(kp i:Int)) n,(n:Int),(i:Int))) n rfl (fun i hi=>?_) (b:=.inl (lst (fun i=>(kp i:Int)) n,gs,(0:Int),(one:Int))) ?_ ?_
 ·have:=hk i
  simp only[dlt hi,d0le,zak,xac,cond_true,tn,zam (fun i=>(kp i:Int)) hi,decide_eq_false (show ¬(kp i:Int)<0 by omega),xae,nlt this,cond_false,zau (show i<9223372036854775807 by omega)]
 ·simp only[nlt (Nat.le_refl n),cond_false]
 simp only[zak,xaz,d0le,zbo (n:=n) (by omega),xac,cond_true,tn]
 have hrep:List.replicate n (0:Int)=lst (fun x=>((mvoU (gpOf c gs lots) one kp 0 x:Nat):Int)) n:=by rw[zkf];rfl
 rw[hrep]
 refine zad (fun g=>(lst (fun i=>(kp i:Int)) n,lst (fun x=>((mvoU (gpOf c gs lots) one kp g x:Nat):Int)) n,((mroU (gpOf c gs lots) one kp g:Nat):Int),(one:Int),gs,(gs.length:Int),(g:Int))) gs.length rfl (fun g hg=>?_) (b:=(lst (fun x=>((mvo (gpOf c gs lots) one kp x:Nat):Int)) n,((mro (gpOf c gs lots) one kp:Nat):Int))) ?_ rfl
 ·have hbg:=hball g hg
  have hpl:=zki hbg (by omega)
  have hpg:(gs.getD g ([],0)).1=(gpOf c gs lots).p g:=rfl
  have hgk:=hkg g hg
  have hrb:=hrb g hg
  have hdb:=fun j x hj=>hdb g j x hg hj
  have hmvo:∀x,mvoU (gpOf c gs lots) one kp g x+(gpOf c gs lots).k g*zee one kp ((gpOf c gs lots).p g) ((gpOf c gs lots).p g).length x=mvoU (gpOf c gs lots) one kp (g+1) x:=fun x=>rfl
  have hmro:mroU (gpOf c gs lots) one kp (g+1)=mroU (gpOf c gs lots) one kp g+(gpOf c gs lots).k g*mw one kp ((gpOf c gs lots).p g) ((gpOf c gs lots).p g).length:=rfl
  obtain⟨pr,hpr⟩:∃pr,gs.getD g ([],0)=pr:=⟨_,rfl⟩
  rw[hpr]at hpg hgk
  obtain⟨p',k'⟩:=pr
  simp only at hpg hgk
  subst hgk
  generalize(gpOf c gs lots).p g=p at *
  subst hpg
  generalize(gpOf c gs lots).k g=k at *
  simp only[dlt hg,d0le,xac,cond_true,tn,hpr]
  refine zad (fun j=>(lst (fun i=>(kp i:Int)) n,lst (fun x=>((mvoU (gpOf c gs lots) one kp g x+k*zee one kp p' j x:Nat):Int)) n,((mroU (gpOf c gs lots) one kp g:Nat):Int),(one:Int),((p',(k:Int)):List Int×Int),((mw one kp p' j:Nat):Int),gs,(gs.length:Int),(g:Int),p',(p'.length:Int),(j:Int))) p'.length rfl (fun j hj=>?_) (b:=(lst (fun i=>(kp i:Int)) n,lst (fun x=>((mvoU (gpOf c gs lots) one kp (g+1) x:Nat):Int)) n,((mroU (gpOf c gs lots) one kp g:Nat):Int),(one:Int),((p',(k:Int)):List Int×Int),((mw one kp p' p'.length:Nat):Int),gs,(gs.length:Int),(g:Int))) ?_ ?_
  ·have hb:=hbg.2 _ (zbg hj)
   obtain⟨x,hx⟩:∃x:Nat,p'.getD j 0=(x:Int):=⟨(p'.getD j 0).toNat,by omega⟩
   have hxn:x<n:=by omega
   have h1:=hmw p' j
   have h2:=hk x
   have h3:mw one kp p' j*kp x≤1000000*1000000:=Nat.mul_le_mul (by omega) (by omega)
   have h4:=hmpe p' j
   rw[hx,xak]at h4
   have h5:=hdb j x hj
   have h6:=hmp p' j
   have h7:=hmst p' j
   have h8:=hmpl p' j
   have hgs:=give_step (n:=n) (k:=k) (one:=one) (kp:=kp) (fun x=>mvoU (gpOf c gs lots) one kp g x) hx
   simp only[dlt hj,d0le,xac,cond_true,tn,hx,zak,dlt hxn,zam (fun i=>(kp i:Int)) hxn,wmul (show mw one kp p' j*kp x≤9223372036854775807 by omega),zqp ho1 (show mw one kp p' j*kp x+one≤4611686018427387904 by omega),Option.bind_some,←h4,zam (fun x=>((mvoU (gpOf c gs lots) one kp g x+k*zee one kp p' j x:Nat):Int)) hxn,wmul (show zef one kp p' j*k≤9223372036854775807 by omega),wadd (show mvoU (gpOf c gs lots) one kp g x+k*zee one kp p' j x+zef one kp p' j*k≤9223372036854775807 by omega),hgs,wsubN h8 (by omega),h7,zau (show j<9223372036854775807 by omega)]
  ·simp only[nlt (Nat.le_refl p'.length),cond_false,hmvo]
  ·have h9:=hmw p' p'.length
   rw[xbb]at hrb
   simp only[wmul (show mw one kp p' p'.length*k≤9223372036854775807 by have:=hrb.2;rw[xbb];omega),wadd (show mroU (gpOf c gs lots) one kp g+mw one kp p' p'.length*k≤9223372036854775807 by rw[xbb (mw one kp p' p'.length)];omega),zau (show g<9223372036854775807 by omega),hmro,xbb k]
 ·simp only[nlt (Nat.le_refl gs.length),cond_false]
  rfl
end Go.Proofs.YtmipjomnjkmdbaaGreat
namespace Go.Proofs.YtmipjomnjkmdbaaGreat
open Go Go.X
theorem d59_ok{n d:Nat}{gs:List Grp}{N:Int}(h1n:1≤n)(hn:n≤7)(hd1:1≤d)(hd6:d≤6)(hp:PileOK (n:Int) gs N)(c:CT)(lots:List Int){kp:Nat→Nat}(hk:∀i,kp i≤10^d) :
  d59 (d:Int) (lst (fun i=>(kp i:Int)) n) gs=some (lst (fun x=>((mvo (gpOf c gs lots) (10^d) kp x:Nat):Int)) n,((mro (gpOf c gs lots) (10^d) kp:Nat):Int),true):=by
 have ho1:=zpd d
 have ho6:=ten_six hd6
 obtain⟨hks,hkg⟩:=pile_k hp c lots
 have hgl:=(hp.gs (by omega)).1
 have h114:=d114_eq (d:=d) (by omega)
 have hpb:zii (n:Int) gs=true:=by
  unfold zii goodP
  rw[decide_eq_true hp.good,decide_eq_true (show 1≤(n:Int)∧(n:Int)≤7 by omega)];rfl
 have h70:d70 (n:Int) gs=some true:=by rw[d70_eq (hp.gs (by omega)),hpb]
 have hball:∀g,g<gs.length→isB (n:Int) ((gpOf c gs lots).p g):=fun g hg=>(hp.ballots _ (zbr (l:=gs) (d:=([],0)) (i:=g) hg)).1
 have hdb:=fun g j x hg hj=>zon c lots ho1 ho6 hk hks (g:=g) (j:=j) (x:=x) hg hj
 have hrb:=fun g hg=>zmk c lots ho1 ho6 hk hks (g:=g) hg
 have hmp:∀p j,zef (10^d) kp p j≤10^d:=fun p j=>Nat.le_trans (zhr ho1 hk _ _) (mw_le ho1 hk _ _)
 have hmw:∀p j,mw (10^d) kp p j≤10^d:=fun p j=>mw_le ho1 hk _ _
 have hmst:∀p j,mw (10^d) kp p j-zef (10^d) kp p j=mw (10^d) kp p (j+1):=fun p j=>rfl
 have hmpe:∀p j,zef (10^d) kp p j=mup (mw (10^d) kp p j*kp (p.getD j 0).toNat) (10^d):=fun p j=>rfl
 have hmpl:=fun p j=>zhr ho1 hk p j
 unfold d59
 simp only[zak,zae,decide_eq_false (show ¬(d:Int)<1 by omega),decide_eq_false (show ¬(6:Int)<(d:Int) by omega),xae,cond_true,h70,Option.bind_some,xaj,cond_false,h114]
 generalize hone:10^d=one at *
 refine zad (fun i=>(lst (fun i=>(kp i:Int)) n,gs,(one:Int),(i:Int))) n rfl (fun i hi=>?_) (b:=.inl (lst (fun i=>(kp i:Int)) n,gs,(one:Int))) ?_ ?_
 ·have:=hk i
  simp only[dlt hi,d0le,zak,xac,cond_true,tn,zam (fun i=>(kp i:Int)) hi,decide_eq_false (show ¬(kp i:Int)<0 by omega),xae,nlt this,cond_false,zau (show i<9223372036854775807 by omega)]
 ·simp only[zak,nlt (Nat.le_refl n),cond_false]
 simp only[zak,xaz,d0le,zbo (n:=n) (by omega),xac,cond_true,tn]
 have hrep:List.replicate n (0:Int)=lst (fun x=>((mvoU (gpOf c gs lots) one kp 0 x:Nat):Int)) n:=by rw[zkf];rfl
 rw[hrep]
 refine zad (fun g=>(lst (fun i=>(kp i:Int)) n,gs,(one:Int),lst (fun x=>((mvoU (gpOf c gs lots) one kp g x:Nat):Int)) n,((mroU (gpOf c gs lots) one kp g:Nat):Int),(g:Int))) gs.length rfl (fun g hg=>?_) (b:=(lst (fun x=>((mvo (gpOf c gs lots) one kp x:Nat):Int)) n,((mro (gpOf c gs lots) one kp:Nat):Int))) ?_ rfl
 ·have hbg:=hball g hg
  have hpl:=zki hbg (by omega)
  have hpg:(gs.getD g ([],0)).1=(gpOf c gs lots).p g:=rfl
  have hgk:=hkg g hg
  have hrb:=hrb g hg
  have hdb:=fun j x hj=>hdb g j x hg hj
  have hmvo:∀x,mvoU (gpOf c gs lots) one kp g x+(gpOf c gs lots).k g*zee one kp ((gpOf c gs lots).p g) ((gpOf c gs lots).p g).length x=mvoU (gpOf c gs lots) one kp (g+1) x:=fun x=>rfl
  have hmro:mroU (gpOf c gs lots) one kp (g+1)=mroU (gpOf c gs lots) one kp g+(gpOf c gs lots).k g*mw one kp ((gpOf c gs lots).p g) ((gpOf c gs lots).p g).length:=rfl
  obtain⟨pr,hpr⟩:∃pr,gs.getD g ([],0)=pr:=⟨_,rfl⟩
  rw[hpr]at hpg hgk
  obtain⟨p',k'⟩:=pr
  simp only at hpg hgk
  subst hgk
  generalize(gpOf c gs lots).p g=p at *
  subst hpg
  generalize(gpOf c gs lots).k g=k at *
  simp only[dlt hg,cond_true]
  refine zad (fun j=>(lst (fun i=>(kp i:Int)) n,gs,(one:Int),lst (fun x=>((mvoU (gpOf c gs lots) one kp g x+k*zee one kp p' j x:Nat):Int)) n,((mroU (gpOf c gs lots) one kp g:Nat):Int),(g:Int),((mw one kp p' j:Nat):Int),(j:Int))) p'.length rfl (fun j hj=>?_) (b:=(lst (fun i=>(kp i:Int)) n,gs,(one:Int),lst (fun x=>((mvoU (gpOf c gs lots) one kp (g+1) x:Nat):Int)) n,((mroU (gpOf c gs lots) one kp g:Nat):Int),(g:Int),((mw one kp p' p'.length:Nat):Int))) ?_ ?_
  ·have hb:=hbg.2 _ (zbg hj)
   obtain⟨x,hx⟩:∃x:Nat,p'.getD j 0=(x:Int):=⟨(p'.getD j 0).toNat,by omega⟩
   have hxn:x<n:=by omega
   have h1:=hmw p' j
   have h2:=hk x
   have h3:mw one kp p' j*kp x≤1000000*1000000:=Nat.mul_le_mul (by omega) (by omega)
   have h4:=hmpe p' j
   rw[hx,xak]at h4
   have h5:=hdb j x hj
   have h6:=hmp p' j
   have h7:=hmst p' j
   have h8:=hmpl p' j
   have hgs:=give_step (n:=n) (k:=k) (one:=one) (kp:=kp) (fun x=>mvoU (gpOf c gs lots) one kp g x) hx
   simp only[dlt hg,hpr,dlt hj,d0le,xac,cond_true,tn,hx,zak,dlt hxn,zam (fun i=>(kp i:Int)) hxn,wmul (show mw one kp p' j*kp x≤9223372036854775807 by omega),zim ho1 (show mw one kp p' j*kp x+one≤4611686018427387904 by omega),Option.bind_some,←h4,zam (fun x=>((mvoU (gpOf c gs lots) one kp g x+k*zee one kp p' j x:Nat):Int)) hxn,wmul (show zef one kp p' j*k≤9223372036854775807 by omega),wadd (show mvoU (gpOf c gs lots) one kp g x+k*zee one kp p' j x+zef one kp p' j*k≤9223372036854775807 by omega),hgs,wsubN h8 (by omega),h7,zau (show j<9223372036854775807 by omega)]
  ·simp only[dlt hg,d0le,xac,cond_true,tn,hpr,nlt (Nat.le_refl p'.length),cond_false,hmvo]
  ·have h9:=hmw p' p'.length
   rw[xbb]at hrb
   simp only[dlt hg,d0le,xac,cond_true,tn,hpr,wmul (show mw one kp p' p'.length*k≤9223372036854775807 by have:=hrb.2;rw[xbb];omega),wadd (show mroU (gpOf c gs lots) one kp g+mw one kp p' p'.length*k≤9223372036854775807 by rw[xbb (mw one kp p' p'.length)];omega),zau (show g<9223372036854775807 by omega),hmro,xbb k]
 ·simp only[nlt (Nat.le_refl gs.length),cond_false]
  rfl
end Go.Proofs.YtmipjomnjkmdbaaGreat
namespace Go.Proofs.YtmipjomnjkmdbaaGreat
open Go Go.X
theorem swap_eq(A:List Int)(y x:Int)(T:List Int):((A++y::x::T).set (A.length+1) y).set A.length x=A++x::y::T:=by
 rw[List.set_append_right _ _ (by omega),show A.length+1-A.length=1 by omega]
 rw[List.set_append_right _ _ (by omega),Nat.sub_self]
 rfl
theorem getD_mid(A:List Int)(y:Int)(T:List Int):(A++y::T).getD A.length 0=y:=by
 rw[xab,xck (Nat.le_refl _),Nat.sub_self];rfl
theorem getD_mid1(A:List Int)(y x:Int)(T:List Int):(A++y::x::T).getD (A.length+1) 0=x:=by
 rw[xab,xck (by omega),show A.length+1-A.length=1 by omega];rfl
noncomputable def insF:(List Int) × Int × Int × (Int→Int→Option Int) × Int × Int→Option (((List Int) × Int × Int × (Int→Int→Option Int) × Int × Int) ⊕ ((List Int) × Int × Int × (Int→Int→Option Int) × Int)):=fun ((data_2,a_2,b_2,cmp_2,i_1,j_):(List Int) × Int × Int × (Int→Int→Option Int) × Int × Int) =>
            letJ (fun ((data_3,a_3,b_3,cmp_3,i_2,j__1,t34):(List Int) × Int × Int × (Int→Int→Option Int) × Int × Int × Bool) =>
                bif t34 then
                  bif (decide (0≤(w (j__1-1)))&&decide ((w (j__1-1))<(data_3.length:Int)))then
                    bif (decide (0≤j__1)&&decide (j__1<(data_3.length:Int)))then
                      bif (decide (0≤j__1)&&decide (j__1<(data_3.length:Int)))then
                        bif (decide (0≤(w (j__1-1)))&&decide ((w (j__1-1))<((List.set data_3 (Int.toNat j__1) (List.getD data_3 (Int.toNat (w (j__1-1))) 0)).length:Int)))then
                          some (Sum.inl ((List.set (List.set data_3 (Int.toNat j__1) (List.getD data_3 (Int.toNat (w (j__1-1))) 0)) (Int.toNat (w (j__1-1))) (List.getD data_3 (Int.toNat j__1) 0)),a_3,b_3,cmp_3,i_2,(w (j__1-1))))
                        else none
                      else none
                    else none
                  else none
                else
                  some (Sum.inr (data_3,a_3,b_3,cmp_3,i_2))) fun j__2=>
            bif (decide (a_2<j_))then
              bif (decide (0≤j_)&&decide (j_<(data_2.length:Int)))then
                bif (decide (0≤(w (j_-1)))&&decide ((w (j_-1))<(data_2.length:Int)))then
                  (cmp_2 (List.getD data_2 (Int.toNat j_) 0) (List.getD data_2 (Int.toNat (w (j_-1))) 0)).bind fun r=>
                  j__2 (data_2,a_2,b_2,cmp_2,i_1,j_,(decide (r<0)))
                else none
              else none
            else
              j__2 (data_2,a_2,b_2,cmp_2,i_1,j_,false)
theorem d228_ex{l:List Int}{cmp:Int→Int→Option Int}{g:Int→Int→Int}(hl:l.length≤1000)(hn:l.Nodup)(hc:∀a∈l,∀b∈l,cmp a b=some (g a b))(ht:∀a∈l,∀b∈l,a≠b→g a b<0∨g b a<0)(htr:∀a∈l,∀b∈l,∀c∈l,g a b<0→g b c<0→g a c<0) :
  ∃L,d228 l 0 (l.length:Int) cmp=some L∧L.Perm l∧L.Pairwise fun a b=>g a b<0:=by
 cases l with
 |nil=>
  refine⟨[],?_,xie _,by simp⟩
  unfold d228
  refine zad (fun i=>([],0,(([]:List Int).length:Int),cmp,w (0+1))) 0 rfl (fun i hi=>by omega) (b:=([]:List Int)) ?_ rfl
  rfl
 |cons x0 l0=>
 generalize hll:x0::l0=l at *
 have hpos:1≤l.length:=by rw[←hll];simp
 unfold d228
 refine zbj (Q:=fun(r:Option (List Int))=>∃L:List Int,r=some L∧L.Perm l∧L.Pairwise fun a b=>g a b<0) (fun(i:Nat) (st:(List Int)×Int×Int×(Int→Int→Option Int)×Int)=>∃S:List Int,st=(S++l.drop (i+1),0,(l.length:Int),cmp,((i+1:Nat):Int))∧S.Perm (l.take (i+1))∧(S.Pairwise fun a b=>g a b<0)) (l.length-1) ?_ ?_ ?_
 ·refine⟨l.take 1,by rw[xdc];rfl,xie _,?_⟩
  rw[←hll];simp
 ·rintro i st hi ⟨S,rfl,hS,hs⟩
  have hi1:i+1<l.length:=by omega
  obtain⟨x,hx⟩:∃x,l.getD (i+1) 0=x:=⟨_,rfl⟩
  have hdrop:l.drop (i+1)=x::l.drop (i+2):=by rw[←hx];exact drop_getD 0 hi1
  have hSl:S.length=i+1:=by rw[hS.length_eq,xaq];omega
  have hmS:∀a∈S,a∈l:=fun a ha=>xbv (hS.mem_iff.1 ha)
  have hxm:x∈l:=by rw[←hx];exact zbg hi1
  have hxS:x∉S:=fun h=>by
   have h1:=hS.mem_iff.1 h
   have h2:l.take (i+1)++l.drop (i+1)=l:=xdc _ _
   have h3:(l.take (i+1)++l.drop (i+1)).Nodup:=by rw[h2];exact hn
   exact(xeh.1 h3).2.2 x h1 x (by rw[hdrop];simp) rfl
  have htk:l.take (i+2)=l.take (i+1)++[x]:=by rw[←hx];exact zbb l 0 hi1
  rw[hdrop]
  generalize l.drop (i+2)=T at *
  have hdlen:∀A B:List Int,S=A++B→(A++x::(B++T)).length=(S++x::T).length:=fun A B e=>by rw[e];simp;omega
  have htot:(S++x::T).length≤1000:=by
   rw[←hdrop,List.length_append,hSl,xdw]
   omega
  have hin:∃S':List Int,zaa insF (S++x::T,0,(l.length:Int),cmp,((i+1:Nat):Int),((i+1:Nat):Int))=some (S'++T,0,(l.length:Int),cmp,((i+1:Nat):Int))∧S'.Perm (l.take (i+2))∧(S'.Pairwise fun a b=>g a b<0):=by
   have key:=zco (γ:=(List Int)×Int×Int×(Int→Int→Option Int)×Int) (k:=some) (Q:=fun r=>∃S':List Int,r=some (S'++T,0,(l.length:Int),cmp,((i+1:Nat):Int))∧S'.Perm (l.take (i+2))∧(S'.Pairwise fun a b=>g a b<0))
    (f:=insF) (a0:=(S++x::T,0,(l.length:Int),cmp,((i+1:Nat):Int),((i+1:Nat):Int)))
    (fun(m:Nat) (st:(List Int)×Int×Int×(Int→Int→Option Int)×Int×Int)=>∃A B:List Int,st=(A++x::(B++T),0,(l.length:Int),cmp,((i+1:Nat):Int),(m:Int))∧S=A++B∧A.length=m∧∀b∈B,g x b<0) (i+1) ⟨S,[],rfl,by simp,hSl,by simp⟩ (fun m st hst=>?_)
   ·obtain⟨S',h1,h2,h3⟩:=key
    refine⟨S',?_,h2,h3⟩
    rw[xbi]at h1
    obtain⟨b,h4,h5⟩:=h1
    exact h4.trans h5
   ·obtain⟨A,B,rfl,hAB,hAm,hB⟩:=hst
    have hstop:(∀a∈A,g a x<0)→∃S':List Int,some (A++x::(B++T),(0:Int),(l.length:Int),cmp,((i+1:Nat):Int))=some (S'++T,0,(l.length:Int),cmp,((i+1:Nat):Int))∧S'.Perm (l.take (i+2))∧(S'.Pairwise fun a b=>g a b<0):=fun hA=>by
     refine⟨A++x::B,by rw[xbz,xbx],?_,?_⟩
     ·rw[htk]
      refine List.perm_middle.trans ?_
      rw[←hAB]
      exact(xht (l₁:=[x]) (l₂:=S)).trans (List.Perm.append_right _ hS)
     ·rw[hAB,xfj]at hs
      rw[xfj,xdb]
      refine⟨hs.1,⟨hB,hs.2.1⟩,fun a ha b hb=>?_⟩
      rcases xaw.1 hb with rfl|hb
      ·exact hA a ha
      ·exact hs.2.2 a ha b hb
    cases m with
    |zero=>
     have hA0:A=[]:=xcy.1 hAm
     refine .inr ⟨(A++x::(B++T),0,(l.length:Int),cmp,((i+1:Nat):Int)),?_,hstop (by rw[hA0];simp)⟩
     unfold insF
     simp only[zae,show decide ((0:Int)<((0:Nat):Int))=false from rfl,cond_false]
    |succ m=>
     obtain⟨A',y,rfl⟩:∃A' y,A=A'++[y]:=by
      rcases List.eq_nil_or_concat A with rfl|⟨A',y,h⟩
      ·simp at hAm
      ·exact⟨A',y,by rw[h,List.concat_eq_append]⟩
     have hA'm:A'.length=m:=by simpa using hAm
     subst hA'm
     have hym:y∈S:=by rw[hAB];simp
     have hyl:=hmS y hym
     have hlen:=hdlen _ B hAB
     have e0:A'++[y]++x::(B++T)=A'++y::x::(B++T):=by simp
     rw[e0]at hlen ⊢
     have hlA:(A'++y::x::(B++T)).length≤1000:=by omega
     have hm1:A'.length+1<(A'++y::x::(B++T)).length:=by simp
     have hm0:A'.length<(A'++y::x::(B++T)).length:=by simp
     have hgx:=getD_mid1 A' y x (B++T)
     have hgy:=getD_mid A' y (x::(B++T))
     have hsw:=swap_eq A' y x (B++T)
     by_cases hlt:g x y<0
     ·refine .inl ⟨(A'++x::y::(B++T),0,(l.length:Int),cmp,((i+1:Nat):Int),(A'.length:Int)),A'.length,?_,by omega,A',y::B,rfl,by rw[hAB];simp,rfl,fun b hb=>?_⟩
      ·unfold insF
       simp only[zae,decide_eq_true (show(0:Int)<((A'.length+1:Nat):Int) by omega),cond_true,d0le,dlt hm1,dlt hm0,xac,tn,zoz (show A'.length<9223372036854775807 by omega),hgx,hgy,hc x hxm y hyl,Option.bind_some,decide_eq_true hlt,List.length_set,hsw]
      ·rcases xaw.1 hb with rfl|hb
       ·exact hlt
       ·exact hB b hb
     ·have hyx:g y x<0:=(ht y hyl x hxm (fun e=>hxS (by rw[←e];exact hym))).resolve_right hlt
      have hst:=hstop (fun a ha=>by
       rcases List.mem_append.1 ha with ha|ha
       ·refine htr a (hmS a (by rw[hAB];simp[ha])) y hyl x hxm ?_ hyx
        rw[hAB,xfj,xfj]at hs
        exact hs.1.2.2 a ha y (by simp)
       ·rw[xdn.1 ha];exact hyx)
      rw[e0]at hst
      refine .inr ⟨(A'++y::x::(B++T),0,(l.length:Int),cmp,((i+1:Nat):Int)),?_,hst⟩
      unfold insF
      simp only[zae,decide_eq_true (show(0:Int)<((A'.length+1:Nat):Int) by omega),cond_true,d0le,dlt hm1,dlt hm0,xac,tn,zoz (show A'.length<9223372036854775807 by omega),hgx,hgy,hc x hxm y hyl,Option.bind_some,decide_eq_false hlt,cond_false]
  obtain⟨S',h1,h2,h3⟩:=hin
  refine⟨(S'++T,0,(l.length:Int),cmp,((i+1+1:Nat):Int)),?_,S',rfl,h2,h3⟩
  show(bif decide (((i+1:Nat):Int)<(l.length:Int))then(zaa insF (S++x::T,(0:Int),(l.length:Int),cmp,((i+1:Nat):Int),((i+1:Nat):Int))).bind (fun p=>some (Sum.inl (p.1,p.2.1,p.2.2.1,p.2.2.2.1,w (p.2.2.2.2+1))))else some (Sum.inr (S++x::T)))=_
  rw[dlt hi1,cond_true,h1,Option.bind_some,zau (show i+1<9223372036854775807 by omega)]
 ·rintro st ⟨S,rfl,hS,hs⟩
  rw[show l.length-1+1=l.length by omega,xbd]at hS
  refine⟨S++l.drop (l.length-1+1),?_,S,?_,hS,hs⟩
  ·simp only[show l.length-1+1=l.length by omega,nlt (Nat.le_refl l.length),cond_false]
  ·rw[List.drop_of_length_le (by omega),xcf]
theorem d195_ex{l:List Int}{cmp:Int→Int→Option Int}{g:Int→Int→Int}(hl:l.length≤12)(hn:l.Nodup)(hc:∀a∈l,∀b∈l,cmp a b=some (g a b))(ht:∀a∈l,∀b∈l,a≠b→g a b<0∨g b a<0)(htr:∀a∈l,∀b∈l,∀c∈l,g a b<0→g b c<0→g a c<0) :
  ∃L,d195 l cmp=some L∧L.Perm l∧L.Pairwise fun a b=>g a b<0:=by
 obtain⟨L,h1,h2,h3⟩:=d228_ex (by omega) hn hc ht htr
 refine⟨L,?_,h2,h3⟩
 unfold d195
 have e208:∀x,d208 x=some (Lib.bitLen x.toNat:Int):=fun x=>rfl
 rw[e208,Option.bind_some]
 have hw:w ((l.length:Int)-0)=(l.length:Int):=zbi (by omega) (by omega)
 show((d214N 2 l 0 (l.length:Int) _ cmp).bind fun r_1=>some r_1)=_
 show((d214F (d214N 1) l 0 (l.length:Int) _ cmp).bind fun r_1=>some r_1)=_
 unfold d214F
 generalize((Lib.bitLen (wu64 (l.length:Int)).toNat:Nat):Int)=t3
 refine xbi.2 ⟨L,?_,rfl⟩
 refine zad (fun _=>(l,0,(l.length:Int),t3,cmp,true,true)) 0 rfl (fun i hi=>by omega) (b:=L) ?_ rfl
 simp only[hw,decide_eq_true (show(l.length:Int)≤12 by omega),cond_true,h1,Option.bind_some]
theorem zqn{a b:Nat}(ha:a≤9223372036854775807)(hb:b≤9223372036854775807)(hb0:0<b):d158 (a:Int) (b:Int)=some (rr (frac a b)):=by
 unfold d158
 have h1:=zij (n:=a) (by omega)
 have h2:=zij (n:=b) (by omega)
 rw[d128_eq (by omega) (by omega),d128_eq (by omega) (by omega),Option.bind_some,Option.bind_some,decide_eq_false (show ¬(a:Int)<0 by omega),decide_eq_false (show ¬(b:Int)<0 by omega),xet,xet,d127_eq _ (zas _) (zas _) (by omega) (by omega),zav,zav]
 show some (rr (mkRat (a:Int) b))=_
 rw[Rat.mkRat_eq_div]
 rfl
end Go.Proofs.YtmipjomnjkmdbaaGreat
namespace Go.Proofs.YtmipjomnjkmdbaaGreat
open Go Go.X
abbrev MT:=CT×(List Grp×(List Int×(Int×(List Int×(List Int×(Int×(List (List Rt)×(Int×(Int×(Int×(Int×(Int×(Int×(List RD×List Int))))))))))))))
theorem zkn{k:MT}{st:Nat→Nat}{n:Nat}(hk:k.2.2.2.2.1=lst (fun i=>(st i:Int)) n)(hn:n≤1000)(x:Nat):d161 k (x:Int)=some (selI (fun i=>decide (st i=x)) n):=by
 unfold d161
 rw[hk,zak]
 refine zad (fun i=>((x:Int),selI (fun i=>decide (st i=x)) i,lst (fun i=>(st i:Int)) n,(n:Int),(i:Int))) n rfl (fun i hi=>?_) ?_ rfl
 ·have hl:(selI (fun i=>decide (st i=x)) i).length+1≤4294967296:=by
   rw[zay];have:=zbu (fun i=>decide (st i=x)) i;omega
  rw[zct]
  simp only[dlt hi,d0le,zak,xac,cond_true,tn,zam _ hi,zae,zgn,zau (show i<9223372036854775807 by omega)]
  by_cases h:st i=x
  ·rw[decide_eq_true h,cond_true,zcg hl,cond_true];rfl
  ·rw[decide_eq_false h,cond_false];simp
 ·simp only[nlt (Nat.le_refl n),cond_false]
theorem d157_eq{k:MT}{v:Nat→Nat}{n one:Nat}(hk:k.2.2.2.1=(one:Int))(hn:n≤1000)(h1:0<one)(h6:one≤1000000)(hv:∀i,i<n→v i≤9223372036854775807):d157 k (lst (fun i=>(v i:Int)) n)=some (lst (fun i=>rr (frac (v i) one)) n):=by
 unfold d157
 rw[zak]
 refine zad (fun i=>(k,lst (fun i=>rr (frac (v i) one)) i,lst (fun i=>(v i:Int)) n,(n:Int),(i:Int))) n rfl (fun i hi=>?_) ?_ rfl
 ·have hl:=zcg (l:=lst (fun i=>rr (frac (v i) one)) i) (d:=rr (frac (v i) one)) (by rw[zak];omega)
  rw[zak]at hl
  simp only[dlt hi,d0le,zak,xac,cond_true,tn,zam (fun i=>(v i:Int)) hi,hk,zqn (hv i hi) (show one≤9223372036854775807 by omega) h1,Option.bind_some,zau (show i<9223372036854775807 by omega),hl,zlo]
 ·simp only[nlt (Nat.le_refl n),cond_false]
theorem d159_eq{c:CT}{gs:List Grp}{lots:List Int}{one:Int}{st:Nat→Nat}{n:Nat}{kp:List Int}{filled:Nat}{rest:List (List Rt)×(Int×(Int×(Int×(Int×(Int×(Int×(List RD×List Int)))))))}
  {v kk:List Rt} {qu ex su:Rt} {el ex2 ti:List Int} {L:List Nat} (hn:n≤7) (hL:∀i∈L,i<n) (hLl:L.length≤7) (hf:filled≤1000) (hel:el.length≤1000) :
  d159 (c,gs,lots,one,lst (fun i=>(st i:Int)) n,kp,(filled:Int),rest) (v,kk,qu,ex,su,el,ex2,ti) (L.map Int.ofNat)
   =some ((c,gs,lots,one,lst (fun i=>((zfk st L 1 i:Nat):Int)) n,kp,((filled+L.length:Nat):Int),rest),(v,kk,qu,ex,su,zdu (el++L.map Int.ofNat),ex2,ti)):=by
 unfold d159
 have hLi:(L.map Int.ofNat).length=L.length:=xbe ..
 rw[hLi]
 refine zad (fun j=>((c,gs,lots,one,lst (fun i=>((zfk st (L.take j) 1 i:Nat):Int)) n,kp,((filled+j:Nat):Int),rest),(v,kk,qu,ex,su,el++(L.take j).map Int.ofNat,ex2,ti),L.map Int.ofNat,(L.length:Int),(j:Int))) L.length ?_ (fun j hj=>?_) (b:=((c,gs,lots,one,lst (fun i=>((zfk st L 1 i:Nat):Int)) n,kp,((filled+L.length:Nat):Int),rest),(v,kk,qu,ex,su,el++L.map Int.ofNat,ex2,ti))) ?_ ?_
 ·rw[xct,updAll_nil,xez,xcf];rfl
 ·have hm:L.getD j 0∈L:=by
   rw[xab,xad hj]
   exact xbr hj
  have hg:=hL _ hm
  have hsg:(L.map Int.ofNat).getD j 0=((L.getD j 0:Nat):Int):=by
   rw[xab,xbm,xad hj,xab,xad hj];rfl
  have hll:(el++(L.take j).map Int.ofNat).length+1≤4294967296:=by rw[List.length_append,xbe,xaq];omega
  simp only[dlt hj,d0le,hLi,xac,cond_true,tn,hsg,zak,dlt hg,zcg hll,zau (show j<9223372036854775807 by omega),zau (show filled+j<9223372036854775807 by omega),zce]
  have e:lst (upd (fun i=>((zfk st (L.take j) 1 i:Nat):Int)) (L.getD j 0) 1) n=lst (fun i=>((zfk st (L.take (j+1)) 1 i:Nat):Int)) n:=zao fun i hi=>by
   rw[zbb L 0 hj,←updAll_snoc]
   unfold upd
   split<;>rfl
  rw[e,zbb L 0 hj,xcp,xbz]
  rfl
 ·simp only[nlt (Nat.le_refl L.length),cond_false,xbd]
 ·have hd:d174 (el++L.map Int.ofNat)=some (zdu (el++L.map Int.ofNat)):=by
   unfold d174
   rw[zbo (by rw[List.length_append,hLi];omega)];rfl
  simp only[hd,Option.bind_some]
def cmpM(v:Nat→Nat)(lots:List Int)(a b:Int):Int:=if v a.toNat=v b.toNat then(zbm lots a:Int)-(zbm lots b:Int)else(v b.toNat:Int)-(v a.toNat:Int)
theorem zkp(v:Nat→Nat)(lots:List Int)(a b:Nat):cmpM v lots (a:Int) (b:Int)<0↔zdl v lots a b=true:=by
 unfold cmpM zdl
 rw[xak,xak]
 simp only[xcw,xag,xaf]
 split<;>omega
theorem d196_eq{v:Nat→Nat}{n:Nat}{k:MT}{lots:List Int}(hk:k.2.2.1=lots)(hl:LotsOK n lots)(hv:∀i,i<n→v i≤1000000000000){a b:Nat}(ha:a<n)(hb:b<n):d196 (a:Int) (b:Int) (lst (fun i=>(v i:Int)) n) k=some (cmpM v lots (a:Int) (b:Int)):=by
 have h1:=hv a ha
 have h2:=hv b hb
 have h7:=hl.n7
 have hll:=hl.len
 have h3:=zqm (s:=lots) (a:Int) (by omega)
 have h4:=zqm (s:=lots) (b:Int) (by omega)
 rw[zfa]at h3 h4
 have p1:lots.idxOf (a:Int)<lots.length:=xfa (hl.mem ha)
 have p2:lots.idxOf (b:Int)<lots.length:=xfa (hl.mem hb)
 rw[if_pos p1]at h3
 rw[if_pos p2]at h4
 unfold d196 cmpM zbm
 simp only[d0le,zak,dlt ha,dlt hb,xac,cond_true,tn,zam (fun i=>(v i:Int)) ha,zam (fun i=>(v i:Int)) hb,zgn,hk,h3,h4,Option.bind_some]
 by_cases h:v a=v b
 ·rw[if_pos h,decide_eq_true h,xaj,cond_false,zbi (by omega) (by omega)]
 ·rw[if_neg h,decide_eq_false h,xae,cond_true,zbi (by omega) (by omega)]
variable {Q:MP} {s:MS}
theorem d160_ex(hQ:Q.OK)(hI:MI Q s){k:MT}(hst:k.2.2.2.2.1=lst (fun i=>(s.st i:Int)) Q.P.n)(hlo:k.2.2.1=Q.P.lots)(hse:k.1.2.2.2.1=(Q.P.seats:Int))(hfl:k.2.2.2.2.2.2.1=(s.fl Q:Int)) :
  ∃L:List Nat,d160 k (lst (fun i=>((s.v Q i:Nat):Int)) Q.P.n) ((s.quo Q:Nat):Int)=some (L.map Int.ofNat)∧(L.map Int.ofNat).Perm (selI (s.el Q) Q.P.n):=by
 have hn7:=hQ.P.n7
 have hs5:=hQ.P.seats5
 have hfill:=hI.fill
 have hv:∀i,i<Q.P.n→s.v Q i≤1000000000000:=fun i hi=>by
  have h1:=MS.v_le hQ hI hi
  have h2:=MS.tot_le hQ
  omega
 have h134:=d134_eq (s:=selI (fun i=>decide (s.st i=0)) Q.P.n) (f:=fun a=>d194 a (lst (fun i=>((s.v Q i:Nat):Int)) Q.P.n) ((s.quo Q:Nat):Int)) (g:=fun x=>decide (s.v Q x.toNat<s.quo Q)) (fun x hx=>by
  obtain⟨i,rfl,hi,_⟩:=zaz.1 hx
  unfold d194
  simp only[d0le,zak,dlt hi,xac,cond_true,tn,zam (fun i=>((s.v Q i:Nat):Int)) hi,xak]
  congr 1
  exact xca.2 (by omega)) (by rw[zay];have:=zbu (fun i=>decide (s.st i=0)) Q.P.n;omega)
 have hre:(selI (fun i=>decide (s.st i=0)) Q.P.n).filter (fun c=>!decide (s.v Q c.toNat<s.quo Q))=selI (s.reach Q) Q.P.n:=by
  rw[zge]
  refine zbk fun i _=>?_
  unfold MS.reach
  congr 1
  rw[xak]
  by_cases h:s.v Q i<s.quo Q
  ·rw[decide_eq_true h,decide_eq_false (by omega)];rfl
  ·rw[decide_eq_false h,decide_eq_true (by omega)];rfl
 rw[hre]at h134
 have hrl:(selI (s.reach Q) Q.P.n).length≤7:=by rw[zay];have:=zbu (s.reach Q) Q.P.n;omega
 have hin:∀a∈selI (s.reach Q) Q.P.n,∃i:Nat,a=(i:Int)∧i<Q.P.n:=fun a ha=>by
  obtain⟨i,h,hi,_⟩:=zaz.1 ha
  exact⟨i,h,hi⟩
 obtain⟨L,h1,h2,h3⟩:=d195_ex (l:=selI (s.reach Q) Q.P.n) (cmp:=fun a_1 a_2=>d196 a_1 a_2 (lst (fun i=>((s.v Q i:Nat):Int)) Q.P.n) k) (g:=cmpM (s.v Q) Q.P.lots) (by omega) (zcm _ _) (fun a ha b hb=>by
  obtain⟨i,rfl,hi⟩:=hin a ha
  obtain⟨j,rfl,hj⟩:=hin b hb
  exact d196_eq hlo (zog hQ.P) hv hi hj) (fun a ha b hb hne=>by
  obtain⟨i,rfl,hi⟩:=hin a ha
  obtain⟨j,rfl,hj⟩:=hin b hb
  rw[zkp,zkp]
  exact zlf ((zog hQ.P).mem hi) fun e=>hne (by rw[e])) (fun a ha b hb d hd=>by
  obtain⟨i,rfl,hi⟩:=hin a ha
  obtain⟨j,rfl,hj⟩:=hin b hb
  obtain⟨m,rfl,hm⟩:=hin d hd
  rw[zkp,zkp,zkp]
  exact zle)
 have hLin:∀a∈L,∃i:Nat,a=(i:Int)∧i<Q.P.n:=fun a ha=>hin a (h2.mem_iff.1 ha)
 have hs:L.Pairwise fun a b=>zkr (s.v Q) Q.P.lots a b=true:=h3.imp_of_mem fun{a b} ha hb hab=>by
  obtain⟨i,rfl,hi⟩:=hLin a ha
  obtain⟨j,rfl,hj⟩:=hLin b hb
  exact(zkp _ _ _ _).1 hab
 have hLl:L.length≤7:=by rw[h2.length_eq];exact hrl
 have hmap:((L.take (Q.P.seats-s.fl Q)).map Int.toNat).map Int.ofNat=L.take (Q.P.seats-s.fl Q):=by
  rw[List.map_map]
  refine(xfp fun a ha=>?_).trans (List.map_id _)
  obtain⟨i,rfl,_⟩:=hLin a (xbv ha)
  rfl
 refine⟨(L.take (Q.P.seats-s.fl Q)).map Int.toNat,?_,by rw[hmap];exact el_perm hQ h2 hs⟩
 rw[hmap]
 unfold d160
 rw[show d161 k 0=_ from zkn hst (by omega) 0,Option.bind_some,h134,Option.bind_some,h1,Option.bind_some,hse,hfl,wsubN (by omega) (by omega)]
 by_cases hc:((Q.P.seats-s.fl Q:Nat):Int)<(L.length:Int)
 ·rw[decide_eq_true hc,cond_true]
  have hcut:zck 0 ((Q.P.seats-s.fl Q:Nat):Int) L.length=true:=by
   unfold zck
   simp only[xag,xaf]
   omega
  rw[hcut,cond_true,tn]
 ·rw[decide_eq_false hc,cond_false]
  have hcut:zck 0 (L.length:Int) L.length=true:=by
   unfold zck
   simp only[xag,xaf]
   omega
  rw[hcut,cond_true,tn,xbd,xan (by omega)]
theorem d60_eq{d:Nat}(h1:1≤d)(h6:d≤6):d60 (d:Int)=some ((10^(d/2):Nat):Int):=by
 have e:w (Int.tdiv (d:Int) 2)=((d/2:Nat):Int):=by
  have:Int.tdiv (d:Int) 2=((d/2:Nat):Int):=by
   rw[xdp (by omega)];rfl
  rw[this,zbi (by omega) (by omega)]
 unfold d60
 simp only[zae,decide_eq_false (show ¬(d:Int)<1 by omega),decide_eq_false (show ¬(6:Int)<(d:Int) by omega),xae,cond_true,cond_false,e,d111_eq (show d/2≤18 by omega),Option.bind_some]
theorem d61_eq{d:Nat}(h1:1≤d)(h6:d≤6):d61 (d:Int)=some ((10^(d/2):Nat):Int):=by
 have e:w (Int.tdiv (d:Int) 2)=((d/2:Nat):Int):=by
  have:Int.tdiv (d:Int) 2=((d/2:Nat):Int):=by
   rw[xdp (by omega)];rfl
  rw[this,zbi (by omega) (by omega)]
 unfold d61
 simp only[zae,decide_eq_false (show ¬(d:Int)<1 by omega),decide_eq_false (show ¬(6:Int)<(d:Int) by omega),xae,cond_true,cond_false,e,d114_eq (show d/2≤18 by omega),Option.bind_some]
inductive Bef(rs:List Rd)(b:Option Nat)(sur:Nat):Prop
 |start:rs=[]→b=none→Bef rs b sur
 |kept (rs':List Rd) (r:Rd):rs=rs'++[r]→r.ex=[]→b=some sur→Bef rs b sur
 |excl (rs':List Rd) (r:Rd):rs=rs'++[r]→r.ex≠ []→b=none→Bef rs b sur
theorem d162_eq{k:MT}{rs:List Rd}{d sur:Nat}(h1:1≤d)(h6:d≤6)(hk:k.1.2.2.2.2.2.1=(d:Int))(hrs:k.2.2.2.2.2.2.2.2.2.2.2.2.2.2.1=rs.map rdT)(hl:rs.length≤1000)(hsi:s.since≤rs.length)(hev:k.2.2.2.2.2.2.2.2.1=(rs.length:Int)-(s.since:Int))(hsu:k.2.2.2.2.2.2.2.2.2.1=(sur:Int))(hb:Bef rs s.bef sur)(hom:Q.om=10^(d/2)) :
  d162 k ((s.sur Q:Nat):Int) ((rs.length+1:Nat):Int)=some (s.stall Q):=by
 unfold d162 MS.stall
 have hw1:w (((rs.length+1:Nat):Int)-((rs.length:Int)-(s.since:Int)))=((s.since+1:Nat):Int):=by rw[zbi (by omega) (by omega)];omega
 simp only[zae,hk,d60_eq h1 h6,Option.bind_some,hev,hw1,hrs,xbe,hsu,←hom]
 by_cases c1:s.sur Q<Q.om
 ·rw[decide_eq_true (show((s.sur Q:Nat):Int)<((Q.om:Nat):Int) by omega),decide_eq_true c1];rfl
 rw[decide_eq_false (show ¬((s.sur Q:Nat):Int)<((Q.om:Nat):Int) by omega),decide_eq_false c1,xae,cond_true,xat]
 by_cases c2:60≤s.since+1
 ·rw[decide_eq_true (show(60:Int)≤((s.since+1:Nat):Int) by omega),decide_eq_true c2];rfl
 rw[decide_eq_false (show ¬(60:Int)≤((s.since+1:Nat):Int) by omega),decide_eq_false c2,cond_false,xat]
 have hget:∀(rs':List Rd) (r:Rd) (d0:RD),rs=rs'++[r]→(rs.map rdT).getD rs'.length d0=rdT r:=fun rs' r d0 e=>by
  rw[e,xcp,xab,xck (by simp),xbe,Nat.sub_self];rfl
 cases hb with
 |start e1 e2=>
  rw[e2,e1]
  have:w (((([]:List Rd).length:Nat):Int)-1)=-1:=by
   show w (-1)=-1
   exact zbi (by omega) (by omega)
  rw[this];rfl
 |kept rs' r e1 e2 e3=>
  have hlen:rs.length=rs'.length+1:=by rw[e1];simp
  rw[e3,hlen,zoz (by omega)]
  have hx:(rdT r).2.2.2.2.2.2.1=[]:=e2
  rw[d0le,cond_true,tn,dlt (show rs'.length<rs'.length+1 by omega),xac,cond_true,hget rs' r _ e1,hx]
  show some (decide ((sur:Int)≤((s.sur Q:Nat):Int)))=some (decide (sur≤s.sur Q))
  congr 1
  exact xca.2 (by omega)
 |excl rs' r e1 e2 e3=>
  have hlen:rs.length=rs'.length+1:=by rw[e1];simp
  rw[e3,hlen,zoz (by omega)]
  have hx:(rdT r).2.2.2.2.2.2.1=r.ex:=rfl
  have hpos:=xcg.2 e2
  rw[d0le,cond_true,tn,dlt (show rs'.length<rs'.length+1 by omega),xac,cond_true,hget rs' r _ e1,hx,decide_eq_false (show ¬((r.ex.length:Nat):Int)=0 by omega)]
  rfl
end Go.Proofs.YtmipjomnjkmdbaaGreat
namespace Go.Proofs.YtmipjomnjkmdbaaGreat
open Go Go.X
variable {Q:MP} {s:MS}
theorem getD_in{l:List Int}{P:Int→Prop}(h:∀x∈l,P x){j:Nat}(hj:j<l.length):P (l.getD j 0):=h _ (zbg hj)
set_option maxHeartbeats 1000000 in
theorem d163_eq(hQ:Q.OK)(hI:MI Q s){c:CT}(hc:c.2.2.2.2.2.2.1=Q.P.ties){gs:List Grp}{one filled:Int}{E:List (List Rat)}{rest:Int×(Int×(Int×(Int×(Int×(Int×(List RD×List Int))))))}(hE:∀r∈E,RndOK Q.P.n r)(hEl:E.length≤1000)(v kk:List Rt)(qu ex su:Rt)(el ex2 ti:List Int) :
  ∃x:Nat,x<Q.P.n∧s.pick Q E=(x:Int)∧d163 (c,gs,Q.P.lots,one,lst (fun i=>(s.st i:Int)) Q.P.n,lst (fun i=>(s.kp i:Int)) Q.P.n,filled,E.map (List.map rr),rest) (v,kk,qu,ex,su,el,ex2,ti) (lst (fun i=>((s.v Q i:Nat):Int)) Q.P.n) ((s.sur Q:Nat):Int)
   =some ((c,gs,Q.P.lots,one,lst (fun i=>((upd s.st x 2 i:Nat):Int)) Q.P.n,lst (fun i=>((upd s.kp x 0 i:Nat):Int)) Q.P.n,filled,E.map (List.map rr),rest),(v,kk,qu,ex,su,el,[(x:Int)],if(s.tied Q).length=1 then ti else s.tied Q)):=by
 obtain⟨x,x1,x2,x3⟩:=zix hI E
 refine⟨x,x2,x1,?_⟩
 have hn7:=hQ.P.n7
 have htl:=MS.tot_le hQ
 have hv:∀i,i<Q.P.n→s.v Q i≤100000000000:=fun i hi=>by
  have h1:=MS.v_le hQ hI hi
  omega
 have hsur:s.sur Q≤100000000000:=by
  have h1:=MS.sum_le hQ hI
  have h2:s.sur Q≤sumN (s.v Q) Q.P.n:=zgy fun i _=>by split<;>omega
  omega
 have hLn:∀y∈selI (fun i=>decide (s.st i=0)) Q.P.n,∃i:Nat,y=(i:Int)∧i<Q.P.n:=fun y hy=>by
  obtain⟨i,h,hi,_⟩:=zaz.1 hy
  exact⟨i,h,hi⟩
 have hne:selI (fun i=>decide (s.st i=0)) Q.P.n≠ []:=xfw (zaz.2 ⟨x,rfl,x2,decide_eq_true x3⟩)
 have hLl:(selI (fun i=>decide (s.st i=0)) Q.P.n).length≤7:=by
  rw[zay];have:=zbu (fun i=>decide (s.st i=0)) Q.P.n;omega
 have hmem:∀i,i<Q.P.n→(s.st i=0↔(i:Int)∈selI (fun i=>decide (s.st i=0)) Q.P.n):=fun i hi=>by
  rw[zaz]
  constructor
  ·intro h;exact⟨i,rfl,hi,decide_eq_true h⟩
  ·rintro⟨k,e,_,h⟩
   rw[xdi.1 e]
   exact of_decide_eq_true h
 have hnear:∀m:Nat,(∃y,y<Q.P.n∧s.st y=0∧m=s.v Q y)→(∀k,k<Q.P.n→s.st k=0→m≤s.v Q k)→(selI (fun i=>decide (s.st i=0)) Q.P.n).filter (fun c=>!decide (m+s.sur Q<s.v Q c.toNat))=s.tied Q:=fun m ⟨y,y1,y2,y3⟩ hm=>by
  rw[zge]
  refine zbk fun i hi=>?_
  unfold MS.near
  congr 1
  rw[xak,xfd,xcd,xgf,xav]
  constructor
  ·intro h k hk
   by_cases h5:s.st k=0
   ·have:=hm k (List.mem_range.1 hk) h5
    rw[xcw,xaf]
    exact .inr (by omega)
   ·simp[h5]
  ·intro h
   have:=h y (List.mem_range.2 y1)
   rw[decide_eq_true y2,xaj,xat,xaf]at this
   omega
 have h134:∀m:Nat,m≤100000000000→d134 (selI (fun i=>decide (s.st i=0)) Q.P.n) (fun a=>d197 a (lst (fun i=>((s.v Q i:Nat):Int)) Q.P.n) (m:Int) ((s.sur Q:Nat):Int))=some ((selI (fun i=>decide (s.st i=0)) Q.P.n).filter fun c=>!decide (m+s.sur Q<s.v Q c.toNat)):=fun m hm=>d134_eq (g:=fun c=>decide (m+s.sur Q<s.v Q c.toNat)) (fun y hy=>by
  obtain⟨i,rfl,hi⟩:=hLn y hy
  unfold d197
  simp only[d0le,zak,dlt hi,xac,cond_true,tn,zam (fun i=>((s.v Q i:Nat):Int)) hi,xak,wadd (show m+s.sur Q≤9223372036854775807 by omega)]
  congr 1
  exact xca.2 (by omega)) (by omega)
 unfold d163
 rw[show d161 (c,gs,Q.P.lots,one,lst (fun i=>(s.st i:Int)) Q.P.n,lst (fun i=>(s.kp i:Int)) Q.P.n,filled,E.map (List.map rr),rest) 0=_ from zkn (st:=s.st) (n:=Q.P.n) rfl (by omega) 0,Option.bind_some]
 simp only[show∀i,decide (s.st i=0)=decide (s.st i=0)from fun _=>rfl]
 generalize hLL:selI (fun i=>decide (s.st i=0)) Q.P.n=L at *
 have hpos:=xcg.2 hne
 obtain⟨y0,hy0,hy0n⟩:=getD_in hLn hpos
 have hy0m:(y0:Int)∈L:=by rw[←hy0];exact zbg hpos
 simp only[decide_eq_true (show(0:Int)<(L.length:Int) by omega),show decide ((0:Nat)≤0)=true from rfl,xac,cond_true,hy0,d0le,zak,dlt hy0n,tn,zam (fun i=>((s.v Q i:Nat):Int)) hy0n]
 refine zbj (Q:=fun z=>z=_) (fun(i:Nat) (st:MT×RD×(List Int)×Int×(List Int)×Int×Int×Int)=>∃m:Nat,st=((c,gs,Q.P.lots,one,lst (fun i=>(s.st i:Int)) Q.P.n,lst (fun i=>(s.kp i:Int)) Q.P.n,filled,E.map (List.map rr),rest),(v,kk,qu,ex,su,el,ex2,ti),lst (fun i=>((s.v Q i:Nat):Int)) Q.P.n,((s.sur Q:Nat):Int),L,(m:Int),(L.length:Int),(i:Int))∧(∃y,y<Q.P.n∧s.st y=0∧m=s.v Q y)∧∀j,j<i→∀y:Nat,L.getD j 0=(y:Int)→m≤s.v Q y) L.length ⟨s.v Q y0,rfl,⟨y0,hy0n,(hmem y0 hy0n).2 hy0m,rfl⟩,fun j hj=>by omega⟩ ?_ ?_
 ·rintro i st hi ⟨m,rfl,⟨y,y1,y2,y3⟩,hm⟩
  obtain⟨z,hz,hzn⟩:=getD_in hLn hi
  have hzm:(z:Int)∈L:=by rw[←hz];exact zbg hi
  refine⟨_,by simp only[dlt hi,d0le,xac,cond_true,tn,hz,zak,dlt hzn,zam (fun i=>((s.v Q i:Nat):Int)) hzn,zau (show i<9223372036854775807 by omega)];rfl,?_⟩
  by_cases hlt:s.v Q z<m
  ·refine⟨s.v Q z,by rw[dlt hlt];rfl,⟨z,hzn,(hmem z hzn).2 hzm,rfl⟩,fun j hj y' hy'=>?_⟩
   by_cases hji:j=i
   ·subst hji
    rw[hz]at hy'
    rw[xdi.1 hy']
    exact Nat.le_refl _
   ·have:=hm j (by omega) y' hy'
    omega
  ·refine⟨m,by rw[nlt (by omega)];rfl,⟨y,y1,y2,y3⟩,fun j hj y' hy'=>?_⟩
   by_cases hji:j=i
   ·subst hji
    rw[hz]at hy'
    rw[←xdi.1 hy']
    omega
   ·exact hm j (by omega) y' hy'
 ·rintro st ⟨m,rfl,hy,hm⟩
  refine⟨((c,gs,Q.P.lots,one,lst (fun i=>(s.st i:Int)) Q.P.n,lst (fun i=>(s.kp i:Int)) Q.P.n,filled,E.map (List.map rr),rest),(v,kk,qu,ex,su,el,ex2,ti),lst (fun i=>((s.v Q i:Nat):Int)) Q.P.n,((s.sur Q:Nat):Int),L,(m:Int)),by simp only[nlt (Nat.le_refl L.length),cond_false],?_⟩
  have hm2:∀k,k<Q.P.n→s.st k=0→m≤s.v Q k:=fun k hk h0=>by
   obtain⟨j,hj,e⟩:=xbu ((hmem k hk).1 h0)
   exact hm j hj k (by rw[xab,xad hj,e];rfl)
  have hmb:m≤100000000000:=by
   obtain⟨y,y1,_,y3⟩:=hy
   rw[y3];exact hv y y1
  have ht:=hnear m hy hm2
  have h134:=h134 m hmb
  rw[ht]at h134
  have htne:s.tied Q≠ []:=near_ne hI
  have htin:∀y∈s.tied Q,∃i:Nat,y=(i:Int)∧i<Q.P.n:=fun y hy=>by
   obtain⟨i,h,hi,_⟩:=zaz.1 hy
   exact⟨i,h,hi⟩
  have htl7:(s.tied Q).length≤7:=by
   unfold MS.tied
   rw[zay];have:=zbu (s.near Q) Q.P.n;omega
  have hset1:(lst (fun i=>(s.st i:Int)) Q.P.n).set x 2=lst (fun i=>((upd s.st x 2 i:Nat):Int)) Q.P.n:=by
   rw[zce]
   refine zao fun k _=>?_
   unfold upd
   split<;>rfl
  have hset2:(lst (fun i=>(s.kp i:Int)) Q.P.n).set x 0=lst (fun i=>((upd s.kp x 0 i:Nat):Int)) Q.P.n:=by
   rw[zce]
   refine zao fun k _=>?_
   unfold upd
   split<;>rfl
  obtain⟨b,hb155⟩:=d155_eq (n:=Q.P.n) (ties:=Q.P.ties) (E:=E) (tied:=s.tied Q) (lots:=Q.P.lots) (least:=true) hQ.P.ties1 hQ.P.ties3 (zog hQ.P) hE (by omega) htne (zdp _ _) htin (by omega)
  simp only[h134,Option.bind_some]
  unfold MS.pick at x1
  generalize s.tied Q=T at htne htl7 x1 hb155 ⊢
  obtain⟨z,T',hT'⟩:=List.exists_cons_of_ne_nil htne
  subst hT'
  simp only[xbo,decide_eq_true (show(0:Int)<((T'.length+1:Nat):Int) by omega),show decide ((0:Nat)≤0)=true from rfl,xac,cond_true,zae,hc,hb155,Option.bind_some,xel]
  rw[xbo]at x1
  by_cases hone:T'.length+1=1
  ·rw[if_pos hone,xhu]at x1
   simp only[if_pos hone,decide_eq_false (show ¬(1:Int)<((T'.length+1:Nat):Int) by omega),cond_false,x1,d0le,zak,dlt x2,xac,cond_true,tn,hset1,hset2]
  ·rw[if_neg hone]at x1
   simp only[if_neg hone,decide_eq_true (show(1:Int)<((T'.length+1:Nat):Int) by omega),cond_true,x1,d0le,zak,dlt x2,xac,tn,hset1,hset2]
theorem d164_eq(hQ:Q.OK)(hI:MI Q s){c:CT}{gs:List Grp}{lots:List Int}{filled:Int}{rest:List (List Rt)×(Int×(Int×(Int×(Int×(Int×(Int×(List RD×List Int)))))))} :
  d164 (c,gs,lots,(Q.one:Int),lst (fun i=>((s.st1 Q i:Nat):Int)) Q.P.n,lst (fun i=>(s.kp i:Int)) Q.P.n,filled,rest) (lst (fun i=>((s.v Q i:Nat):Int)) Q.P.n) ((s.quo Q:Nat):Int)
   =some (c,gs,lots,(Q.one:Int),lst (fun i=>((s.st1 Q i:Nat):Int)) Q.P.n,lst (fun i=>((s.kp1 Q i:Nat):Int)) Q.P.n,filled,rest):=by
 have hn7:=hQ.P.n7
 have htl:=MS.tot_le hQ
 have ho1:=hQ.one1
 have ho6:=hQ.one6
 have hv:∀i,i<Q.P.n→s.v Q i≤100000000000:=fun i hi=>by
  have h1:=MS.v_le hQ hI hi
  omega
 have hq:s.quo Q≤100000000001:=by
  have:=MS.quo_le hQ hI
  omega
 unfold d164
 rw[show d161 (c,gs,lots,(Q.one:Int),lst (fun i=>((s.st1 Q i:Nat):Int)) Q.P.n,lst (fun i=>(s.kp i:Int)) Q.P.n,filled,rest) 1=_ from zkn (st:=s.st1 Q) (n:=Q.P.n) rfl (by omega) 1,Option.bind_some]
 obtain⟨L,hL⟩:∃L,selN (fun i=>decide (s.st1 Q i=1)) Q.P.n=L:=⟨_,rfl⟩
 have hLi:selI (fun i=>decide (s.st1 Q i=1)) Q.P.n=L.map Int.ofNat:=by rw[←hL];rfl
 have hLn:∀i∈L,i<Q.P.n:=fun i hi=>(zfd.1 (by rw[hL];exact hi)).1
 have hLl:L.length≤7:=by rw[←hL,zgd];have:=zbu (fun i=>decide (s.st1 Q i=1)) Q.P.n;omega
 have hLd:L.Nodup:=by
  rw[←hL];unfold selN
  exact List.nodup_range.filter _
 have hmem:∀i,i<Q.P.n→(s.st1 Q i=1↔i∈L):=fun i hi=>by
  rw[←hL,zfd,xaf]
  exact⟨fun h=>⟨hi,h⟩,fun h=>h.2⟩
 obtain⟨nw,hnw⟩:∃nw:Nat→Nat,(fun i=>min Q.one (mup (mup (s.kp i*s.quo Q) Q.one*Q.one) (s.v Q i)))=nw:=⟨_,rfl⟩
 have hnwi:∀i,min Q.one (mup (mup (s.kp i*s.quo Q) Q.one*Q.one) (s.v Q i))=nw i:=fun i=>by rw[←hnw]
 rw[hLi]
 have hLm:(L.map Int.ofNat).length=L.length:=xbe ..
 simp only[show(L.map Int.ofNat).length=L.length from hLm]
 refine zad (fun j=>((c,gs,lots,(Q.one:Int),lst (fun i=>((s.st1 Q i:Nat):Int)) Q.P.n,lst (fun i=>((if i∈L.take j∧0<s.v Q i then nw i else s.kp i:Nat):Int)) Q.P.n,filled,rest),lst (fun i=>((s.v Q i:Nat):Int)) Q.P.n,((s.quo Q:Nat):Int),L.map Int.ofNat,(L.length:Int),(j:Int))) L.length ?_ (fun j hj=>?_) (b:=(c,gs,lots,(Q.one:Int),lst (fun i=>((s.st1 Q i:Nat):Int)) Q.P.n,lst (fun i=>((s.kp1 Q i:Nat):Int)) Q.P.n,filled,rest)) ?_ rfl
 ·simp only[xct,List.not_mem_nil,false_and,xcm]
  rfl
 ·obtain⟨x,hx⟩:∃x,L.getD j 0=x:=⟨_,rfl⟩
  have hxm:x∈L:=by
   rw[←hx,xab,xad hj]
   exact xbr hj
  have hxn:=hLn x hxm
  have hsg:(L.map Int.ofNat).getD j 0=(x:Int):=by
   rw[xab,xbm,xad hj,←hx,xab,xad hj];rfl
  have htk:L.take (j+1)=L.take j++[x]:=by rw[zbb L 0 hj,hx]
  have hxt:x∉L.take j:=fun h=>by
   have h2:(L.take (j+1)).Nodup:=hLd.sublist (xge _ _)
   rw[htk]at h2
   exact(xeh.1 h2).2.2 x h x (by simp) rfl
  have hkx:¬(x∈L.take j∧0<s.v Q x):=fun h=>hxt h.1
  have hvx:=hv x hxn
  have hk1:=hI.kp1 x
  have b1:s.kp x*s.quo Q≤1000000*100000000001:=Nat.mul_le_mul (by omega) hq
  have b2:mup (s.kp x*s.quo Q) Q.one≤s.quo Q:=mup_le ho1 (by rw[xbb];exact xby _ hk1)
  have b3:mup (s.kp x*s.quo Q) Q.one*Q.one≤100000000001*1000000:=Nat.mul_le_mul (by omega) ho6
  simp only[dlt hj,d0le,hLm,xac,cond_true,tn,hsg,zak,dlt hxn,zam (fun i=>((s.v Q i:Nat):Int)) hxn,zae,zau (show j<9223372036854775807 by omega),htk]
  by_cases h0:0<s.v Q x
  ·simp only[decide_eq_true (show(0:Int)<((s.v Q x:Nat):Int) by omega),cond_true,zam (fun i=>((if i∈L.take j∧0<s.v Q i then nw i else s.kp i:Nat):Int)) hxn,if_neg hkx,wmul (show s.kp x*s.quo Q≤9223372036854775807 by omega),zqp ho1 (show s.kp x*s.quo Q+Q.one≤4611686018427387904 by omega),Option.bind_some,wmul (show mup (s.kp x*s.quo Q) Q.one*Q.one≤9223372036854775807 by omega),zqp h0 (show mup (s.kp x*s.quo Q) Q.one*Q.one+s.v Q x≤4611686018427387904 by omega)]
   have hmin:(bif decide (((mup (mup (s.kp x*s.quo Q) Q.one*Q.one) (s.v Q x):Nat):Int)<(Q.one:Int))then((mup (mup (s.kp x*s.quo Q) Q.one*Q.one) (s.v Q x):Nat):Int)else(Q.one:Int))=((nw x:Nat):Int):=by
    rw[←hnwi]
    generalize mup (mup (s.kp x*s.quo Q) Q.one*Q.one) (s.v Q x)=y
    by_cases h:y<Q.one
    ·rw[dlt h,cond_true];omega
    ·rw[nlt (by omega),cond_false];omega
   have e:lst (upd (fun i=>((if i∈L.take j∧0<s.v Q i then nw i else s.kp i:Nat):Int)) x ((nw x:Nat):Int)) Q.P.n=lst (fun i=>((if i∈L.take j++[x]∧0<s.v Q i then nw i else s.kp i:Nat):Int)) Q.P.n:=zao fun i hi=>by
    unfold upd
    by_cases hix:i=x
    ·subst hix
     rw[if_pos rfl,if_pos ⟨by simp,h0⟩]
    ·rw[if_neg hix]
     have:(i∈L.take j++[x])↔i∈L.take j:=by simp[hix]
     simp only[this]
   rw[hmin,zce,e]
  ·simp only[decide_eq_false (show ¬(0:Int)<((s.v Q x:Nat):Int) by omega),cond_false]
   have e:lst (fun i=>((if i∈L.take j∧0<s.v Q i then nw i else s.kp i:Nat):Int)) Q.P.n=lst (fun i=>((if i∈L.take j++[x]∧0<s.v Q i then nw i else s.kp i:Nat):Int)) Q.P.n:=zao fun i hi=>by
    by_cases hix:i=x
    ·subst hix
     rw[if_neg hkx,if_neg fun h=>h0 h.2]
    ·have:(i∈L.take j++[x])↔i∈L.take j:=by simp[hix]
     simp only[this]
   rw[e]
 ·simp only[nlt (Nat.le_refl L.length),cond_false,xbd]
  have e:lst (fun i=>((if i∈L∧0<s.v Q i then nw i else s.kp i:Nat):Int)) Q.P.n=lst (fun i=>((s.kp1 Q i:Nat):Int)) Q.P.n:=zao fun i hi=>by
   unfold MS.kp1
   rw[hnwi]
   by_cases h:s.st1 Q i=1
   ·have:=(hmem i hi).1 h
    simp only[h,this,xfe]
   ·have:¬i∈L:=fun hm=>h ((hmem i hi).2 hm)
    simp only[h,this,false_and]
  rw[e]
end Go.Proofs.YtmipjomnjkmdbaaGreat
namespace Go.Proofs.YtmipjomnjkmdbaaGreat
open Go Go.X
theorem fit_any{m:Int}{c:CT}{gs:List Grp}{lots:List Int}(h:fitE m c gs lots=0):fitE 3 (c.1,c.2.1,3,c.2.2.2.1,c.2.2.2.2.1,0,c.2.2.2.2.2.2) gs lots=0:=by
 obtain⟨_,_,_,n1,n7,s1,s5,_,_,_,t1,t3,hp,ll,hB⟩:=zmz h
 exact zna (n:=c.2.1.length) ⟨rfl,rfl,s1,s5,fun h=>absurd h (by omega),fun h=>absurd h (by omega),fun _=>rfl,t1,t3⟩ (by omega) (by omega) n1 n7 hp ll hB
theorem gpOf_okM{m:Int}{c:CT}{gs:List Grp}{lots:List Int}(h:fitE m c gs lots=0):(gpOf c gs lots).OK∧(gpOf c gs lots).G≤1000000:=by
 have:=gpOf_ok (fit_any h)
 exact⟨this.1,this.2.1⟩
theorem lim_one{α:Type}{l:Nat}(h:l+1≤4294967296):decide ((l:Int)+((([]:List α).length+1:Nat):Int)≤LIM)=true:=zcg (l:=List.replicate l ()) (d:=()) (by simpa using h) |> fun h=>by simpa using h
end Go.Proofs.YtmipjomnjkmdbaaGreat
