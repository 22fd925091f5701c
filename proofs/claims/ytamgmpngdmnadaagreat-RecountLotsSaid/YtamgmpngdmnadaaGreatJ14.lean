/- A part of the proof. -/
import Derived.RangeFuncBox
import Derived.RangeFuncLeaves
import Derived.Shelf.Abstract
import Derived.Maps.AppendAt
import Derived.Shelf.SlIterI.Sorted
import Derived.Test.YtamgmpngdmnadaaGreatJ13
set_option linter.defProp false
set_option linter.unusedVariables false
set_option linter.unusedSimpArgs false
namespace Go.Proofs.YtamgmpngdmnadaaGreat
open Go Go.Proofs Go.X
open Tryz
set_option maxRecDepth 100000
noncomputable section
abbrev uf5:=(Bool×(List Int×List Int))
abbrev uf1:=(List uf5×(List uf5×(uf5×(uf5×(uf5×(List Int×(List Int×List Int)))))))
abbrev uf0:=(Int×(Int×(Int×(Int×(List uf1×List Int)))))
abbrev uf8:=(Bool×List Int)
abbrev uf4:=((Int×(Int×Int))×uf8)
abbrev uf3:=(List uf4)
abbrev uf6:=(List uf8)
abbrev uf9:=(List Bool)
abbrev uf10:=(List Int)
abbrev uf2:=(List Int×(List uf10×(Int×(Int×(Int×(Int×(Int×(Int×Int))))))))
abbrev uf7:=(List uf10)
def d45(n:Int):Option uf7:=(zac (β:=uf7) (λ((a,out,i):Int×uf7×Int)=>bif (decide (i<a))then bif (decide ((out.length:Int)+(([[(wu8 (w (97+i)))]]:List uf10).length:Int)<=LIM))then some (Sum.inl (a,(out++[[(wu8 (w (97+i)))]]),(w (i+1))))else none else some (Sum.inr out)) (n,[],0)).bind λ(b:List uf10)=>some b
def E45:=uqy 45 ⟨[(y2,.sh)],[(y22,(.own 9 .sh))]⟩ d45 func45 call45 [] (uqs (.seq zxi (.seq (uqs (.block (.loop [(0,uqa),(3,.v y22 (.own 9 .sh)),(4,uqa)] [(.brk 0,[(3,.v y22 (.own 9 .sh))])] (.seq zxh upap)))) zds)))
def d16(x:Int)(n:Int):Option Int:=bif (!decide (n=0))then bif (!decide (n=0))then some (w (Int.tmod (w ((w (Int.tmod x n))+n)) n))else none else none
def E16:=uqy 16 ⟨[(y2,.sh),(y2,.sh)],[(y2,.sh)]⟩ d16 func16 call16 [] zfy
def d17(method:Int)(n:Int)(seats:Int)(digits:Int)(ties:Int):Option uf2:=(d45 n).bind λr=>(d16 method 3).bind λa=>(d16 seats 5).bind λb=>(d16 ties 3).bind λe=>zbl (λ((f,c):uf2×uf2)=>zbl (λ((k,i):uf2×uf2)=>some i) λg=>bif (decide (c.2.2.1=1))then g (f,(c.1,c.2.1,c.2.2.1,1,c.2.2.2.2))else g (f,c)) λh=>bif (decide ((w (1+a))=2))then (d16 digits 6).bind λj=>h (([],[],0,0,0,0,0,0,0),([99],r,(w (1+a)),(w (1+b)),0,(w (1+j)),(w (1+e)),0,0))else h (([],[],0,0,0,0,0,0,0),([99],r,(w (1+a)),(w (1+b)),0,0,(w (1+e)),0,0))
def E17:=uqy 17 ⟨[(y2,.sh),(y2,.sh),(y2,.sh),(y2,.sh),(y2,.sh)],[(y23,.sh)]⟩ d17 func17 call17 [.fn E45,.fn E16] (uqs (.seq (.reg [] (uqk 11 [{frz:=[(13,[])]}])) (.join zxj ulai (.join zxj ulai zds))))
def d96(s:List Int)(v:Int):Option Bool:=(d180 s v).bind λr=>some (decide (0<=r))
def d53(l:List Int):Option Bool:=(zac (β:=Unit⊕Bool) (λ((c,b,e,a):uf10×uf10×Int×Int)=>bif (decide (a<e))then bif (decide (0<=a)&&decide (a<(b.length:Int)))then zbl (λ((g,h,i,j,k):uf10×uf10×Int×Int×Bool)=>bif k then some (Sum.inr (Sum.inr false))else some (Sum.inl (g,h,i,(w (j+1))))) λf=>bif !(decide ((b.getD a.toNat 0)<0))then bif !(decide (7<=(b.getD a.toNat 0)))then bif (zcr 0 a c.length)then (d96 (List.drop 0 (List.take a.toNat c)) (b.getD a.toNat 0)).bind λr=>f (c,b,e,a,r)else none else f (c,b,e,a,true)else f (c,b,e,a,true)else none else some (Sum.inr (Sum.inl ()))) (l,l,(l.length:Int),0)).bind λ
 |Sum.inl _=>some true
 |Sum.inr m=>some m
def d24(state:Int)(announced:List Int)(hand:List Int):Option (uf10×Bool×Int):=bif (decide (state=1))then some ([],false,16)else zbl (λ((g,a,b,i):Int×uf10×uf10×Bool)=>bif i then some ([],false,5)else zbl (λ((j,c,e,k):Int×uf10×uf10×Bool)=>bif k then some ([],false,8)else (bif decide ((c.length:Int)<=LIM)then some ()else none).bind λu=>(bif decide ((e.length:Int)<=LIM)then some ()else none).bind λn=>bif (decide (j=2))then some ((zcf c),false,0)else (d56 (zcf c) (zcf e)).bind λl=>some ((zcf e),!l,0)) λh=>(d53 a).bind λr=>bif !(!r)then (d53 b).bind λm=>h (g,a,b,!m)else h (g,a,b,true)) λf=>bif !(decide (state=2))then bif !(decide (state=3))then f (state,announced,hand,!(decide (state=4)))else f (state,announced,hand,false)else f (state,announced,hand,false)
def d58(a:List Int)(b:List Int):Option Bool:=(zac (β:=(uf10×uf10)⊕Bool) (λ((g,h,i):uf10×uf10×Int)=>zbl (λ((e,f,c,k):uf10×uf10×Int×Bool)=>bif k then bif (decide (0<=c)&&decide (c<(e.length:Int)))then bif (decide (0<=c)&&decide (c<(f.length:Int)))then bif !(decide ((e.getD c.toNat 0)=(f.getD c.toNat 0)))then bif (decide (0<=c)&&decide (c<(e.length:Int)))then bif (decide (0<=c)&&decide (c<(f.length:Int)))then some (Sum.inr (Sum.inr (decide ((e.getD c.toNat 0)<(f.getD c.toNat 0)))))else none else none else some (Sum.inl (e,f,(w (c+1))))else none else none else some (Sum.inr (Sum.inl (e,f)))) λj=>bif (decide (i<(g.length:Int)))then j (g,h,i,(decide (i<(h.length:Int))))else j (g,h,i,false)) (a,b,0)).bind λ
 |Sum.inl (l,m)=>some (decide ((l.length:Int)<(m.length:Int)))
 |Sum.inr n=>some n
def E58:=uqy 58 ⟨[(y26,.bw),(y26,.bw)],[(y4,.sh)]⟩ d58 func58 call58 [] (uqs (.seq (uqs (.block (.loop [(0,uqb),(1,uqb),(5,uqa)] [(.brk 0,[(0,uqb),(1,uqb)]),(.ret,[(4,uqc)])] (.seq (.join uqr [(0,uqb),(1,uqb),(5,uqa),(15,uqc)] zfh) (.seq (.block zkl) uqr))))) zds))
def d26(a:List Int)(b:List Int):Option Bool:=(d58 a b).bind λr=>bif !r then (d58 b a).bind λc=>some (!c)else some false
def E26:=uqy 26 ⟨[(y26,.bw),(y26,.bw)],[(y4,.sh)]⟩ d26 func26 call26 [.fn E58] zfy
def d15:Option Bool:=(d17 0 2 0 0 0).bind λr=>(d20 r [(false,[1]),(true,[]),(false,[1,0])] [0,1]).bind λb=>(d24 3 [0] b.1.2.2.2.2.2).bind λa=>bif (decide (b.2=0))then bif (decide (a.2.2=0))then bif a.2.1 then (d26 a.1 [1]).bind λc=>some c else some false else some false else some false
def d46(l:List Int)(x:Int):Option Bool:=(zac (β:=Unit⊕Bool) (λ((a,b,i):uf10×Int×Int)=>bif (decide (i<(a.length:Int)))then bif (decide (0<=i)&&decide (i<(a.length:Int)))then bif (decide ((a.getD i.toNat 0)=b))then some (Sum.inr (Sum.inr true))else some (Sum.inl (a,b,(w (i+1))))else none else some (Sum.inr (Sum.inl ()))) (l,x,0)).bind λ
 |Sum.inl _=>some false
 |Sum.inr c=>some c
def E46:=uqy 46 ⟨[(y26,.bw),(y2,.sh)],[(y4,.sh)]⟩ d46 func46 call46 [] (uqs (.seq (uqs (.block (.loop [(0,uqb),(1,uqa),(5,uqa)] uxaa upar))) zds))
def d19(n:Int)(l:List Int):Option uf10:=(zac (β:=uf10) (λ((e,f,out,i):Int×uf10×uf10×Int)=>zbl (λ((g,c,a,b,k):Int×uf10×uf10×Int×Bool)=>bif k then zbl (λ((m,o,p,q):Int×uf10×uf10×Int)=>some (Sum.inl (m,o,p,(w (q+1))))) λh=>bif (decide (0<=b)&&decide (b<(c.length:Int)))then (d16 (c.getD b.toNat 0) g).bind λr=>(d46 a r).bind λs=>bif !s then bif (decide ((a.length:Int)+(([r]:List Int).length:Int)<=LIM))then h (g,c,(a++[r]),b)else none else h (g,c,a,b)else none else some (Sum.inr a)) λj=>bif (decide (i<(f.length:Int)))then j (e,f,out,i,(decide ((out.length:Int)<e)))else j (e,f,out,i,false)) (n,l,[],0)).bind λ(t:List Int)=>some t
def E19:=uqy 19 ⟨[(y2,.sh),(y26,.bw)],[(y26,zmk)]⟩ d19 func19 call19 [.fn E16,.fn E46] (uqs (.seq zxi (.seq (uqs (.block (.loop [(0,uqa),(1,uqb),(5,uqd),(6,uqa)] [(.brk 0,[(5,uqd)])] (.seq (.join uqr [(0,uqa),(1,uqb),(5,uqd),(6,uqa),(17,uqc)] zfh) (.join upau [(0,uqa),(1,uqb),(5,uqd),(6,uqa)] uqr))))) zds)))
def d23(l:List Int):Option uf10:=(zac (β:=uf10) (λ((a,out,x):uf10×uf10×Int)=>bif (decide (x<12))then zbl (λ((c,e,f):uf10×uf10×Int)=>some (Sum.inl (c,e,(w (f+1))))) λb=>(d46 a x).bind λr=>bif r then bif (decide ((out.length:Int)+(([x]:List Int).length:Int)<=LIM))then b (a,(out++[x]),x)else none else b (a,out,x)else some (Sum.inr out)) (l,[],0)).bind λ(g:List Int)=>some g
def d41(n:Int)(p:List Int):Option Bool:=(zac (β:=Unit⊕Bool) (λ((b,a,i):Int×uf10×Int)=>bif (decide (i<(a.length:Int)))then zbl (λ((e,f,g,h):Int×uf10×Int×Bool)=>bif h then some (Sum.inr (Sum.inr false))else some (Sum.inl (e,f,(w (g+1))))) λc=>bif (decide (0<=i)&&decide (i<(a.length:Int)))then bif !(decide ((a.getD i.toNat 0)<0))then bif (decide (0<=i)&&decide (i<(a.length:Int)))then bif !(decide (b<=(a.getD i.toNat 0)))then bif (zcr 0 i a.length)then bif (decide (0<=i)&&decide (i<(a.length:Int)))then (d46 (List.drop 0 (List.take i.toNat a)) (a.getD i.toNat 0)).bind λr=>c (b,a,i,r)else none else none else c (b,a,i,true)else none else c (b,a,i,true)else none else some (Sum.inr (Sum.inl ()))) (n,p,0)).bind λ
 |Sum.inl _=>some true
 |Sum.inr j=>some j
def E41:=uqy 41 ⟨[(y2,.sh),(y26,.bw)],[(y4,.sh)]⟩ d41 func41 call41 [.fn E46] (uqs (.seq (uqs (.block (.loop [(0,uqa),(1,uqb),(5,uqa)] uxaa (.seq zxh (.seq (.block (.join uqr [(0,uqa),(1,uqb),(5,uqa),(34,uqc)] zut)) uqr))))) zds))
def d57(l:List Int):Option uf10:=(zac (β:=uf10) (λ((a,out,x):uf10×uf10×Int)=>bif (decide (x<7))then zbl (λ((c,e,f):uf10×uf10×Int)=>some (Sum.inl (c,e,(w (f+1))))) λb=>(d46 a x).bind λr=>bif r then bif (decide ((out.length:Int)+(([x]:List Int).length:Int)<=LIM))then b (a,(out++[x]),x)else none else b (a,out,x)else some (Sum.inr out)) (l,[],0)).bind λ(g:List Int)=>some g
def d25(state:Int)(announced:List Int)(hand:List Int):Option (uf10×Bool×Int):=bif (decide (state=1))then some ([],false,16)else zbl (λ((e,a,b,i):Int×uf10×uf10×Bool)=>bif i then some ([],false,5)else zbl (λ((j,k,l,m):Int×uf10×uf10×Bool)=>bif m then some ([],false,8)else (d57 k).bind λf=>(d57 l).bind λg=>bif (decide (j=2))then some (f,false,0)else (d26 f g).bind λn=>some (g,!n,0)) λh=>(d41 7 a).bind λr=>bif !(!r)then (d41 7 b).bind λo=>h (e,a,b,!o)else h (e,a,b,true)) λc=>bif !(decide (state=2))then bif !(decide (state=3))then c (state,announced,hand,!(decide (state=4)))else c (state,announced,hand,false)else c (state,announced,hand,false)
def d4(p0:Int)(p1:List Int)(p2:List Int)(p3:Bool):Option Bool:=zbl (λ((f,g,h,n,o):Int×uf10×uf10×Bool×Bool)=>bif o then (d15).bind λr=>some r else zbl (λ((i,j,k):Int×uf10×uf10)=>(d24 i j k).bind λb=>(d25 i j k).bind λc=>(d15).bind λp=>bif p then bif (decide (b.2.2=c.2.2))then bif (b.2.1 == c.2.1)then (d26 b.1 c.1).bind λq=>some q else some false else some false else some false) λe=>bif !n then (d16 f 6).bind λl=>(d19 7 g).bind λa=>(d19 7 h).bind λs=>bif (decide ((w (Int.tmod (a.length:Int) 2))=0))then (d23 a).bind λt=>e (l,a,t)else e (l,a,s)else e (f,g,h)) λm=>bif !(decide (9<(p1.length:Int)))then m (p0,p1,p2,p3,(decide (9<(p2.length:Int))))else m (p0,p1,p2,p3,true)
def d60(n:Int)(l:List uf10)(most:Int):Option uf7:=(zac (β:=uf7) (λ((g,c,e,out,i):Int×uf7×Int×uf7×Int)=>zbl (λ((h,b,k,f,a,m):Int×uf7×Int×uf7×Int×Bool)=>bif m then bif (decide (0<=a)&&decide (a<(b.length:Int)))then bif (decide (0<=a)&&decide (a<(b.length:Int)))then bif (zcr 0 (bif (decide (12<((b.getD a.toNat []).length:Int)))then 12 else((b.getD a.toNat []).length:Int)) (b.getD a.toNat []).length)then (d19 h (List.drop 0 (List.take (Int.toNat (bif (decide (12<((b.getD a.toNat []).length:Int)))then 12 else((b.getD a.toNat []).length:Int))) (b.getD a.toNat [])))).bind λr=>bif (decide ((f.length:Int)+(([r]:List uf10).length:Int)<=LIM))then some (Sum.inl (h,b,k,(f++[r]),(w (a+1))))else none else none else none else none else some (Sum.inr f)) λj=>bif (decide (i<(c.length:Int)))then j (g,c,e,out,i,(decide (i<e)))else j (g,c,e,out,i,false)) (n,l,most,[],0)).bind λ(o:List uf10)=>some o
def E60:=uqy 60 ⟨[(y2,.sh),(y48,.bw),(y2,.sh)],[(y48,umaw)]⟩ d60 func60 call60 [.fn E19] (uqs (.seq zxi (.seq (uqs (.block (.loop [(0,uqa),(1,.v y48 .bw),(2,uqa),ujao,(8,uqa)] [(.brk 0,[ujao])] (.seq (.join uqr [(0,uqa),(1,.v y48 .bw),(2,uqa),ujao,(8,uqa),(17,uqc)] zfh) (.seq (.block (.reg [] (uqk 14 [{frz:=[(33,[])]}]))) uqr))))) zds)))
def d28(n:Int)(l:List uf10)(phantoms:List Bool)(most:Int):Option uf3:=(d60 n l most).bind λr=>(zac (β:=uf3) (λ((c,out,b,i):uf9×uf3×uf7×Int)=>bif (decide (i<(b.length:Int)))then zbl (λ((k,m,o,p):uf9×uf3×uf7×Int)=>some (Sum.inl (k,m,o,(w (p+1))))) λg=>zbl (λ((h,f,e,a,q):uf9×uf3×uf7×Int×Bool)=>bif q then bif (decide ((f.length:Int)+(([((0,0,0),true,[])]:List uf4).length:Int)<=LIM))then g (h,(f++[((0,0,0),true,[])]),e,a)else none else bif (decide (0<=a)&&decide (a<(e.length:Int)))then bif (decide ((f.length:Int)+(([((1,(w (1+(w (Int.tdiv a 16)))),(w (Int.tmod a 16))),false,(e.getD a.toNat []))]:List uf4).length:Int)<=LIM))then g (h,(f++[((1,(w (1+(w (Int.tdiv a 16)))),(w (Int.tmod a 16))),false,(e.getD a.toNat []))]),e,a)else none else none) λj=>bif (decide (i<(c.length:Int)))then bif (decide (0<=i)&&decide (i<(c.length:Int)))then j (c,out,b,i,(c.getD i.toNat false))else none else j (c,out,b,i,false)else some (Sum.inr out)) (phantoms,[],r,0)).bind λ(s:List uf4)=>some s
def d59(l:List Int)(n:Int):Option uf10:=bif (zcr 0 (bif (decide (n<(l.length:Int)))then n else(l.length:Int)) l.length)then some (List.drop 0 (List.take (Int.toNat (bif (decide (n<(l.length:Int)))then n else(l.length:Int))) l))else none
def d27(n:Int)(items:List uf4)(changed:List uf10)(missing:List Bool):Option uf6:=(zac (β:=uf6) (λ((j,c,f,k,out,i):Int×uf3×uf7×uf9×uf6×Int)=>bif (decide (i<(c.length:Int)))then bif (decide (0<=i)&&decide (i<(c.length:Int)))then zbl (λ((l,m,o,g,q,e,s):Int×uf3×uf7×uf9×uf6×Int×uf8)=>zbl (λ((ak,al,am,an,t,ao,u):Int×uf3×uf7×uf9×uf6×Int×uf8)=>bif (decide ((t.length:Int)+(([u]:List uf8).length:Int)<=LIM))then some (Sum.inl (ak,al,am,an,(t++[u]),(w (ao+1))))else none) λv=>zbl (λ((x,y,z,aa,ab,ac,ap,aq):Int×uf3×uf7×uf9×uf6×Int×uf8×Bool)=>bif aq then v (x,y,z,aa,ab,ac,(true,[]))else v (x,y,z,aa,ab,ac,ap)) λae=>bif (decide (e<(g.length:Int)))then bif (decide (0<=e)&&decide (e<(g.length:Int)))then ae (l,m,o,g,q,e,s,(g.getD e.toNat false))else none else ae (l,m,o,g,q,e,s,false)) λaf=>zbl (λ((h,ag,b,ah,ai,a,p,ar):Int×uf3×uf7×uf9×uf6×Int×uf8×Bool)=>bif ar then bif (decide (0<=a)&&decide (a<(b.length:Int)))then bif (zcr 1 ((b.getD a.toNat []).length:Int) (b.getD a.toNat []).length)then (d59 (List.drop 1 (List.take (Int.toNat ((b.getD a.toNat []).length:Int)) (b.getD a.toNat []))) 8).bind λr=>(d19 h r).bind λau=>af (h,ag,b,ah,ai,a,(p.1,au))else none else none else af (h,ag,b,ah,ai,a,p)) λaj=>bif (decide (i<(f.length:Int)))then bif (decide (0<=i)&&decide (i<(f.length:Int)))then aj (j,c,f,k,out,i,(false,((c.getD i.toNat ((0,0,0),false,[])).2).2),(decide (0<((f.getD i.toNat []).length:Int))))else none else aj (j,c,f,k,out,i,(false,((c.getD i.toNat ((0,0,0),false,[])).2).2),false)else none else some (Sum.inr out)) (n,items,changed,missing,[],0)).bind λ(av:List uf8)=>some av
def d18(n:Int)(c:Int):Option uf10:=(zac (β:=uf10) (λ((a,b,out,i):Int×Int×uf10×Int)=>bif (decide (i<a))then (d16 b (w (i+1))).bind λr=>bif (!decide ((w (i+1))=0))then bif (zcr 0 r out.length)then bif (decide ((([]:List Int).length:Int)+((List.drop 0 (List.take r.toNat out)).length:Int)<=LIM))then bif (decide (((List.drop 0 (List.take r.toNat out)).length:Int)+(([i]:List Int).length:Int)<=LIM))then bif (zcr r (out.length:Int) out.length)then bif (decide ((((List.drop 0 (List.take r.toNat out))++[i]).length:Int)+((List.drop r.toNat (List.take (Int.toNat (out.length:Int)) out)).length:Int)<=LIM))then some (Sum.inl (a,(w (Int.tdiv b (w (i+1)))),(((List.drop 0 (List.take r.toNat out))++[i])++(List.drop r.toNat (List.take (Int.toNat (out.length:Int)) out))),(w (i+1))))else none else none else none else none else none else none else some (Sum.inr out)) (n,c,[],0)).bind λ(e:List Int)=>some e
def E18:=uqy 18 ⟨[(y2,.sh),(y2,.sh)],[(y26,zmk)]⟩ d18 func18 call18 [.fn E16] (uqs (.seq zxi (.seq (uqs (.block (.loop [(0,uqa),(1,uqa),(5,uqd),(6,uqa)] [(.brk 0,[(5,uqd)])] (.seq zxh (.seq (.block (uqs (uqs (.reg [(5,[])] [])))) uqr))))) zds)))
def d178(a:List uf5)(b:List uf5):Option Bool:=bif !(decide ((a.length:Int)=(b.length:Int)))then some false else (zac (β:=Unit⊕Bool) (λ((c,e,i):(List uf5)×(List uf5)×Int)=>bif (decide (i<(c.length:Int)))then bif (decide (0<=i)&&decide (i<(c.length:Int)))then bif (decide (0<=i)&&decide (i<(e.length:Int)))then (d179 (c.getD i.toNat (false,[],[])) (e.getD i.toNat (false,[],[]))).bind λr=>bif !r then some (Sum.inr (Sum.inr false))else some (Sum.inl (c,e,(w (i+1))))else none else none else some (Sum.inr (Sum.inl ()))) (a,b,0)).bind λ
  |Sum.inl _=>some true
  |Sum.inr f=>some f
def E178:=uqy 178 ⟨[(y97,.bw),(y97,.bw)],[(y4,.sh)]⟩ d178 func178 call178 [.fn E179] (uqs (.seq zkl (.seq (uqs (.block (.loop [(0,.v y97 .bw),(1,.v y97 .bw),(5,uqa)] uxaa upar))) zds)))
def d95(a:uf1)(b:uf1):Option Bool:=(d178 a.1 b.1).bind λr=>bif r then (d178 a.2.1 b.2.1).bind λc=>bif c then (d179 a.2.2.1 b.2.2.1).bind λe=>bif e then (d179 a.2.2.2.1 b.2.2.2.1).bind λf=>bif f then (d179 a.2.2.2.2.1 b.2.2.2.2.1).bind λg=>bif g then (d26 a.2.2.2.2.2.1 b.2.2.2.2.2.1).bind λh=>bif h then (d26 a.2.2.2.2.2.2.1 b.2.2.2.2.2.2.1).bind λi=>bif i then (d26 a.2.2.2.2.2.2.2 b.2.2.2.2.2.2.2).bind λj=>some j else some false else some false else some false else some false else some false else some false else some false
def E95:=uqy 95 ⟨[(y103,.bw),(y103,.bw)],[(y4,.sh)]⟩ d95 func95 call95 [.fn E178,.fn E179,.fn E26] zfy
def d52(p0:uf0)(p1:uf0):Option Bool:=zbl (λ((f,g,h):uf0×uf0×Bool)=>bif h then some false else (zac (β:=Unit⊕Bool) (λ((c,e,a):uf0×uf0×Int)=>bif (decide (a<(c.2.2.2.2.1.length:Int)))then bif (decide (0<=a)&&decide (a<(c.2.2.2.2.1.length:Int)))then bif (decide (0<=a)&&decide (a<(e.2.2.2.2.1.length:Int)))then (d95 (c.2.2.2.2.1.getD a.toNat ([],[],(false,[],[]),(false,[],[]),(false,[],[]),[],[],[])) (e.2.2.2.2.1.getD a.toNat ([],[],(false,[],[]),(false,[],[]),(false,[],[]),[],[],[]))).bind λi=>bif !i then some (Sum.inr (Sum.inr false))else some (Sum.inl (c,e,(w (a+1))))else none else none else some (Sum.inr (Sum.inl ()))) (f,g,0)).bind λ
    |Sum.inl _=>some true
    |Sum.inr j=>some j) λb=>bif !(!(decide (p0.1=p1.1)))then bif !(!(decide (p0.2.1=p1.2.1)))then bif !(!(decide (p0.2.2.1=p1.2.2.1)))then bif !(!(decide (p0.2.2.2.1=p1.2.2.2.1)))then (d26 p0.2.2.2.2.2 p1.2.2.2.2.2).bind λr=>bif !(!r)then b (p0,p1,!(decide ((p0.2.2.2.2.1.length:Int)=(p1.2.2.2.2.1.length:Int))))else b (p0,p1,true)else b (p0,p1,true)else b (p0,p1,true)else b (p0,p1,true)else b (p0,p1,true)
def E52:=uqy 52 ⟨[(y36,.bw),(y36,.bw)],[(y4,.sh)]⟩ d52 func52 call52 [.fn E26,.fn E95] (uqs (.seq (.join uqr [(2,.v (.ptr y36) umap),(3,.v (.ptr y36) umap),(48,uqc)] zut) (.seq (uqs (.block (.loop [(2,.v (.ptr y36) umap),(3,.v (.ptr y36) umap),(5,uqa)] uxaa upar))) zds)))
def d22(a:uf0)(b:uf0):Option Bool:=(d52 a b).bind λr=>some r
def E22:=uqy 22 ⟨[(y36,.bw),(y36,.bw)],[(y4,.sh)]⟩ d22 func22 call22 [.fn E52] zfy
def d5(p0:Int)(p1:Int)(p2:Int)(p3:Int)(p4:Int)(p5:Int)(p6:Int)(p7:List uf10)(p8:List Bool):Option Bool:=(d16 p0 5).bind λr=>(d16 p3 3).bind λn=>(d17 p1 (w (1+r)) p2 n p4).bind λo=>(d28 (w (1+r)) p7 [] 12).bind λp=>(d27 (w (1+r)) p [] p8).bind λg=>(d18 (g.length:Int) p6).bind λq=>(zac (β:=(Int×Int×uf2×uf6×uf6)) (λ((h,i,j,c,b,e,a):Int×Int×uf2×uf6×uf10×uf6×Int)=>bif (decide (a<(b.length:Int)))then bif (decide (0<=a)&&decide (a<(b.length:Int)))then bif (decide (0<=(b.getD a.toNat 0))&&decide ((b.getD a.toNat 0)<(c.length:Int)))then bif (decide ((e.length:Int)+(([(c.getD (Int.toNat (b.getD a.toNat 0)) (false,[]))]:List uf8).length:Int)<=LIM))then some (Sum.inl (h,i,j,c,b,(e++[(c.getD (Int.toNat (b.getD a.toNat 0)) (false,[]))]),(w (a+1))))else none else none else none else some (Sum.inr (h,i,j,c,e))) ((w (1+r)),p5,o,g,q,[],0)).bind λ((s,t,k,u,v):Int×Int×uf2×uf6×uf6)=>(d18 s t).bind λl=>(d20 k u l).bind λf=>(d20 k v l).bind λm=>(d15).bind λx=>bif x then bif (decide (f.2=0))then bif (decide (m.2=0))then bif (decide (0<(f.1.2.2.2.2.1.length:Int)))then (d22 f.1 m.1).bind λy=>some y else some false else some false else some false else some false
def d14(l:List uf8):Option Bool:=(zac (β:=uf6⊕Bool) (λ((a,i):uf6×Int)=>bif (decide (i<(a.length:Int)))then bif (decide (0<=i)&&decide (i<(a.length:Int)))then bif (decide (9<(((a.getD i.toNat (false,[])).2).length:Int)))then some (Sum.inr (Sum.inr false))else some (Sum.inl (a,(w (i+1))))else none else some (Sum.inr (Sum.inl a))) (l,0)).bind λ
 |Sum.inl b=>some (decide ((b.length:Int)<=30))
 |Sum.inr c=>some c
def d29(items:List uf4)(papers:List uf8):Option (Int×Int×Int×Int):=zbl (λ((v,j,same,different,missing,x):uf3×uf6×Int×Int×Int×Bool)=>bif x then some (0,0,0,7)else (zac (β:=(Int×Int×Int)) (λ((c,e,f,g,b,h,a):uf3×Int×Int×Int×uf6×Int×Int)=>bif (decide (a<h))then zbl (λ((y,z,aa,ab,ac,ae,af):uf3×Int×Int×Int×uf6×Int×Int)=>some (Sum.inl (y,z,aa,ab,ac,ae,(w (af+1))))) λi=>bif (decide (0<=a)&&decide (a<(b.length:Int)))then bif (b.getD a.toNat (false,[])).1 then i (c,e,f,(w (g+1)),b,h,a)else zbl (λ((k,l,m,n,p,o,q,s,ag):uf3×Int×Int×Int×uf8×uf6×Int×Int×Bool)=>bif ag then i (k,l,(w (m+1)),n,o,q,s)else i (k,(w (l+1)),m,n,o,q,s)) λt=>bif (decide (0<=a)&&decide (a<(c.length:Int)))then bif !(((c.getD a.toNat ((0,0,0),false,[])).2).1)then bif (decide (0<=a)&&decide (a<(c.length:Int)))then (d56 (((c.getD a.toNat ((0,0,0),false,[])).2).2) ((b.getD a.toNat (false,[])).2)).bind λr=>t (c,e,f,g,(b.getD a.toNat (false,[])),b,h,a,!r)else none else t (c,e,f,g,(b.getD a.toNat (false,[])),b,h,a,true)else none else none else some (Sum.inr (e,f,g))) (v,same,different,missing,j,(j.length:Int),0)).bind λ((ah,ai,aj):Int×Int×Int)=>some (ah,ai,aj,0)) λu=>bif !(!(decide ((papers.length:Int)=(items.length:Int))))then u (items,papers,0,0,0,(decide (1024<(items.length:Int))))else u (items,papers,0,0,0,true)
def d30(items:List uf4)(papers:List uf8):Option (Int×Int×Int×Int):=zbl (λ((n,o,p):uf3×uf6×Bool)=>bif p then some (0,0,0,7)else (zac (β:=(Int×Int×Int)) (λ((a,b,same,different,missing,i):uf3×uf6×Int×Int×Int×Int)=>bif (decide (i<(a.length:Int)))then zbl (λ((q,s,t,u,v,x):uf3×uf6×Int×Int×Int×Int)=>some (Sum.inl (q,s,t,u,v,(w (x+1))))) λc=>bif (decide (0<=i)&&decide (i<(b.length:Int)))then bif (b.getD i.toNat (false,[])).1 then c (a,b,same,different,(w (missing+1)),i)else zbl (λ((e,f,g,h,j,k,y):uf3×uf6×Int×Int×Int×Int×Bool)=>bif y then c (e,f,g,(w (h+1)),j,k)else c (e,f,(w (g+1)),h,j,k)) λl=>bif (decide (0<=i)&&decide (i<(a.length:Int)))then bif !(((a.getD i.toNat ((0,0,0),false,[])).2).1)then bif (decide (0<=i)&&decide (i<(a.length:Int)))then bif (decide (0<=i)&&decide (i<(b.length:Int)))then (d26 (((a.getD i.toNat ((0,0,0),false,[])).2).2) ((b.getD i.toNat (false,[])).2)).bind λr=>l (a,b,same,different,missing,i,!r)else none else none else l (a,b,same,different,missing,i,true)else none else none else some (Sum.inr (same,different,missing))) (n,o,0,0,0,0)).bind λ((z,aa,ab):Int×Int×Int)=>some (z,aa,ab,0)) λm=>bif !(!(decide ((items.length:Int)=(papers.length:Int))))then m (items,papers,(decide (1024<(items.length:Int))))else m (items,papers,true)
def d6(p0:List uf4)(p1:List uf8)(p2:Bool)(p3:Int)(p4:List uf10)(p5:List uf10)(p6:List Bool)(p7:List Bool):Option Bool:=zbl (λ((t,u,v,x,y,z,aa,ab,ac):uf3×uf6×Bool×Int×uf7×uf7×uf9×uf9×Bool)=>bif ac then (d15).bind λae=>some ae else (zac (β:=(uf3×uf6×Bool×Int×uf7×uf7×uf9×uf9)⊕Bool) (λ((b,g,h,i,j,k,l,m,c):uf3×uf6×Bool×Int×uf7×uf7×uf9×uf9×Int)=>bif (decide (c<(b.length:Int)))then bif (decide (0<=c)&&decide (c<(b.length:Int)))then bif (decide (9<((((b.getD c.toNat ((0,0,0),false,[])).2).2).length:Int)))then (d15).bind λaf=>some (Sum.inr (Sum.inr af))else some (Sum.inl (b,g,h,i,j,k,l,m,(w (c+1))))else none else some (Sum.inr (Sum.inl (b,g,h,i,j,k,l,m)))) (t,u,v,x,y,z,aa,ab,0)).bind λ
    |Sum.inl (ag,ah,ai,aj,ak,al,am,an)=>zbl (λ((f,n):uf3×uf6)=>(d29 f n).bind λa=>(d30 f n).bind λe=>(d15).bind λao=>bif ao then bif (decide (a.1=e.1))then bif (decide (a.2.1=e.2.1))then bif (decide (a.2.2.1=e.2.2.1))then bif (decide (a.2.2.2=e.2.2.2))then bif !(!(decide (a.2.2.2=0)))then some (decide ((w ((w (a.1+a.2.1))+a.2.2.1))=(f.length:Int)))else some true else some false else some false else some false else some false else some false) λo=>bif !ai then (d16 aj 5).bind λp=>(d28 (w (1+p)) ak am 20).bind λq=>(d27 (w (1+p)) q al an).bind λap=>o (q,ap)else o (ag,ah)
    |Sum.inr aq=>some aq) λs=>(d14 p1).bind λr=>bif !(!r)then s (p0,p1,p2,p3,p4,p5,p6,p7,(decide (30<(p0.length:Int))))else s (p0,p1,p2,p3,p4,p5,p6,p7,true)
end
def zqq{n:Int}(h0:-9223372036854775808<=n)(h1:n<=9223372036854775807):w n=n:=IntWalk.i64_in n ⟨h0,h1⟩
def wt_int{n:Int}(h:WT (.int .i64) n):-9223372036854775808<=n/\n<=9223372036854775807:=by have h':IntKind.i64.wrap n=n:=h;rw[IntKind.wrap_i64]at h';omega
def wt_len{l:List Int}(h:WT (.slice (.int .i64)) l):l.length<=281474976710656:=h.1
def while_up{α β:Type}{f:α->Option (α⊕β)}(st:Nat->α){b:β}:∀(n:Nat),(∀i,i<n->f (st i)=some (.inl (st (i+1))))->f (st n)=some (.inr b)->zac f (st 0)=some b:=by
 intro n hs he;have key:∀k,k<=n->zac f (st (n-k))=some b:=by
  intro k;induction k with
  |zero=>intro _;exact zgu he
  |succ k ih=>intro hk;have h1:=hs (n-(k+1)) (by omega);rw[show n-(k+1)+1=n-k by omega]at h1;exact zlj h1 (ih (by omega))
 have:=key n (xag n);rwa[xen]at this
def zaa{α β γ:Type}{f:α->Option (α⊕β)}{k:β->Option γ}{a0:α}{b:β}{r:Option γ}(st:Nat->α)(n:Nat)(h0:st 0=a0)(hs:∀i,i<n->f (st i)=some (.inl (st (i+1))))(he:f (st n)=some (.inr b))(hk:k b=r):(zac f a0).bind k=r:=by rw[<-h0,while_up st n hs he];exact hk
def zag(p:Int->Bool):List Int->Nat
 | []=>0
 |x::l=>if p x then 0 else zag p l+1
def zgx(p:Int->Bool):∀l,zag p l<=l.length
 | []=>xag 0
 |x::l=>by
  unfold zag;split;·exact xbx _
  ·have:=zgx p l;simp;omega
def zee(p:Int->Bool):∀l (i:Nat),i<zag p l->p (l.getD i 0)=false
 | [],i,h=>by simp[zag]at h
 |x::l,i,h=>by
  unfold zag at h;split at h;·omega
  ·rename_i hx;cases i with
   |zero=>simpa using hx
   |succ i=>
    have:=zee p l i (by omega);simpa using this
def zfq(p:Int->Bool):∀l,zag p l<l.length->p (l.getD (zag p l) 0)=true
 | [],h=>by simp at h
 |x::l,h=>by
  unfold zag at h ⊢;split at h;·rename_i hx;rw[if_pos hx];simpa using hx
  ·rename_i hx;rw[if_neg hx];have:=zfq p l (by simp at h;omega);simpa using this
def zfp(p:Int->Bool):∀l,zag p l<l.length↔∃x∈l,p x=true
 | []=>by simp[zag]
 |x::l=>by
  unfold zag;by_cases hx:p x=true;·rw[if_pos hx];simp[hx]
  ·rw[if_neg hx];have:=zfp p l;simp[hx]at this ⊢;exact this
def zqm{x n:Int}(hx:WT (.int .i64) x)(hn:0<n)(hn':n<=4611686018427387904):d16 x n=some (x%n):=by
 have ha:=wt_int hx;unfold d16;have h0:n≠0:=by omega
 have h1:-n<Int.tmod x n:=Int.lt_tmod_of_pos x hn;have h2:Int.tmod x n<n:=Int.tmod_lt_of_pos x hn;have h3:w (Int.tmod x n)=Int.tmod x n:=zqq (by omega) (by omega);have h4:w (Int.tmod x n+n)=Int.tmod x n+n:=zqq (by omega) (by omega);have h5:Int.tmod (Int.tmod x n+n) n=x%n:=by
  have h6:0<=Int.tmod x n+n:=by omega
  rw[Int.tmod_eq_emod_of_nonneg h6,Int.add_emod_right];rw[Int.tmod_eq_emod];split;·simp
  ·have:((n.natAbs:Int))=n:=Int.natAbs_of_nonneg (by omega);rw[this,Int.sub_emod_right];exact Int.emod_emod_of_dvd x (Int.dvd_refl n)
 have h7:w (x%n)=x%n:=zqq (by have:=Int.emod_nonneg x h0;omega) (by have:=xkh x hn;omega);simp[h0,h3,h4,h5,h7]
def zip(x:Int){n:Int}(hn:0<n):0<=x%n/\x%n<n:=⟨Int.emod_nonneg x (by omega),xkh x hn⟩
def zty{s:List Int}(v:Int)(hs:s.length<=281474976710656):d180 s v=some (if zag (λx=>decide (v=x)) s<s.length then(zag (λx=>decide (v=x)) s:Int)else -1):=by
 unfold d180;have hc:=zgx (λx=>decide (v=x)) s;have ha:∀i,i<zag (λx=>decide (v=x)) s->w ((i:Int)+1)=((i+1:Nat):Int):=λi hi=>by rw[zqq (by omega) (by omega)];omega
 by_cases h:zag (λx=>decide (v=x)) s<s.length
 ·have hb:=zfq _ s h;refine zaa (b:=.inr (zag (λx=>decide (v=x)) s:Int)) (λi=>(s,v,(s.length:Int),(i:Int))) (zag (λx=>decide (v=x)) s) rfl ?_ ?_ (by simp[h])
  ·intro i hi;have h1:=zee _ s i hi;have h2:(i:Int)<(s.length:Int):=by omega
   have h3:(0:Int)<=(i:Int):=by omega
   simp only[xbj,xad]at h1;simp[h2,h3,h1,ha i hi]
  ·have h2:(zag (λx=>decide (v=x)) s:Int)<(s.length:Int):=by omega
   have h3:(0:Int)<=(zag (λx=>decide (v=x)) s:Int):=by omega
   simp only[xak,xad]at hb;simp[h2,h3,<-hb]
 ·refine zaa (b:=.inl ()) (λi=>(s,v,(s.length:Int),(i:Int))) s.length rfl ?_ ?_ (by simp[h])
  ·intro i hi;have h1:=zee (λx=>decide (v=x)) s i (by omega);have h2:(i:Int)<(s.length:Int):=by omega
   have h3:(0:Int)<=(i:Int):=by omega
   simp only[xbj,xad]at h1;simp[h2,h3,h1,ha i (by omega)]
  ·simp
def d46_eq{l:List Int}(x:Int)(hs:l.length<=281474976710656):d46 l x=some (decide (x∈l)):=by
 unfold d46;have hc:=zgx (λy=>decide (y=x)) l;have hm:=zfp (λy=>decide (y=x)) l;have ha:∀i,i<zag (λy=>decide (y=x)) l->w ((i:Int)+1)=((i+1:Nat):Int):=λi hi=>by rw[zqq (by omega) (by omega)];omega
 by_cases h:zag (λy=>decide (y=x)) l<l.length
 ·have hb:=zfq _ l h;have hx:x∈l:=by obtain⟨z,h1,h2⟩:=hm.1 h;have:=xbc h2;rw[<-this];exact h1
  refine zaa (b:=.inr true) (λi=>(l,x,(i:Int))) (zag (λy=>decide (y=x)) l) rfl ?_ ?_ (by simp[hx])
  ·intro i hi;have h1:=zee _ l i hi;have h2:(i:Int)<(l.length:Int):=by omega
   have h3:(0:Int)<=(i:Int):=by omega
   simp only[xbj,xad]at h1;simp[h2,h3,h1,ha i hi]
  ·have h2:(zag (λy=>decide (y=x)) l:Int)<(l.length:Int):=by omega
   have h3:(0:Int)<=(zag (λy=>decide (y=x)) l:Int):=by omega
   simp only[xak,xad]at hb;simp[h2,h3,hb]
 ·have hx:x∉l:=λhv=>h (hm.2 ⟨x,hv,by simp⟩);refine zaa (b:=.inl ()) (λi=>(l,x,(i:Int))) l.length rfl ?_ ?_ (by simp[hx])
  ·intro i hi;have h1:=zee (λy=>decide (y=x)) l i (by omega);have h2:(i:Int)<(l.length:Int):=by omega
   have h3:(0:Int)<=(i:Int):=by omega
   simp only[xbj,xad]at h1;simp[h2,h3,h1,ha i (by omega)]
  ·simp
def zdr(p:Nat->Bool):Nat->Nat
 | 0=>0
 |n+1=>if zdr p n<n then zdr p n else if p n then n else n+1
def zhm(p:Nat->Bool):∀n,zdr p n<=n
 | 0=>xag 0
 |n+1=>by
  unfold zdr;have:=zhm p n;split;·omega
  ·split<;>omega
def zdz(p:Nat->Bool):∀n i,i<zdr p n->p i=false
 | 0,i,h=>by simp[zdr]at h
 |n+1,i,h=>by
  unfold zdr at h;have hle:=zhm p n;split at h;·exact zdz p n i h
  ·split at h;·rename_i h1 h2;exact zdz p n i (by omega)
   ·rename_i h1 h2;rcases xeo i n with h3|h3
    ·exact zdz p n i (by omega)
    ·have:i=n:=by omega
     subst this;simpa using h2
def zhn(p:Nat->Bool):∀n,zdr p n<n->p (zdr p n)=true
 | 0,h=>by simp at h
 |n+1,h=>by
  unfold zdr at h ⊢;have hle:=zhm p n;split;·rename_i h1;exact zhn p n h1
  ·rename_i h1;rw[if_neg h1]at h;split;·rename_i h2;exact h2
   ·rename_i h2;rw[if_neg h2]at h;omega
def zwl(p:Nat->Bool)(n:Nat):¬zdr p n<n↔∀i,i<n->p i=false:=by
 constructor;·intro h i hi;have:=zhm p n;exact zdz p n i (by omega)
 ·intro h ha;have:=zhn p n ha;rw[h _ ha]at this;cases this
def zqe(l:List Int):Nat->List Bool
 | 0=>[false,false,false,false,false,false,false]
 |i+1=>(zqe l i).set (Int.toNat (l.getD i 0)) true
def outs(n:Int)(l:List Int):Nat->List Int
 | 0=>[]
 |i+1=>if l.getD i 0%n∈outs n l i then outs n l i else outs n l i++[l.getD i 0%n]
def bal(n:Int)(l:List Int):List Int:=outs n l (zdr (λi=>decide (n<=((outs n l i).length:Int))) l.length)
def outs_len(n:Int)(l:List Int):∀i,(outs n l i).length<=i
 | 0=>xag 0
 |i+1=>by
  have:=outs_len n l i;unfold outs;split;·omega
  ·simp;omega
def outs_in{n:Int}(hn:0<n)(l:List Int):∀i,∀x∈outs n l i,0<=x/\x<n
 | 0,x,hx=>by simp[outs]at hx
 |i+1,x,hx=>by
  unfold outs at hx;split at hx;·exact outs_in hn l i x hx
  ·rcases xbp.1 hx with hx|hx
   ·exact outs_in hn l i x hx
   ·simp at hx;rw[hx];exact zip _ hn
def zpc(n:Int)(l:List Int):∀i,(outs n l i).Nodup
 | 0=>xjc
 |i+1=>by
  unfold outs;split;·exact zpc n l i
  ·rename_i h;refine xdh.2 ⟨zpc n l i,by simp,λx hx y hy=>?_⟩;simp at hy;rintro rfl;exact h (by rw[xad,<-hy];exact hx)
def d19_eq{n:Int}{l:List Int}(hn:0<n)(hn':n<=1000)(hl:WT (.slice (.int .i64)) l):d19 n l=some (bal n l):=by
 unfold d19 bal;have hd:=wt_len hl;have he:=zhm (λi=>decide (n<=((outs n l i).length:Int))) l.length;have ha:∀i:Nat,i<l.length->w ((i:Int)+1)=((i+1:Nat):Int):=λi hi=>by rw[zqq (by omega) (by omega)];omega
 refine zaa (b:=outs n l (zdr (λi=>decide (n<=((outs n l i).length:Int))) l.length)) (λi=>(n,l,outs n l i,(i:Int))) (zdr (λi=>decide (n<=((outs n l i).length:Int))) l.length) rfl (λi hi=>?_) ?_ rfl
 ·have h1:=zdz _ _ i hi;simp only[xbj]at h1;have hc:((outs n l i).length:Int)<n:=by omega
  have h2:(i:Int)<(l.length:Int):=by omega
  have h3:(0:Int)<=(i:Int):=by omega
  have hx:WT (.int .i64) (l.getD i 0):=by rw[xad,xaj (by omega)];exact hl.2 _ (xbf _)
  have hb:((outs n l i).length:Int)+(([l.getD i 0%n]:List Int).length:Int)<=LIM:=by rw[zia];simp;omega
  have ho:=outs_len n l i;simp only[h2,h3,hc,xbh,xab,xai,zbl,xam,zqm hx hn (by omega),xaa,d46_eq (l:=outs n l i) _ (by omega),ha i (by omega),hb];have e:outs n l (i+1)=if l.getD i 0%n∈outs n l i then outs n l i else outs n l i++[l.getD i 0%n]:=rfl
  by_cases c:l.getD i 0%n∈outs n l i;·rw[if_pos c]at e;simp only[c,e];rfl
  ·rw[if_neg c]at e;simp only[c,e];rfl
 ·by_cases h:zdr (λi=>decide (n<=((outs n l i).length:Int))) l.length<l.length
  ·have h1:=zhn _ _ h;simp only[xak]at h1;have hc:¬((outs n l (zdr (λi=>decide (n<=((outs n l i).length:Int))) l.length)).length:Int)<n:=by omega
   have h2:((zdr (λi=>decide (n<=((outs n l i).length:Int))) l.length:Nat):Int)<(l.length:Int):=by omega
   simp only[h2,hc,zbl,xbh,xdc,xab,xaf]
  ·have h2:¬((zdr (λi=>decide (n<=((outs n l i).length:Int))) l.length:Nat):Int)<(l.length:Int):=by omega
   simp only[h2,zbl,xdc,xaf]
def zja{α β γ:Type}{f:α->Option (α⊕β)}{k:β->Option γ}{a0:α}{r:Option γ}(st:Nat->α)(p:Nat->Bool)(n:Nat)(bx:Nat->β)(e:β)(h0:st 0=a0)
  (hs:∀i,i<n->f (st i)=if p i then some (.inr (bx i))else some (.inl (st (i+1)))) (he:f (st n)=some (.inr e))
  (h1:∀i,i<n->p i=true->(∀j,j<i->p j=false)->k (bx i)=r) (h2:(∀i,i<n->p i=false)->k e=r):(zac f a0).bind k=r:=by
 have hb:=zhm p n;by_cases h:zdr p n<n
 ·refine zaa (b:=bx (zdr p n)) st (zdr p n) h0 (λi hi=>?_) ?_ (h1 _ h (zhn p n h) (zdz p n));·have:=hs i (by omega);rw[zdz p n i hi]at this;exact this
  ·have:=hs _ h;rw[zhn p n h]at this;exact this
 ·have ha:=(zwl p n).1 h;refine zaa (b:=e) st n h0 (λi hi=>?_) he (h2 ha);have:=hs i hi;rw[ha i hi]at this;exact this
def zcj{α:Type}(l:List α)(d:α){i:Nat}(h:i<l.length):l.getD i d=l[i]:=by rw[xad,xaj h,Option.getD_some]
def isB(n:Int)(l:List Int):Prop:=l.Nodup/\∀x∈l,0<=x/\x<n
instance(n:Int)(l:List Int):Decidable (isB n l):=inferInstanceAs (Decidable (_/\_))
def zyr(n:Int)(l:List Int):isB n l↔∀i,i<l.length->0<=l.getD i 0/\l.getD i 0<n/\l.getD i 0∉l.take i:=by
 constructor;·rintro⟨h1,h2⟩ i hi;rw[zcj l 0 hi];refine⟨(h2 _ (xbf hi)).1,(h2 _ (xbf hi)).2,λhm=>?_⟩;obtain⟨j,hj,e⟩:=xjd.1 hm;exact xex.1 h1 j i (by omega) hi (by omega) e
 ·intro h;refine⟨xex.2 λi j hi hj hij e=>?_,λx hx=>?_⟩;·have:=(h j hj).2.2;rw[zcj l 0 hj,<-e]at this;exact this (xjd.2 ⟨i,by omega,rfl⟩)
  ·obtain⟨i,hi,rfl⟩:=xdi hx;have:=h i hi;rw[zcj l 0 hi]at this;exact⟨this.1,this.2.1⟩
def zvk(l:List Int):∀i,(zqe l i).length=7
 | 0=>rfl
 |i+1=>by unfold zqe;rw[xcd];exact zvk l i
def zsg(l:List Int):∀i,i<=l.length->(∀j,j<i->0<=l.getD j 0/\l.getD j 0<7)->∀c:Nat,c<7->(zqe l i).getD c false=decide ((c:Int)∈l.take i)
 | 0,_,_,c,hc=>by
  have:c=0\/c=1\/c=2\/c=3\/c=4\/c=5\/c=6:=by omega
  rcases this with h|h|h|h|h|h|h<;>subst h<;>rfl
 |i+1,hi,hb,c,hc=>by
  have ih:=zsg l i (by omega) (λj hj=>hb j (by omega)) c hc;have hl:=zvk l i;have hx:=hb i (by omega);unfold zqe;rw[xeb,xke]at ih;rw[xeb,xke,xad,List.getElem?_set,hl,xhd,xbp,<-ih,xaj (by omega:i<l.length)];rw[zcj l 0 (by omega:i<l.length)]at hx ⊢;generalize l[i]=x at hx;by_cases e:x.toNat=c
  ·have e':(c:Int)=x:=by omega
   rw[if_pos e,if_pos (by omega)];simp[e']
  ·have e':¬(c:Int)=x:=by omega
   rw[if_neg e];simp[e',xad]
def zlx{i n:Nat}(h:i<=n):zcr 0 (i:Int) n=true:=by unfold zcr;simp only[xal,xak];omega
def d41_eq(n:Int){l:List Int}(hl:l.length<=281474976710656):d41 n l=some (decide (isB n l)):=by
 unfold d41;have ha:∀i:Nat,i<l.length->w ((i:Int)+1)=((i+1:Nat):Int):=λi hi=>by rw[zqq (by omega) (by omega)];omega
 refine zja (λi=>(n,l,(i:Int))) (λi=>decide (l.getD i 0<0)||(decide (n<=l.getD i 0)||decide (l.getD i 0∈l.take i))) l.length (λ_=>.inr false) (.inl ()) rfl (λi hi=>?_) ?_ (λi hi hp hj=>?_) (λhall=>?_)
 ·have h2:(i:Int)<(l.length:Int):=by omega
  have h3:(0:Int)<=(i:Int):=by omega
  simp only[h2,h3,zbl,xbh,xab,xai,xam,ha i hi,zlx (xgk hi),xhi,d46_eq (l:=l.take i) _ (by simp;omega),xaa];by_cases c1:l.getD i 0<0;·simp only[c1];rfl
  ·by_cases c2:n<=l.getD i 0;·simp only[c1,c2];rfl
   ·by_cases c3:l.getD i 0∈l.take i;·simp only[c1,c2,c3];rfl
    ·simp only[c1,c2,c3];rfl
 ·simp
 ·have:¬isB n l:=λh=>by
   have:=(zyr n l).1 h i hi;simp only[xeg,xak]at hp;rcases hp with hp|hp|hp
   ·omega
   ·omega
   ·exact this.2.2 hp
  simp[this]
 ·have:isB n l:=(zyr n l).2 λi hi=>by have:=hall i hi;simp only[xct,xbj]at this;exact⟨by omega,by omega,this.2.2⟩
  simp[this]
def zeo{α β γ:Type}{f:α->Option (α⊕β)}{k:β->Option γ}{a0:α}{r:Option γ}(st:Nat->α)(p:Nat->Bool)(n:Nat)(bx:Nat->β)(e:β)(h0:st 0=a0)
  (hs:∀i,i<n->(∀j,j<i->p j=false)->f (st i)=if p i then some (.inr (bx i))else some (.inl (st (i+1)))) (he:(∀j,j<n->p j=false)->f (st n)=some (.inr e))
  (h1:∀i,i<n->p i=true->(∀j,j<i->p j=false)->k (bx i)=r) (h2:(∀i,i<n->p i=false)->k e=r):(zac f a0).bind k=r:=by
 have hb:=zhm p n;by_cases h:zdr p n<n
 ·refine zaa (b:=bx (zdr p n)) st (zdr p n) h0 (λi hi=>?_) ?_ (h1 _ h (zhn p n h) (zdz p n));·have:=hs i (by omega) (λj hj=>zdz p n j (by omega));rw[zdz p n i hi]at this;exact this
  ·have:=hs _ h (zdz p n);rw[zhn p n h]at this;exact this
 ·have ha:=(zwl p n).1 h;refine zaa (b:=e) st n h0 (λi hi=>?_) (he ha) (h2 ha);have:=hs i hi (λj hj=>ha j (by omega));rw[ha i hi]at this;exact this
def lt_at:∀(i:Nat) (a b:List Int),i<a.length->i<b.length->(∀j,j<i->a.getD j 0=b.getD j 0)->a.getD i 0≠b.getD i 0->(a<b↔a.getD i 0<b.getD i 0)
 |_,[],_,h,_,_,_=>by simp at h
 |_,_::_,[],_,h,_,_=>by simp at h
 | 0,x::a,y::b,_,_,_,hne=>by
  rw[xgd];simp only[xfi]at hne ⊢;constructor
  ·rintro(h|⟨h,_⟩);·exact h
   ·exact absurd h hne
  ·exact .inl
 |i+1,x::a,y::b,h1,h2,h3,hne=>by
  rw[xgd];have h0:=h3 0 (by omega);simp only[xfi]at h0;subst h0;simp only[xin]at hne ⊢;have:=lt_at i a b (by simp at h1;omega) (by simp at h2;omega) (λj hj=>by have:=h3 (j+1) (by omega);simpa using this) hne;constructor
  ·rintro(h|⟨_,h⟩);·omega
   ·exact this.1 h
  ·exact λh=>.inr ⟨by first | rfl | trivial,this.2 h⟩
def lt_end:∀(a b:List Int),(∀j,j<a.length->j<b.length->a.getD j 0=b.getD j 0)->(a<b↔a.length<b.length)
 | [],[],_=>by simp
 | [],y::b,_=>by simp
 |x::a,[],_=>by simp
 |x::a,y::b,h=>by
  have h0:=h 0 (by simp) (by simp);simp only[xfi]at h0;subst h0;have:=lt_end a b λj h1 h2=>by have:=h (j+1) (by simp;omega) (by simp;omega);simpa using this
  rw[xgd];simp only[xbd,Nat.add_lt_add_iff_right];rw[<-this];constructor
  ·rintro(h|⟨_,h⟩);·omega
   ·exact h
  ·exact λh=>.inr ⟨by first | rfl | trivial,h⟩
def zss:∀(a b:List Int),a<b\/a=b\/b<a
 | [],[]=>.inr (.inl rfl)
 | [],y::b=>.inl (by simp)
 |x::a,[]=>.inr (.inr (by simp))
 |x::a,y::b=>by
  simp only[xgd];rcases Int.lt_trichotomy x y with h|h|h
  ·exact .inl (.inl h)
  ·subst h;rcases zss a b with h|h|h
   ·exact .inl (.inr ⟨rfl,h⟩)
   ·subst h;exact .inr (.inl rfl)
   ·exact .inr (.inr (.inr ⟨rfl,h⟩))
  ·exact .inr (.inr (.inl h))
def zgw:∀(a:List Int),¬a<a
 | []=>by simp
 |x::a=>by
  rw[xgd];rintro(h|⟨_,h⟩);·omega
  ·exact zgw a h
def ziq:∀{a b c:List Int},a<b->b<c->a<c
 | [],_,[],_,h=>by simp at h
 | [],_,z::c,_,_=>by simp
 |x::a,[],_,h,_=>by simp at h
 |x::a,y::b,[],_,h=>by simp at h
 |x::a,y::b,z::c,h1,h2=>by
  rw[xgd]at *;rcases h1 with h1|⟨h1,h3⟩
  ·rcases h2 with h2|⟨h2,_⟩
   ·exact .inl (by omega)
   ·exact .inl (by omega)
  ·rcases h2 with h2|⟨h2,h4⟩
   ·exact .inl (by omega)
   ·exact .inr ⟨by omega,ziq h3 h4⟩
def zst{a b:List Int}(h:a<b):¬b<a:=λh'=>zgw a (ziq h h')
def d58_eq{a b:List Int}(ha:a.length<=281474976710656)(hb:b.length<=281474976710656):d58 a b=some (decide (a<b)):=by
 unfold d58;refine zja (λi=>(a,b,(i:Int))) (λi=>!decide (a.getD i 0=b.getD i 0)) (min a.length b.length) (λi=>.inr (decide (a.getD i 0<b.getD i 0))) (.inl (a,b)) rfl (λi hi=>?_) ?_ (λi hi hp hj=>?_) (λhall=>?_)
 ·have h1:(i:Int)<(a.length:Int):=by omega
  have h2:(i:Int)<(b.length:Int):=by omega
  have h3:(0:Int)<=(i:Int):=by omega
  have hw:w ((i:Int)+1)=((i+1:Nat):Int):=by rw[zqq (by omega) (by omega)];omega
  simp only[h1,h2,h3,hw,zbl,xbh,xab,xai,xam];by_cases c:a.getD i 0=b.getD i 0;·simp only[c];rfl
  ·simp only[c];rfl
 ·simp only[zbl];by_cases c:a.length<=b.length
  ·have h1:¬((min a.length b.length:Nat):Int)<(a.length:Int):=by omega
   simp only[h1,xdc,xaf]
  ·have h1:((min a.length b.length:Nat):Int)<(a.length:Int):=by omega
   have h2:¬((min a.length b.length:Nat):Int)<(b.length:Int):=by omega
   simp only[h1,h2,xbh,xdc,xab,xaf]
 ·have hc:a.getD i 0≠b.getD i 0:=by simpa using hp
  have:=lt_at i a b (by omega) (by omega) (λj hj'=>by have:=hj j hj';simpa using this) hc;simp[this]
 ·have:=lt_end a b λj h1 h2=>by have:=hall j (by omega);simpa using this
  have e:((a.length:Int)<(b.length:Int))↔a<b:=by rw[this];omega
  simp[e]
def d26_eq{a b:List Int}(ha:a.length<=281474976710656)(hb:b.length<=281474976710656):d26 a b=some (decide (a=b)):=by
 unfold d26;rw[d58_eq ha hb,d58_eq hb ha];simp only[xaa];rcases zss a b with h|h|h
 ·have:a≠b:=λe=>zgw a (by rw[<-e]at h;exact h);simp[h,this]
 ·subst h;simp[zgw a]
 ·have:a≠b:=λe=>zgw a (by rw[<-e]at h;exact h);have h':=zst h;simp[h,h',this]
def d207_eq(x y:Int):d207 x y=some (if x<y then -1 else if y<x then 1 else 0):=by
 unfold d207 d261;by_cases h:x<y;·simp[h]
 ·by_cases h':y<x;·simp[h,h']
  ·simp[h,h']
def cmpL(a b:List Int):Int:=if a<b then -1 else if b<a then 1 else 0
def d145_eq{a b:List Int}(ha:a.length<=281474976710656)(hb:b.length<=281474976710656):d145 a b=some (cmpL a b):=by
 unfold d145 cmpL;refine zja (λi=>(a,b,a,(a.length:Int),(i:Int))) (λi=>decide (b.length<=i)|| !decide (a.getD i 0=b.getD i 0)) a.length (λi=>.inr (if b.length<=i then 1 else if a.getD i 0<b.getD i 0 then -1 else 1)) (.inl (a,b)) rfl (λi hi=>?_) ?_ (λi hi hp hj=>?_) (λhall=>?_)
 ·have h1:(i:Int)<(a.length:Int):=by omega
  have h3:(0:Int)<=(i:Int):=by omega
  have hw:w ((i:Int)+1)=((i+1:Nat):Int):=by rw[zqq (by omega) (by omega)];omega
  simp only[h1,h3,hw,xbh,xab,xai,xam,d207_eq,xaa];by_cases c0:b.length<=i
  ·have h2:(b.length:Int)<=(i:Int):=by omega
   simp[h2,c0]
  ·have h2:¬(b.length:Int)<=(i:Int):=by omega
   have h4:(i:Int)<(b.length:Int):=by omega
   simp only[h2,h4,c0,xbh,xdc,xab,xaf,xcg,xbz];rcases Int.lt_trichotomy (a.getD i 0) (b.getD i 0)with h|h|h
   ·have h5:¬a.getD i 0=b.getD i 0:=by omega
    simp only[h,h5,if_true];rfl
   ·have h5:¬a.getD i 0<b.getD i 0:=by omega
    have h6:¬b.getD i 0<a.getD i 0:=by omega
    simp only[h,xcg];simp
   ·have h5:¬a.getD i 0=b.getD i 0:=by omega
    have h6:¬a.getD i 0<b.getD i 0:=by omega
    simp only[h,h5,h6,if_true,xcg];rfl
 ·simp
 ·simp only[xaq];by_cases c0:b.length<=i
  ·have h1:=lt_end b a λj h1 h2=>by have:=hj j (by omega);simp only[xct,xbj,xgw,xak]at this;exact this.2.symm
   have h2:b<a:=h1.2 (by omega);simp[c0,h2,zst h2]
  ·have hc:∀j,j<i->a.getD j 0=b.getD j 0:=λj hj'=>by have:=hj j hj';simp only[xct,xbj,xgw,xak]at this;exact this.2
   have hd:a.getD i 0≠b.getD i 0:=by simpa[c0]using hp
   have h1:=lt_at i a b hi (by omega) hc hd;have h2:=lt_at i b a (by omega) hi (λj hj'=>(hc j hj').symm) (Ne.symm hd);simp only[c0,xcg,h1,h2];by_cases c:a.getD i 0<b.getD i 0;·simp only[c,if_true]
   ·have:b.getD i 0<a.getD i 0:=by omega
    simp only[c,this,if_true,xcg]
 ·have key:∀j,j<a.length->j<b.length/\a.getD j 0=b.getD j 0:=λj h1=>by have:=hall j h1;simp only[xct,xbj,xgw,xak]at this;omega
  have h1:=lt_end a b λj h1 h2=>(key j h1).2;have h2:=lt_end b a λj h1 h2=>(key j h2).2.symm;have h3:a.length<=b.length:=by
   rcases xdf a.length with h|h
   ·omega
   ·have:=(key (a.length-1) (by omega)).1;omega
  have h4:¬b<a:=by rw[h2];omega
  simp only[h4,xcg];by_cases c:a<b
  ·have:(a.length:Int)<(b.length:Int):=by have:=h1.1 c;omega
   simp[c,this]
  ·have:¬(a.length:Int)<(b.length:Int):=by rw[h1]at c;omega
   simp[c,this]
abbrev Grp:=List Int×Int
def zmw:List Grp->List Int->Int->List Grp
 | [],p,k=>[(p,k)]
 |g::gs,p,k=>if g.1<p then g::zmw gs p k else if g.1=p then(g.1,g.2+k)::gs else(p,k)::g::gs
def zoo(gs:List Grp)(p:List Int):Bool:=gs.all λg=>decide (g.1<p)
def addG_app:∀(gs:List Grp) (g:Grp) (p:List Int) (k:Int),zmw (gs++[g]) p k=if zoo gs p then gs++zmw [g] p k else zmw gs p k++[g]
 | [],g,p,k=>by simp[zoo]
 |h::gs,g,p,k=>by
  have ih:=addG_app gs g p k;unfold zoo at ih ⊢;rw[xcx];unfold zmw;by_cases c:h.1<p
  ·simp only[c,if_true,ih,xkg,xbh,xbu];by_cases c2:(gs.all λg=>decide (g.1<p))=true;·rw[if_pos c2,if_pos c2];simp[zmw]
   ·rw[if_neg c2,if_neg c2];simp
  ·by_cases c2:h.1=p;·have:¬h.1<h.1:=zgw _;subst c2;simp[this]
   ·simp[c,c2]
def addG_all{gs:List Grp}{p:List Int}(k:Int)(h:zoo gs p=true):zmw gs p k=gs++[(p,k)]:=by
 induction gs with
 |nil=>rfl
 |cons g gs ih=>unfold zoo at h ih;simp only[xkg,xal,xak]at h;unfold zmw;simp only[h.1,if_true,ih h.2,xcx]
def zgq{α:Type}(l:List α)(d:α){i:Nat}(h:i<l.length):l.take (i+1)=l.take i++[l.getD i d]:=by rw[xhd,xaj h,zcj l d h];rfl
def zzp:∀(gs:List Grp) (p:List Int) (k:Int),(zmw gs p k).length<=gs.length+1
 | [],p,k=>by simp[zmw]
 |g::gs,p,k=>by
  have:=zzp gs p k;unfold zmw;split;·simp;omega
  ·split<;>simp
def zbi(f:List Int->Int):List Grp->Int
 | []=>0
 |g::gs=>g.2*f g.1+zbi f gs
def zgp(f:List Int->Int):∀(a b:List Grp),zbi f (a++b)=zbi f a+zbi f b
 | [],b=>by simp[zbi]
 |g::a,b=>by have:=zgp f a b;simp only[xcx,zbi,this];omega
def zrq(f:List Int->Int):∀(gs:List Grp) (p:List Int) (k:Int),zbi f (zmw gs p k)=zbi f gs+k*f p
 | [],p,k=>by simp[zmw,zbi]
 |g::gs,p,k=>by
  have ih:=zrq f gs p k;unfold zmw;split;·simp only[zbi,ih];omega
  ·split;·rename_i h;simp only[zbi,h,Int.add_mul];omega
   ·simp only[zbi];omega
def zzo:∀{gs:List Grp} {p:List Int} {k:Int} {g:Grp},g∈zmw gs p k->(g.1=p/\(g.2=k\/∃h∈gs,h.1=p/\g.2=h.2+k))\/g∈gs
 | [],p,k,g,h=>by simp[zmw]at h;exact .inl ⟨by rw[h],.inl (by rw[h])⟩
 |a::gs,p,k,g,h=>by
  unfold zmw at h;split at h
  ·rcases xar.1 h with h|h
   ·exact .inr (by simp[h])
   ·rcases zzo h with⟨h1,h2⟩|h1
    ·refine .inl ⟨h1,h2.imp id λ⟨x,h3,h4⟩=>⟨x,xan _ h3,h4⟩⟩
    ·exact .inr (xan _ h1)
  ·split at h
   ·rename_i hp;rcases xar.1 h with h|h
    ·exact .inl ⟨by rw[h];exact hp,.inr ⟨a,by simp,hp,by rw[h]⟩⟩
    ·exact .inr (xan _ h)
   ·rcases xar.1 h with h|h
    ·exact .inl ⟨by rw[h],.inl (by rw[h])⟩
    ·exact .inr h
def zid(gs:List Grp):Prop:=gs.Pairwise λg h=>g.1<h.1
def zum:∀{gs:List Grp} (p:List Int) (k:Int),zid gs->zid (zmw gs p k)
 | [],p,k,_=>by simp[zmw,zid]
 |a::gs,p,k,h=>by
  unfold zid at h;rw[xdn]at h;unfold zmw;split
  ·rename_i hlt;refine xdn.2 ⟨λg hg=>?_,zum p k h.2⟩;rcases zzo hg with⟨h1,_⟩|h1
   ·rw[h1];exact hlt
   ·exact h.1 g h1
  ·rename_i hlt;split;·exact xdn.2 ⟨λg hg=>h.1 g hg,h.2⟩
   ·rename_i hne;have hp:p<a.1:=by
     rcases zss a.1 p with h|h|h
     ·exact absurd h hlt
     ·exact absurd h hne
     ·exact h
    refine xdn.2 ⟨λg hg=>?_,xdn.2 h⟩;rcases xar.1 hg with rfl|hg
    ·exact hp
    ·exact ziq hp (h.1 g hg)
structure PileOK(n:Int)(gs:List Grp)(N:Int):Prop where
 ballots:∀g∈gs,isB n g.1/\1<=g.2
 sorted:zid gs
 total:zbi (λ_=>1) gs=N
 most:N<=100000
def zgo{n:Int}:∀{gs:List Grp},(∀g∈gs,isB n g.1/\1<=g.2)->∀{f:List Int->Int},(∀p,0<=f p/\f p<=1)->0<=zbi f gs/\zbi f gs<=zbi (λ_=>1) gs
 | [],_,f,_=>by simp[zbi]
 |g::gs,h,f,hf=>by have ih:=zgo (gs:=gs) (λx hx=>h x (xan _ hx)) hf;have h1:=(h g (by simp)).2;have h2:=hf g.1;have h3:0<=g.2*f g.1:=Int.mul_nonneg (by omega) h2.1;have h4:g.2*f g.1<=g.2*1:=Int.mul_le_mul_of_nonneg_left h2.2 (by omega);simp only[zbi];omega
def zyf{n:Int}:∀{gs:List Grp},(∀g∈gs,isB n g.1/\1<=g.2)->∀g∈gs,g.2<=zbi (λ_=>1) gs
 | [],_,g,hg=>by cases hg
 |a::gs,h,g,hg=>by
  have h0:=(zgo (n:=n) (gs:=gs) (λx hx=>h x (xan _ hx)) (f:=λ_=>1) (λ_=>by omega)).1;have h1:=(h a (by simp)).2;simp only[zbi];rcases xar.1 hg with rfl|hg
  ·omega
  ·have:=zyf (n:=n) (gs:=gs) (λx hx=>h x (xan _ hx)) g hg;omega
def zye{n:Int}:∀{gs:List Grp},(∀g∈gs,isB n g.1/\1<=g.2)->(gs.length:Int)<=zbi (λ_=>1) gs
 | [],_=>by simp[zbi]
 |a::gs,h=>by have h1:=(h a (by simp)).2;have:=zye (n:=n) (gs:=gs) (λx hx=>h x (xan _ hx));simp only[zbi,xbd];omega
def znn:∀(n:Nat) (l:List Int),l.Nodup->(∀x∈l,0<=x/\x<(n:Int))->l.length<=n
 | 0,l,_,h=>by
  cases l with
  |nil=>simp
  |cons x l=>have:=h x (by simp);omega
 |n+1,l,hd,h=>by
  by_cases hm:(n:Int)∈l
  ·have h1:=znn n (l.erase (n:Int)) (hd.erase _) λx hx=>by have h2:=(hd.mem_erase_iff).1 hx;have:=h x h2.2;have:=h2.1;omega
   rw[List.length_erase_of_mem hm]at h1;omega
  ·have:=znn n l hd λx hx=>by have h1:=h x hx;have:x≠(n:Int):=λe=>hm (e▸hx);omega
   omega
def zjk{n:Int}{l:List Int}(h:isB n l)(hn:n<=7):l.length<=7:=znn 7 l h.1 λx hx=>by have:=h.2 x hx;omega
def PileOK.add{n:Int}{gs:List Grp}{N:Int}(h:PileOK n gs N){p:List Int}(hp:isB n p)(hN:N+1<=100000):PileOK n (zmw gs p 1) (N+1) where
 ballots:=λg hg=>by
  rcases zzo hg with⟨h1,h2⟩|h1
  ·refine⟨by rw[h1];exact hp,?_⟩;rcases h2 with h2|⟨x,hx,_,h2⟩
   ·omega
   ·have:=(h.ballots x hx).2;omega
  ·exact h.ballots g h1
 sorted:=zum _ _ h.sorted
 total:=by rw[zrq,h.total];omega
 most:=hN
def PileOK.nil(n:Int):PileOK n [] 0:=⟨λ_ hg=>absurd hg (by simp),List.Pairwise.nil,rfl,by omega⟩
def d77_eq{n:Int}(hn:n<=7){l:List Int}(hl:l.length<=281474976710656):d77 n l=some (decide (isB n l)):=by
 unfold d77;refine zja (λi=>(n,zqe l i,l,(l.length:Int),(i:Int))) (λi=>decide (l.getD i 0<0)||(decide (n<=l.getD i 0)||(zqe l i).getD (Int.toNat (l.getD i 0)) false)) l.length (λ_=>.inr false) (.inl ()) rfl (λi hi=>?_) ?_ (λi hi hp hj=>?_) (λhall=>?_)
 ·have h2:(i:Int)<(l.length:Int):=by omega
  have h3:(0:Int)<=(i:Int):=by omega
  have hw:w ((i:Int)+1)=((i+1:Nat):Int):=by rw[zqq (by omega) (by omega)];omega
  simp only[h2,h3,zbl,xbh,xab,xai,xam,hw];by_cases c1:l.getD i 0<0;·simp only[c1];rfl
  ·by_cases c2:n<=l.getD i 0;·simp only[c1,c2];rfl
   ·have c3:0<=l.getD i 0:=by omega
    have c4:l.getD i 0<7:=by omega
    simp only[c1,c2,c3,c4];cases(zqe l i).getD (Int.toNat (l.getD i 0)) false<;>rfl
 ·simp
 ·have:¬isB n l:=λh=>by
   have hb:=(zyr n l).1 h;have h1:=hb i hi;have h2:=zsg l i (by omega) (λj hj=>by have:=hb j (by omega);omega) (Int.toNat (l.getD i 0)) (by omega);rw[show((l.getD i 0).toNat:Int)=l.getD i 0 by omega]at h2;rw[h2]at hp;simp only[xeg,xak]at hp;rcases hp with hp|hp|hp
   ·omega
   ·omega
   ·exact h1.2.2 hp
  simp[this]
 ·have hb:∀i,i<l.length->0<=l.getD i 0/\l.getD i 0<n:=λi hi=>by have:=hall i hi;simp only[xct,xbj]at this;omega
  have:isB n l:=(zyr n l).2 λi hi=>by have h1:=hb i hi;have h0:=hall i hi;simp only[xct,xbj]at h0;have h2:=zsg l i (by omega) (λj hj=>by have:=hb j (by omega);omega) (Int.toNat (l.getD i 0)) (by omega);rw[show((l.getD i 0).toNat:Int)=l.getD i 0 by omega,h0.2.2]at h2;exact⟨h1.1,h1.2,λhm=>xev h2.symm hm⟩
  simp[this]
def tot(gs:List Grp)(i:Nat):Int:=zbi (λ_=>1) (gs.take i)
def badG(n:Int)(gs:List Grp)(i:Nat):Bool:=decide ((gs.getD i ([],0)).2<1)||(decide (100000-tot gs i<(gs.getD i ([],0)).2)||(!decide (isB n (gs.getD i ([],0)).1)||(decide (0<i)&&decide (0<=cmpL (gs.getD (i-1) ([],0)).1 (gs.getD i ([],0)).1))))
def zdi(f:List Int->Int)(gs:List Grp){i:Nat}(h:i<gs.length):zbi f (gs.take (i+1))=zbi f (gs.take i)+(gs.getD i ([],0)).2*f (gs.getD i ([],0)).1:=by rw[zgq gs ([],0) h,zgp];simp[zbi]
def zot{n:Int}{gs:List Grp}:∀{i:Nat},i<=gs.length->(∀j,j<i->badG n gs j=false)->0<=tot gs i/\tot gs i<=100000
 | 0,_,_=>by simp[tot,zbi]
 |i+1,h,hb=>by have ih:=zot (n:=n) (gs:=gs) (i:=i) (by omega) λj hj=>hb j (by omega);have h1:=hb i (by omega);unfold badG at h1;simp only[xct,xbj]at h1;have h2:tot gs (i+1)=tot gs i+(gs.getD i ([],0)).2*1:=zdi _ gs (by omega);omega
def d133_eq{n:Int}(hn:n<=7){gs:List Grp}(hl:gs.length<=281474976710656)(hg:∀g∈gs,g.1.length<=281474976710656∧-9223372036854775808<=g.2/\g.2<=9223372036854775807):d133 n gs=some (decide (∀i,i<gs.length->badG n gs i=false)):=by
 unfold d133;have hc:∀i,i<gs.length->(gs.getD i ([],0)).1.length<=281474976710656:=λi hi=>by rw[zcj gs _ hi];exact(hg _ (xbf _)).1
 refine zeo (λi=>(n,gs,tot gs i,gs,(gs.length:Int),(i:Int))) (badG n gs) gs.length (λ_=>.inr false) (.inl ()) rfl (λi hi hj=>?_) (λ_=>?_) (λi hi hp hj=>?_) (λhall=>?_)
 ·have h2:(i:Int)<(gs.length:Int):=by omega
  have h3:(0:Int)<=(i:Int):=by omega
  have hw:w ((i:Int)+1)=((i+1:Nat):Int):=by rw[zqq (by omega) (by omega)];omega
  have ht:=zot (n:=n) (gs:=gs) (i:=i) (by omega) hj;have he:w (100000-tot gs i)=100000-tot gs i:=zqq (by omega) (by omega);have ha:=hc i hi;have hk:=hc (i-1) (by omega);have hm:tot gs (i+1)=tot gs i+(gs.getD i ([],0)).2*1:=zdi _ gs (by omega);have hd:1<=(gs.getD i ([],0)).2->(gs.getD i ([],0)).2<=100000-tot gs i->w (tot gs i+(gs.getD i ([],0)).2)=tot gs (i+1):=λa b=>by rw[zqq (by omega) (by omega)];omega
  have hb:badG n gs i=(decide ((gs.getD i ([],0)).2<1)||(decide (100000-tot gs i<(gs.getD i ([],0)).2)||(!decide (isB n (gs.getD i ([],0)).1)||(decide (0<i)&&decide (0<=cmpL (gs.getD (i-1) ([],0)).1 (gs.getD i ([],0)).1))))):=rfl;rw[hb];simp only[h2,h3,zbl,xbh,xab,xai,xam,hw,he];rw[d77_eq hn ha];obtain⟨g,hf⟩:∃g,gs.getD i ([],0)=g:=⟨_,rfl⟩;simp only[hf]at ha hm hd ⊢;by_cases c1:g.2<1;·simp only[c1];rfl
  ·by_cases c2:100000-tot gs i<g.2;·simp only[c1,c2];rfl
   ·rw[hd (by omega) (by omega)];by_cases c3:isB n g.1
    ·by_cases c4:0<i
     ·have c5:(0:Int)<(i:Int):=by omega
      have hh:w ((i:Int)-1)=((i-1:Nat):Int):=by rw[zqq (by omega) (by omega)];omega
      have h5:(0:Int)<=((i-1:Nat):Int):=by omega
      have h6:((i-1:Nat):Int)<(gs.length:Int):=by omega
      simp only[c1,c2,c3,c4,c5,hh,h5,h6,xam,d145_eq hk ha,xaa,xbh,xdc,xat,xap,xab,xaf,xai,xbu,xbz];cases decide (0<=cmpL (gs.getD (i-1) ([],0)).1 g.1)<;>rfl
     ·have c5:¬(0:Int)<(i:Int):=by omega
      simp only[c1,c2,c3,c4,c5];rfl
    ·simp only[c1,c2,c3];rfl
 ·simp
 ·have:¬∀i,i<gs.length->badG n gs i=false:=λh=>by rw[h i hi]at hp;cases hp
  simp[this]
 ·have:∀i,i<gs.length->badG n gs i=false:=hall;simp only[xae this]
def PileOK.good{n:Int}{gs:List Grp}{N:Int}(h:PileOK n gs N):∀i,i<gs.length->badG n gs i=false:=λi hi=>by
 have hm:gs.getD i ([],0)∈gs:=by rw[zcj gs _ hi];exact xbf _
 have h1:=h.ballots _ hm;have h2:tot gs (i+1)=tot gs i+(gs.getD i ([],0)).2*1:=zdi _ gs hi;have h3:zbi (λ_=>1) gs=tot gs (i+1)+zbi (λ_=>1) (gs.drop (i+1)):=by unfold tot;rw[<-zgp,xcp]
 have h4:=(zgo (n:=n) (gs:=gs.drop (i+1)) (λx hx=>h.ballots x (xeu hx)) (f:=λ_=>1) (λ_=>by omega)).1;have h5:=h.total;have h6:=h.most;unfold badG;have c1:¬(gs.getD i ([],0)).2<1:=by omega
 have c2:¬100000-tot gs i<(gs.getD i ([],0)).2:=by omega
 simp only[c1,c2,h1.1,xbh,xdc,xat,xbz];by_cases c3:0<i
 ·have h7:(gs.getD (i-1) ([],0)).1<(gs.getD i ([],0)).1:=by rw[zcj gs _ hi,zcj gs _ (by omega:i-1<gs.length)];exact xex.1 h.sorted (i-1) i (by omega) hi (by omega)
  have c4:cmpL (gs.getD (i-1) ([],0)).1 (gs.getD i ([],0)).1=-1:=if_pos h7;rw[c4];simp
 ·simp[c3]
def PileOK.sizes{n:Int}{gs:List Grp}{N:Int}(h:PileOK n gs N)(hn:n<=7):gs.length<=100000/\∀g∈gs,g.1.length<=7/\1<=g.2/\g.2<=100000:=by have h1:=zye h.ballots;have h2:=h.total;have h3:=h.most;refine⟨by omega,λg hg=>?_⟩;have h4:=zyf h.ballots g hg;have h5:=h.ballots g hg;exact⟨zjk h5.1 hn,by omega,by omega⟩
def PileOK.d133{n:Int}{gs:List Grp}{N:Int}(h:PileOK n gs N)(hn:n<=7):d133 n gs=some true:=by obtain⟨h1,h2⟩:=h.sizes hn;rw[d133_eq hn (by omega) λg hg=>by have:=h2 g hg;omega];rw[xae h.good]
def PileOK.wide{n:Int}{gs:List Grp}{N:Int}(h:PileOK n gs N)(hn:n<=7):PileOK 7 gs N where
 ballots:=λg hg=>by have:=h.ballots g hg;exact⟨⟨this.1.1,λx hx=>by have:=this.1.2 x hx;omega⟩,this.2⟩
 sorted:=h.sorted
 total:=h.total
 most:=h.most
def PileOK.d146{n:Int}{gs:List Grp}{N:Int}(h:PileOK n gs N)(hn:n<=7):d146 gs=some true:=by unfold Go.Proofs.YtamgmpngdmnadaaGreat.d146;rw[(h.wide hn).d133 (by omega)];rfl
def PileOK.part{n:Int}{gs:List Grp}{N:Int}(h:PileOK n gs N){f:List Int->Int}(hf:∀p,0<=f p/\f p<=1)(i:Nat):0<=zbi f (gs.take i)/\zbi f (gs.take i)<=100000:=by
 have h1:=zgo (n:=n) (gs:=gs.take i) (λx hx=>h.ballots x (xca hx)) hf;have h2:=zgo (n:=n) (gs:=gs.drop i) (λx hx=>h.ballots x (xeu hx)) (f:=λ_=>1) (λ_=>by omega);have h3:zbi (λ_=>1) gs=zbi (λ_=>1) (gs.take i)+zbi (λ_=>1) (gs.drop i):=by rw[<-zgp,xcp]
 have h4:=h.total;have h5:=h.most;omega
def zat(p:List Int):Int:=if p=[]then 0 else 1
def PileOK.d92{n:Int}{gs:List Grp}{N:Int}(h:PileOK n gs N)(hn:n<=7):d92 gs=some (zbi zat gs):=by
 obtain⟨hl,hg⟩:=h.sizes hn;have hf:∀p,0<=zat p/\zat p<=1:=λp=>by unfold zat;split<;>omega
 unfold Go.Proofs.YtamgmpngdmnadaaGreat.d92;rw[h.d146 hn];simp only[xaa,xat,xaf];have:d161 gs (λa=>d163 a)=some (zbi zat gs):=by
  unfold d161;refine zaa (b:=zbi zat gs) (λi=>(λa=>d163 a,zbi zat (gs.take i),gs,(gs.length:Int),(i:Int))) gs.length rfl (λi hi=>?_) ?_ rfl
  ·have h2:(i:Int)<(gs.length:Int):=by omega
   have h3:(0:Int)<=(i:Int):=by omega
   have hw:w ((i:Int)+1)=((i+1:Nat):Int):=by rw[zqq (by omega) (by omega)];omega
   have e:=zdi zat gs hi;have b0:=h.part hf i;have b1:=h.part hf (i+1);simp only[h2,h3,hw,xbh,xab,xai,xam];obtain⟨g,hb⟩:∃g,gs.getD i ([],0)=g:=⟨_,rfl⟩;simp only[hb]at e ⊢;obtain⟨p,k⟩:=g;unfold d163;simp only at e ⊢;match p with
   | []=>
    have h0:zat []=0:=by simp[zat]
    rw[h0]at e
    have ha:w (zbi zat (gs.take i)+0)=zbi zat (gs.take (i+1)):=by rw[zqq (by omega) (by omega)];omega
    simp only[xee,Int.ofNat_zero,xbh,xab,xaa,ha]
   |y::p=>
    have h0:zat (y::p)=1:=by simp[zat]
    rw[h0]at e
    have h4:¬((((y::p).length:Nat):Int)=0):=by simp;omega
    have ha:w (zbi zat (gs.take i)+k)=zbi zat (gs.take (i+1)):=by rw[zqq (by omega) (by omega)];omega
    simp only[h4,xdc,xaf,xaa,ha]
  ·have h1:¬((gs.length:Int)<(gs.length:Int)):=by omega
   simp only[h1,xdc,xaf,xaz]
 rw[this];rfl
def rem(r:List Bool)(c:Int):Bool:=if c<(r.length:Int)then r.getD (Int.toNat c) false else false
def d147_eq(r:List Bool){c:Int}(hc:0<=c):d147 c r=some (rem r c):=by
 unfold d147 d148 rem;by_cases h:c<(r.length:Int);·simp only[h,hc,if_true,xbh,xab,xai,xaa]
 ·simp only[h,xcg,xdc,xaf,xaa]
def d84_on{s:List Int}{f:Int->Option Bool}{g:Int->Bool}(hf:∀c∈s,f c=some (g c))(hs:s.length<=281474976710656):d84 s f=some (if zag g s<s.length then(zag g s:Int)else -1):=by
 have hd:=zgx g s;unfold d84;have ha:∀i,i<zag g s->w ((i:Int)+1)=((i+1:Nat):Int):=λi hi=>by rw[zqq (by omega) (by omega)];omega
 have hb:∀i,i<s.length->f (s.getD i 0)=some (g (s.getD i 0)):=λi hi=>by rw[zcj s 0 hi];exact hf _ (xbf _)
 by_cases h:zag g s<s.length
 ·have hc:=zfq _ s h;refine zaa (b:=.inr (zag g s:Int)) (λi=>(s,f,(s.length:Int),(i:Int))) (zag g s) rfl ?_ ?_ (by simp[h])
  ·intro i hi;have h1:=zee g s i hi;have h2:(i:Int)<(s.length:Int):=by omega
   have h3:(0:Int)<=(i:Int):=by omega
   simp only[h2,h3,xbh,xab,xai,xam,hb i (by omega),h1,xaa,ha i hi,xaf]
  ·have h2:(zag g s:Int)<(s.length:Int):=by omega
   have h3:(0:Int)<=(zag g s:Int):=by omega
   simp only[h2,h3,xbh,xab,xai,xam,hb _ h,hc,xaa]
 ·refine zaa (b:=.inl ()) (λi=>(s,f,(s.length:Int),(i:Int))) s.length rfl ?_ ?_ (by simp[h])
  ·intro i hi;have h1:=zee g s i (by omega);have h2:(i:Int)<(s.length:Int):=by omega
   have h3:(0:Int)<=(i:Int):=by omega
   simp only[h2,h3,xbh,xab,xai,xam,hb i (by omega),h1,xaa,ha i (by omega),xaf]
  ·simp
def zhq(r:List Bool)(c:Int)(p:List Int):Int:=if zag (rem r) p<p.length/\p.getD (zag (rem r) p) 0=c then 1 else 0
def zcv(r:List Bool)(gs:List Grp):List Int:=(List.range r.length).map λ(c:Nat)=>zbi (zhq r (c:Int)) gs
def zrs(r:List Bool)(gs:List Grp):(zcv r gs).length=r.length:=by simp[zcv]
def zrt(r:List Bool)(gs:List Grp){c:Nat}(h:c<r.length):(zcv r gs).getD c 0=zbi (zhq r (c:Int)) gs:=by rw[zcj _ _ (by rw[zrs];exact h)];simp[zcv]
def zhp(r:List Bool)(p:List Int):Int:=if zag (rem r) p<p.length then 0 else 1
def PileOK.d81{n:Int}{gs:List Grp}{N:Int}(h:PileOK n gs N)(hn:n<=7){r:List Bool}(hr:r.length<=7):d81 gs r=some (zcv r gs,zbi (zhp r) gs):=by
 obtain⟨hl,hg⟩:=h.sizes hn;have hf:∀c p,0<=zhq r c p/\zhq r c p<=1:=λc p=>by unfold zhq;split<;>omega
 have hh:∀p,0<=zhp r p/\zhp r p<=1:=λp=>by unfold zhp;split<;>omega
 unfold Go.Proofs.YtamgmpngdmnadaaGreat.d81;rw[h.d146 hn];have hy:¬(7:Int)<(r.length:Int):=by omega
 have hs:(r.length:Int)<=LIM:=by rw[zia];omega
 have hk:(0:Int)<=(r.length:Int):=by omega
 simp only[xaa,xat,xap,xab,hy,hs,hk,xbh,xdc,zbl,xaf,xai,xam];refine zaa (b:=(zcv r gs,zbi (zhp r) gs)) (λi=>(r,zcv r (gs.take i),zbi (zhp r) (gs.take i),gs,(gs.length:Int),(i:Int))) gs.length ?_ (λi hi=>?_) ?_ rfl
 ·have:zcv r (gs.take 0)=List.replicate r.length 0:=by
   apply xhk;·simp[zcv]
   ·intro i h1 h2;simp[zcv,zbi]
  simp only[this];rfl
 ·have h2:(i:Int)<(gs.length:Int):=by omega
  have h3:(0:Int)<=(i:Int):=by omega
  have hw:w ((i:Int)+1)=((i+1:Nat):Int):=by rw[zqq (by omega) (by omega)];omega
  have e:∀f,zbi f (gs.take (i+1))=zbi f (gs.take i)+(gs.getD i ([],0)).2*f (gs.getD i ([],0)).1:=λf=>zdi f gs hi;have b0:=h.part hh i;have b1:=h.part hh (i+1);have b2:=λc=>h.part (hf c) i;have b3:=λc=>h.part (hf c) (i+1);have hm:gs.getD i ([],0)∈gs:=by rw[zcj gs _ hi];exact xbf _
  have he:=(hg _ hm).1;have ha:=(h.ballots _ hm).1;simp only[h2,h3,hw,xbh,xab,xai,xam];obtain⟨g,ho⟩:∃g,gs.getD i ([],0)=g:=⟨_,rfl⟩;simp only[ho]at e he ha ⊢;obtain⟨p,k⟩:=g;simp only at e he ha ⊢;rw[d84_on (g:=rem r) (λc hc=>d147_eq r (ha.2 c hc).1) (by omega)];simp only[xaa];by_cases c1:zag (rem r) p<p.length
  ·have hx:=zfq (rem r) p c1;have c2:¬(zag (rem r) p:Int)<0:=by omega
   have c3:(0:Int)<=(zag (rem r) p:Int):=by omega
   have c4:(zag (rem r) p:Int)<(p.length:Int):=by omega
   have hq:p.getD (zag (rem r) p) 0∈p:=by rw[zcj p 0 c1];exact xbf _
   have hz:=(ha.2 _ hq).1;simp only[c1,c2,c3,c4,if_true,xbh,xdc,xab,xaf,xai,xam];have ht:∀c,zhq r c p=if p.getD (zag (rem r) p) 0=c then 1 else 0:=λc=>by unfold zhq;simp only[c1,xgl]
   have hp:zhp r p=0:=by unfold zhp;rw[if_pos c1]
   generalize p.getD (zag (rem r) p) 0=x at *;have hu:x<(r.length:Int):=by
    unfold rem at hx;split at hx;·assumption
    ·cases hx
   have hv:(zcv r (gs.take i)).getD (Int.toNat x) 0=zbi (zhq r x) (gs.take i):=by rw[zrt r _ (by omega),show((Int.toNat x:Nat):Int)=x by omega]
   have ex:=e (zhq r x);rw[ht x,if_pos rfl]at ex;have bx0:=b2 x;have bx1:=b3 x;have hb:w (zbi (zhq r x) (gs.take i)+k)=zbi (zhq r x) (gs.take (i+1)):=by rw[zqq (by omega) (by omega)];omega
   have hd:(zcv r (gs.take i)).set (Int.toNat x) (zbi (zhq r x) (gs.take (i+1)))=zcv r (gs.take (i+1)):=by
    apply xhk;·simp[zcv]
    ·intro j h1 h2;rw[List.getElem_set];by_cases hj:Int.toNat x=j;·rw[if_pos hj];simp only[zcv,List.getElem_map,List.getElem_range];rw[show(j:Int)=x by omega]
     ·rw[if_neg hj];simp only[zcv,List.getElem_map,List.getElem_range];have ej:=e (zhq r (j:Int));rw[ht (j:Int),if_neg (by omega)]at ej;omega
   have e0:=e (zhp r);rw[hp]at e0;have e0':zbi (zhp r) (gs.take (i+1))=zbi (zhp r) (gs.take i):=by omega
   simp only[zrs,hz,hu,xbh,xab,xai,hv,hb,hd,e0']
  ·have c2:(-1:Int)<0:=by omega
   have h0:zhp r p=1:=by unfold zhp;rw[if_neg c1]
   have e0:=e (zhp r);rw[h0]at e0;have hb:w (zbi (zhp r) (gs.take i)+k)=zbi (zhp r) (gs.take (i+1)):=by rw[zqq (by omega) (by omega)];omega
   have hv:zcv r (gs.take (i+1))=zcv r (gs.take i):=by
    unfold zcv;refine xfx λc _=>?_;have ec:=e (zhq r (c:Int));have:zhq r (c:Int) p=0:=by unfold zhq;simp only[c1,xkd,xcg]
    rw[this]at ec;omega
   simp only[c1,c2,xcg,xbh,xab,hb,hv]
 ·have h1:¬((gs.length:Int)<(gs.length:Int)):=by omega
  simp only[h1,xdc,xaf,xaz]
def zli{f g:List Int->Int}:∀{gs:List Grp},(∀x∈gs,f x.1=g x.1)->zbi f gs=zbi g gs
 | [],_=>rfl
 |a::gs,h=>by unfold zbi;rw[h a (by simp),zli λx hx=>h x (xan _ hx)]
def wsum_sub(f g:List Int->Int):∀gs:List Grp,zbi (λp=>f p-g p) gs=zbi f gs-zbi g gs
 | []=>by simp[zbi]
 |a::gs=>by have:=wsum_sub f g gs;simp only[zbi,this,Int.mul_sub];omega
def wt_part{l:List Int}(h:WT (.slice (.int .i64)) l)(k:Nat):WT (.slice (.int .i64)) (l.take k):=⟨by have:=h.1;simp;omega,λx hx=>h.2 x (xca hx)⟩
def bal_isB{n:Int}(hn:0<n)(l:List Int):isB n (bal n l):=⟨zpc n l _,λx hx=>outs_in hn l _ x hx⟩
def balF(n:Int)(x:List Int):List Int:=bal n (x.take 12)
def bals(n:Int)(l:List (List Int))(most:Nat):List (List Int):=(l.take most).map (balF n)
def lim_small{α:Type}(l:List α)(z:α)(h:l.length<=1000000):((l.length:Int)+(([z]:List α).length:Int)<=LIM):=by rw[zia];simp;omega
def d60_eq{n:Int}(hn:0<n)(hn':n<=7){l:List (List Int)}(hl:l.length<=281474976710656)(hw:∀x∈l,WT (.slice (.int .i64)) x){most:Nat}(hm:most<=100):d60 n l (most:Int)=some (bals n l most):=by
 unfold d60;refine zaa (b:=bals n l most) (λi=>(n,l,(most:Int),(l.take i).map (balF n),(i:Int))) (min l.length most) rfl (λi hi=>?_) ?_ rfl
 ·have h1:(i:Int)<(l.length:Int):=by omega
  have h2:(i:Int)<(most:Int):=by omega
  have h3:(0:Int)<=(i:Int):=by omega
  have hd:w ((i:Int)+1)=((i+1:Nat):Int):=by rw[zqq (by omega) (by omega)];omega
  have hx:=hw (l.getD i []) (by rw[zcj l [] (by omega)];exact xbf _);have ht:=zgq l [] (by omega:i<l.length);simp only[h1,h2,h3,hd,zbl,xbh,xab,xai,xam];obtain⟨x,he⟩:∃x,l.getD i []=x:=⟨_,rfl⟩;simp only[he]at hx ht ⊢;have hc:zcr 0 (bif decide (12<(x.length:Int))then 12 else(x.length:Int)) x.length=true/\List.drop 0 (List.take (Int.toNat (bif decide (12<(x.length:Int))then 12 else(x.length:Int))) x)=x.take 12:=by
   by_cases c:12<x.length
   ·have c':(12:Int)<(x.length:Int):=by omega
    simp only[c',xbh,xab,xhi];exact⟨zlx (i:=12) (by omega),rfl⟩
   ·have c':¬(12:Int)<(x.length:Int):=by omega
    simp only[c',xdc,xaf,xhi,xam];exact⟨zlx (xag _),by rw[xbg (xag _),xbg (by omega)]⟩
  rw[hc.1,hc.2,d19_eq hn (by omega) (wt_part hx 12)];have ha:=lim_small ((l.take i).map (balF n)) (bal n (x.take 12)) (by simp;omega);simp only[xab,xaa,ha,xbh,ht,xcc,xdo,xfa];rfl
 ·have hb:(l.take (min l.length most)).map (balF n)=bals n l most:=by
   unfold bals;congr 1;by_cases c:l.length<=most;·rw[xfm c,xbg (xag _),xbg c]
   ·rw[Nat.min_eq_right (by omega)]
  simp only[zbl,hb];by_cases c:l.length<=most
  ·have h1:¬((min l.length most:Nat):Int)<(l.length:Int):=by omega
   simp only[h1,xdc,xaf]
  ·have h1:((min l.length most:Nat):Int)<(l.length:Int):=by omega
   have h2:¬((min l.length most:Nat):Int)<(most:Int):=by omega
   simp only[h1,h2,xbh,xdc,xab,xaf]
def bals_isB{n:Int}(hn:0<n){l:List (List Int)}{most:Nat}:∀b∈bals n l most,isB n b:=λb hb=>by obtain⟨x,_,rfl⟩:=xdx.1 hb;exact bal_isB hn _
def bals_len{n:Int}{l:List (List Int)}{most:Nat}:(bals n l most).length<=most:=by simp[bals];omega
def zdk(bs:List (List Int)):List Grp:=bs.foldl (λgs b=>zmw gs b 1) []
def bsum(f:List Int->Int):List (List Int)->Int
 | []=>0
 |b::bs=>f b+bsum f bs
def bsum_app(f:List Int->Int):∀a b,bsum f (a++b)=bsum f a+bsum f b
 | [],b=>by simp[bsum]
 |x::a,b=>by have:=bsum_app f a b;simp only[xcx,bsum,this];omega
def zmn(bs:List (List Int))(b:List Int):zdk (bs++[b])=zmw (zdk bs) b 1:=by simp[zdk]
def zsp{n:Int}(bs:List (List Int))(hb:∀b∈bs,isB n b)(hl:bs.length<=100000):PileOK n (zdk bs) (bs.length:Int)/\∀f,zbi f (zdk bs)=bsum f bs:=by
 have key:∀k,k<=bs.length->PileOK n (zdk (bs.take k)) (k:Int)/\∀f,zbi f (zdk (bs.take k))=bsum f (bs.take k):=by
  intro k;induction k with
  |zero=>intro _;exact⟨PileOK.nil n,λf=>rfl⟩
  |succ k ih=>intro hk;obtain⟨h1,h2⟩:=ih (by omega);have ht:=zgq bs [] (by omega:k<bs.length);have hm:=hb (bs.getD k []) (by rw[zcj bs [] (by omega)];exact xbf _);rw[ht,zmn];refine⟨?_,λf=>by rw[zrq,h2 f,bsum_app];simp[bsum]⟩;have:=h1.add hm (by omega);rwa[show(k:Int)+1=((k+1:Nat):Int) by omega]at this
 have:=key bs.length (xag _);rwa[xaz]at this
def GsOK(gs:List Grp):Prop:=gs.length<=281474976710656/\∀g∈gs,g.1.length<=281474976710656∧-9223372036854775808<=g.2/\g.2<=9223372036854775807
def goodP(n:Int)(gs:List Grp):Bool:=decide (∀i,i<gs.length->badG n gs i=false)
def zyg(n:Int)(gs:List Grp):Bool:=decide (1<=n/\n<=7)&&goodP n gs
def cmpL_lt(a b:List Int):decide (0<=cmpL a b)=!decide (a<b):=by
 unfold cmpL;by_cases h:a<b;·simp[h]
 ·by_cases h':b<a;·simp[h,h']
  ·simp[h,h']
def good_tot{n:Int}{gs:List Grp}(h:∀i,i<gs.length->badG n gs i=false):PileOK n gs (zbi (λ_=>1) gs) where
 ballots:=λg hg=>by obtain⟨i,hi,rfl⟩:=xdi hg;have:=h i hi;unfold badG at this;rw[zcj gs _ hi]at this;simp only[xct,xbj,xgw,xak]at this;exact⟨this.2.2.1,by omega⟩
 sorted:=by
  have zlm:∀i,i+1<gs.length->(gs.getD i ([],0)).1<(gs.getD (i+1) ([],0)).1:=λi hi=>by have:=h (i+1) hi;unfold badG at this;simp only[xct]at this;have:=this.2.2.2;rw[cmpL_lt]at this;simpa using this
  refine xex.2 λi j hi hj hij=>?_;have key:∀k,i+k+1<gs.length->(gs.getD i ([],0)).1<(gs.getD (i+k+1) ([],0)).1:=by
   intro k;induction k with
   |zero=>intro hk;exact zlm i hk
   |succ k ih=>intro hk;exact ziq (ih (by omega)) (zlm (i+k+1) (by omega))
  have:=key (j-i-1) (by omega);rw[show i+(j-i-1)+1=j by omega,zcj gs _ hi,zcj gs _ hj]at this;exact this
 total:=rfl
 most:=by have:=(zot (n:=n) (gs:=gs) (i:=gs.length) (xag _) λj hj=>h j hj).2;unfold tot at this;rwa[xaz]at this
def pileB_ok{n:Int}{gs:List Grp}(h:zyg n gs=true):1<=n/\n<=7/\PileOK n gs (zbi (λ_=>1) gs):=by unfold zyg at h;simp only[xal,xak]at h;exact⟨h.1.1,h.1.2,good_tot (xbc h.2)⟩
def PileOK.gs{n:Int}{gs:List Grp}{N:Int}(h:PileOK n gs N)(hn:n<=7):GsOK gs:=by obtain⟨h1,h2⟩:=h.sizes hn;exact⟨by omega,λg hg=>by have:=h2 g hg;omega⟩
end Go.Proofs.YtamgmpngdmnadaaGreat
namespace Go.Proofs.YtamgmpngdmnadaaGreat
open Tryz
open Go Go.X
def nv:List Int->Nat
 | []=>0
 |x::l=>x.toNat+4294967296*nv l
def IsL(l:List Int):Prop:=∀x∈l,0<=x/\x<4294967296
def NF(l:List Int):Prop:=IsL l/\l.getLast?≠some 0
def IsL.nil:IsL []:=λ_ h=>absurd h (by simp)
def IsL.cons{x:Int}{l:List Int}(h0:0<=x)(h1:x<4294967296)(h:IsL l):IsL (x::l):=λy hy=>by
 rcases xar.1 hy with rfl|hy
 ·exact⟨h0,h1⟩
 ·exact h y hy
def IsL.tail{x:Int}{l:List Int}(h:IsL (x::l)):IsL l:=λy hy=>h y (xan _ hy)
def IsL.head{x:Int}{l:List Int}(h:IsL (x::l)):0<=x/\x<4294967296:=h x xcz
def IsL.take{l:List Int}(h:IsL l)(k:Nat):IsL (l.take k):=λy hy=>h y (xca hy)
def IsL.getD{l:List Int}(h:IsL l)(i:Nat):0<=l.getD i 0/\l.getD i 0<4294967296:=by
 rw[xad];cases hi:l[i]? with
 |none=>simp
 |some x=>
  obtain⟨h1,h2⟩:=xei.1 hi;exact h x (h2▸xbf h1)
def IsL.set{l:List Int}(h:IsL l)(i:Nat){x:Int}(h0:0<=x)(h1:x<4294967296):IsL (l.set i x):=λy hy=>by
 rcases List.mem_or_eq_of_mem_set hy with hy|rfl
 ·exact h y hy
 ·exact⟨h0,h1⟩
def IsL.zeros(n:Nat):IsL (List.replicate n 0):=λy hy=>by rw[xem hy];omega
def znl:∀(a b:List Int),nv (a++b)=nv a+4294967296^a.length*nv b
 | [],b=>by simp[nv]
 |x::a,b=>by simp only[xcx,nv,znl a b,xbd,xcl];generalize 4294967296^a.length=P;rw[xcv,xdk,<-xbt,xce P 4294967296]
def zfu:∀n:Nat,nv (List.replicate n 0)=0
 | 0=>rfl
 |n+1=>by simp[List.replicate_succ,nv,zfu n]
def zyi:∀{l:List Int},IsL l->nv l<4294967296^l.length
 | [],_=>by simp[nv]
 |x::l,h=>by
  have ih:=zyi h.tail;have hx:=h.head;simp only[nv,xbd,xcl];generalize 4294967296^l.length=P at *;have:x.toNat<4294967296:=by omega
  omega
def NF.tail{x:Int}{l:List Int}(h:NF (x::l)):NF l:=⟨h.1.tail,λhe=>h.2 (by
 cases l with
 |nil=>simp at he
 |cons y l=>rw[List.getLast?_cons_cons];exact he)⟩
def NF.nil:NF []:=⟨IsL.nil,by simp⟩
def NF.pos:∀{l:List Int},NF l->l≠ []->0<nv l
 | [],_,h=>absurd rfl h
 | [x],h,_=>by have hx:=h.1.head;have:x≠0:=λe=>h.2 (by simp[e]);simp only[nv];omega
 |x::y::l,h,_=>by have:=NF.pos h.tail (by simp);simp only[nv]at this ⊢;omega
def nv_inj:∀{a b:List Int},NF a->NF b->nv a=nv b->a=b
 | [],[],_,_,_=>rfl
 | [],y::b,_,hb,h=>absurd (NF.pos hb (by simp)) (by rw[<-h];simp[nv])
 |x::a,[],ha,_,h=>absurd (NF.pos ha (by simp)) (by rw[h];simp[nv])
 |x::a,y::b,ha,hb,h=>by
  have hx:=ha.1.head;have hy:=hb.1.head;simp only[nv]at h;have h1:nv a=nv b:=by omega
  have h2:x=y:=by omega
  rw[h2,nv_inj ha.tail hb.tail h1]
def zbg(n:Nat):List Int:=if h:n=0 then []else((n%4294967296:Nat):Int)::zbg (n/4294967296)
 termination_by n
 decreasing_by exact Nat.div_lt_self (xgv h) (by omega)
def zer:zbg 0=[]:=by rw[zbg];simp
def znv{n:Nat}(h:n≠0):zbg n=((n%4294967296:Nat):Int)::zbg (n/4294967296):=by rw[zbg];simp[h]
def zyl(n:Nat):NF (zbg n)/\nv (zbg n)=n:=by
 induction n using Nat.strongRecOn with
 |_ n ih=>
  by_cases h:n=0;·subst h;rw[zer];exact⟨NF.nil,rfl⟩
  ·have⟨h1,h2⟩:=ih (n/4294967296) (Nat.div_lt_self (by omega) (by omega));rw[znv h];refine⟨⟨h1.1.cons (by omega) (by omega),?_⟩,?_⟩
   ·cases hl:zbg (n/4294967296)with
    |nil=>rw[hl]at h2;simp only[nv]at h2;simp only[List.getLast?_singleton,ne_eq,xaq];omega
    |cons y l=>rw[List.getLast?_cons_cons,<-hl];exact h1.2
   ·simp only[nv,h2];omega
def zop(n:Nat):NF (zbg n):=(zyl n).1
def zas(n:Nat):IsL (zbg n):=(zyl n).1.1
def zbd(n:Nat):nv (zbg n)=n:=(zyl n).2
def limbs_nv{l:List Int}(h:NF l):zbg (nv l)=l:=nv_inj (zop _) h (zbd _)
def limbs_nil{n:Nat}:zbg n=[]↔n=0:=⟨λh=>by rw[<-zbd n,h];rfl,λh=>by rw[h,zer]⟩
def zjj{n:Nat}:0<(zbg n).length↔0<n:=by rw[xcr,ne_eq,limbs_nil];omega
def zbk(n:Nat):∀k:Nat,(zbg n).length<=k↔n<4294967296^k:=by
 induction n using Nat.strongRecOn with
 |_ n ih=>
  intro k;by_cases h:n=0;·subst h;rw[zer];simp;exact xhn (by omega)
  ·rw[znv h,xbd];cases k with
   |zero=>simp;omega
   |succ k=>
    have:=ih (n/4294967296) (Nat.div_lt_self (by omega) (by omega)) k;rw[Nat.succ_le_succ_iff,this,xcl];exact xga (by omega)
def znc(l:List Int){n:Nat}(h:n<l.length):l.take (n+1)=l.take n++[l.getD n 0]:=by rw[xhd,xad,xaj h];rfl
def take_tlen{l:List Int}(h:IsL l):∀n,n<=l.length->l.take (tlen l n)=zbg (nv (l.take n))
 | 0,_=>by simp[tlen,nv,zer]
 |n+1,hn=>by
  have ih:=take_tlen h n (by omega);have hs:=znc l (n:=n) (by omega);unfold tlen;split;·rename_i h0;rw[ih,hs,znl,h0];simp[nv]
  ·rename_i h0;refine(limbs_nv ⟨h.take _,?_⟩).symm;rw[hs,List.getLast?_append];simp;exact h0
def take_tl{l:List Int}(h:IsL l):l.take (tlen l l.length)=zbg (nv l):=by have:=take_tlen h l.length (xag _);rwa[xaz]at this
def tlen_eq{l:List Int}(h:IsL l):tlen l l.length=(zbg (nv l)).length:=by have:=xbr List.length (take_tl h);rw[xax,xfm (tlen_le _ _)]at this;exact this
def limbs_le{l:List Int}(h:IsL l):(zbg (nv l)).length<=l.length:=by rw[<-tlen_eq h];exact tlen_le _ _
def digit_low{U V W top s t u0 z q r h:Nat}(hV:V=(h*4294967296+s)*W+t)(hU:U=(top*4294967296+u0)*W+z)(hz:z<W)(hq:q*h+r=top)(hc:r*4294967296+u0<q*s):U<q*V:=by
 have h1:(top*4294967296+u0)+1<=q*(h*4294967296+s):=by rw[<-hq,xcv,xco,<-xbt];omega
 have h2:=xau W h1;rw[xco,xji]at h2;rw[hV,xcv,<-xbt,hU];omega
def zws{U V W top s t u0 z q r h:Nat}(hV:V=(h*4294967296+s)*W+t)(hU:U=(top*4294967296+u0)*W+z)(ht:t<W)(hh:1<=h)(hq:q*h+r=top)(hq2:q<4294967296)(hc:q*s<=r*4294967296+u0):q*V<U+V:=by
 have h1:q*(h*4294967296+s)<=top*4294967296+u0:=by rw[<-hq,xcv,xco,<-xbt];omega
 have h2:=xau W h1;have h3:q*t<=4294967296*W:=xcu (by omega) (by omega);have h4:q*t<4294967296*W:=by
  rcases xdf q with h0|h0
  ·subst h0;rw[xfr];omega
  ·exact xav (Nat.mul_lt_mul_of_pos_left ht h0) (xau _ (by omega))
 have h5:4294967296*W<=V:=by rw[hV];have:4294967296*W<=(h*4294967296+s)*W:=xau _ (by omega);omega
 have h6:q*V=q*(h*4294967296+s)*W+q*t:=by rw[hV,xcv,<-xbt]
 omega
def zxd(i:Nat):0<4294967296^i:=xhn (by decide)
def nv_split(l:List Int)(i:Nat)(h:i<=l.length):nv l=nv (l.take i)+4294967296^i*nv (l.drop i):=by have:=znl (l.take i) (l.drop i);rw[xcp,xax,xfm h]at this;exact this
def nv_drop{l:List Int}(hl:IsL l){i:Nat}(h:i<=l.length):nv (l.drop i)=nv l/4294967296^i:=by have h1:=zyi (hl.take i);rw[xax,xfm h]at h1;rw[nv_split l i h,xjx _ _ (zxd i),xgp h1,xck]
def ztk(l:List Int){i:Nat}(h:i<l.length):l.drop i=l.getD i 0::l.drop (i+1):=by rw[xad,xaj h];exact xey h
def zif{l:List Int}(hl:IsL l)(i:Nat):l.getD i 0=((nv l/4294967296^i%4294967296:Nat):Int):=by
 by_cases h:i<l.length;·have h1:=nv_drop hl (xgk h);rw[ztk l h]at h1;simp only[nv]at h1;have h2:=hl.getD i;rw[<-h1];omega
 ·have h1:=zyi hl;rw[xad,xdm (by omega)];have h2:nv l<4294967296^i:=xav h1 (xdy (by decide) (by omega));rw[xgp h2];rfl
def znk:∀(l:List Int) (i:Nat) (x:Int),i<l.length->nv (l.set i x)+4294967296^i*(l.getD i 0).toNat=nv l+4294967296^i*x.toNat
 | [],i,x,h=>by simp at h
 |y::l,0,x,h=>by simp[nv];omega
 |y::l,i+1,x,h=>by
  have ih:=znk l i x (by simpa using h);simp only[List.set_cons_succ,nv,xin,xcl];generalize hP:4294967296^i=P at ih ⊢;generalize(l.getD i 0).toNat=c at ih ⊢;generalize x.toNat=e at ih ⊢;have e1:P*4294967296*c=4294967296*(P*c):=by rw[xce P 4294967296,xbt]
  have e2:P*4294967296*e=4294967296*(P*e):=by rw[xce P 4294967296,xbt]
  rw[e1,e2];omega
def zpe{l:List Int}(hl:IsL l){i:Nat}(x:Int)(h:i<l.length)(h0:nv l<4294967296^i):nv (l.set i x)=nv l+4294967296^i*x.toNat:=by have h1:=znk l i x h;rw[zif hl,xgp h0]at h1;simpa using h1
def zcg{n:Nat}(h:n<=4294967296):decide ((n:Int)<=LIM)=true:=by rw[zia];exact xae (by omega)
def lim_ok'{n:Int}(h:n<=4294967296):decide (n<=LIM)=true:=by rw[zia];exact xae h
def zdb{l:List Int}(h:IsL l):l.take (zbe l)=zbg (nv l):=take_tl h
def zci{l:List Int}(h:IsL l):(zbg (nv l)).length<=l.length:=limbs_le h
def zco{n:Int}(h0:0<=n)(h1:n<18446744073709551616):wu64 n=n:=by show IntKind.u64.wrap n=n;simp[IntKind.wrap,IntKind.bits,IntKind.signed];omega
def zmx(n:Int):wu32 n=n%4294967296:=by show IntKind.u32.wrap n=_;simp[IntKind.wrap,IntKind.bits,IntKind.signed]
def wu64_mod(n:Int):wu64 n=n%18446744073709551616:=by show IntKind.u64.wrap n=_;simp[IntKind.wrap,IntKind.bits,IntKind.signed]
def zbq{n:Int}(h0:-9223372036854775808<=n)(h1:n<=9223372036854775807):w n=n:=IntWalk.i64_in n ⟨h0,h1⟩
def sh32(n:Int):Int.fdiv n (2^(min (Int.toNat 32) 64))=n/4294967296:=by show Int.fdiv n 4294967296=_;exact xiq n (by decide)
def zal{α β R:Type}(f:α->β)(g:(α->β)->Option R):zbl f g=g f:=by
 cases h:zbl f g;·exact h.symm
 ·exact h.symm
def zcs{α β γ:Type}{f:α->Option (α⊕β)}{k:β->Option γ}{a0:α}{Q:Option γ->Prop}(R:Nat->α->Prop)(n:Nat)(h0:R 0 a0)(hs:∀i a,i<n->R i a->∃a',f a=some (.inl a')/\R (i+1) a')(he:∀a,R n a->∃b,f a=some (.inr b)/\Q (k b)):Q ((zac f a0).bind k):=by
 have key:∀m i a,i+m=n->R i a->∃b,zac f a=some b/\Q (k b):=by
  intro m;induction m with
  |zero=>
   intro i a hi hr;obtain rfl:i=n:=by omega
   obtain⟨b,h1,h2⟩:=he a hr;exact⟨b,zgu h1,h2⟩
  |succ m ih=>intro i a hi hr;obtain⟨a',h1,h2⟩:=hs i a (by omega) hr;obtain⟨b,h3,h4⟩:=ih (i+1) a' (by omega) h2;exact⟨b,zlj h1 h3,h4⟩
 obtain⟨b,h1,h2⟩:=key n 0 a0 (by omega) h0;rw[h1];exact h2
def zzd{xs:List Int}(h:xs.length<=4294967296):d228 xs=some xs:=by unfold d228;rw[zcg h];rfl
def zju{a:List Int}(ha:IsL a)(h:a.length<=4294967296):d226 a=some (zbg (nv a)):=by unfold d226;have:=zci ha;rw[zcg h,xab,xaa,zdb ha,zzd (by omega)];rfl
def ztz{n:Int}(h0:0<=n)(h1:n<18446744073709551616):d166 n=some (zbg n.toNat):=by
 unfold d166;have e1:wu32 n=n%4294967296:=zmx n;have e2:wu32 (wu64 (Int.fdiv n (2^(min (Int.toNat 32) 64))))=n/4294967296:=by rw[sh32,zco (by omega) (by omega),zmx];omega
 rw[e1,e2];have hL:IsL [n%4294967296,n/4294967296]:=IsL.cons (by omega) (by omega) (IsL.cons (by omega) (by omega) IsL.nil);rw[zju hL (by simp)];have:nv [n%4294967296,n/4294967296]=n.toNat:=by simp only[nv];omega
 rw[this];rfl
def d297_eq{a:List Int}(ha:IsL a){i:Int}(h0:0<=i):d297 a i=some (a.getD i.toNat 0):=by
 unfold d297;have hg:=ha.getD i.toNat;by_cases h:i<(a.length:Int);·simp only[h,h0,xbh,xab,xai];rw[zco hg.1 (by omega)]
 ·simp only[h,xdc,xaf];rw[xad,xdm (by omega)];rfl
def zjs{a:List Int}(ha:IsL a)(i:Nat):d297 a (i:Int)=some (a.getD i 0):=by rw[d297_eq ha (by omega)];rfl
def cmpN(x y:Nat):Int:=if x<y then -1 else if y<x then 1 else 0
def zkt{l:List Int}{k:Nat}(h:k<l.length):nv (l.take (k+1))=nv (l.take k)+4294967296^k*(l.getD k 0).toNat:=by rw[znc l h,znl,xax,xfm (by omega)];simp[nv]
def top_lt{l:List Int}(hl:IsL l)(k:Nat):nv (l.take k)<4294967296^k:=by have h1:=zyi (hl.take k);exact xav h1 (xdy (by decide) (by rw[xax];omega))
def digit_cmp{P p q x y:Nat}(hp:p<P)(hq:q<P)(h:x<y):p+P*x<q+P*y:=by have:P*(x+1)<=P*y:=xcy _ h;rw[xcv,xea]at this;omega
def d265_eq{a b:List Int}(ha:IsL a)(hb:IsL b)(la:a.length<=4294967296)(lb:b.length<=4294967296):d265 a b=some (cmpN (nv a) (nv b)):=by
 unfold d265;rw[zcg la,zcg lb];simp only[xab,xaa,zdb ha,zdb hb];have hm:=zci ha;have hn:=zci hb;have hA:=zas (nv a);have hB:=zas (nv b);have eA:=zbd (nv a);have eB:=zbd (nv b);have cA:=zbk (nv a);have cB:=zbk (nv b);generalize hxA:zbg (nv a)=A at *;generalize hxB:zbg (nv b)=B at *;by_cases hne:A.length=B.length
 ·have e1:decide ((A.length:Int)=(B.length:Int))=true:=xae (by omega);simp only[e1,xat,xaf];have key:∀k,k<=A.length->nv (A.drop k)=nv (B.drop k)->(zac (β:=Unit⊕Int) (λ((a_1,b_1,i):(List Int)×(List Int)×Int)=>bif (decide (0<=i))then bif (decide (0<=i)&&decide (i<(a_1.length:Int)))then bif (decide (0<=i)&&decide (i<(b_1.length:Int)))then bif (decide ((List.getD a_1 (Int.toNat i) 0)<(List.getD b_1 (Int.toNat i) 0)))then some (Sum.inr (Sum.inr (-1)))else bif (decide (0<=i)&&decide (i<(a_1.length:Int)))then bif (decide (0<=i)&&decide (i<(b_1.length:Int)))then bif (decide ((List.getD b_1 (Int.toNat i) 0)<(List.getD a_1 (Int.toNat i) 0)))then some (Sum.inr (Sum.inr 1))else some (Sum.inl (a_1,b_1,(w (i-1))))else none else none else none else none else some (Sum.inr (Sum.inl ()))) (A,B,(k:Int)-1)).bind (λ
  |Sum.inl _=>some 0
  |Sum.inr t4=>some t4)=some (cmpN (nv (A.take k)) (nv (B.take k))):=by
   intro k;induction k with
   |zero=>intro _ _;rw[zgu (b:=Sum.inl ()) (by rfl)];rfl
   |succ k ih=>
    intro hk hd;have he:k<A.length:=by omega
    have hf:k<B.length:=by omega
    have i1:((k+1:Nat):Int)-1=(k:Int):=by omega
    rw[i1];have d0:decide ((0:Int)<=(k:Int))=true:=xae (by omega);have dA:decide ((k:Int)<(A.length:Int))=true:=xae (by omega);have dB:decide ((k:Int)<(B.length:Int))=true:=xae (by omega);have tA:=zkt he;have tB:=zkt hf;have lA:=top_lt hA k;have lB:=top_lt hB k;have gA:=hA.getD k;have gB:=hB.getD k;rw[tA,tB];have hc:Int.toNat (k:Int)=k:=rfl;rcases Int.lt_trichotomy (A.getD k 0) (B.getD k 0)with h|h|h
    ·rw[zgu (b:=Sum.inr (-1)) (by simp only[d0,dA,dB,hc,xae h,xab,xai])];have:=digit_cmp lA lB (show(A.getD k 0).toNat<(B.getD k 0).toNat by omega);simp only[xaa];unfold cmpN;rw[if_pos this]
    ·have hg:nv (A.drop k)=nv (B.drop k):=by rw[ztk A he,ztk B hf];simp only[nv,hd,h]
     have:=ih (by omega) hg;have hw:w ((k:Int)-1)=(k:Int)-1:=zbq (by omega) (by omega);obtain⟨z,hz⟩:∃z,cmpN (nv (A.take k)+4294967296^k*(A.getD k 0).toNat) (nv (B.take k)+4294967296^k*(B.getD k 0).toNat)=z:=⟨_,rfl⟩;have hi:cmpN (nv (A.take k)) (nv (B.take k))=z:=by rw[<-hz,h];unfold cmpN;generalize 4294967296^k*(B.getD k 0).toNat=q;(repeat' split)<;>omega
     rw[hz];rw[hi]at this;simp only[xbk]at this ⊢;obtain⟨b,hj,hl⟩:=this;refine⟨b,zlj ?_ hj,hl⟩;have n1:decide (A.getD k 0<B.getD k 0)=false:=xah (by omega);have n2:decide (B.getD k 0<A.getD k 0)=false:=xah (by omega);simp only[d0,dA,dB,hc,n1,n2,xab,xaf,xai,hw]
    ·have n1:decide (A.getD k 0<B.getD k 0)=false:=xah (by omega);rw[zgu (b:=Sum.inr 1) (by simp only[d0,dA,dB,hc,n1,xae h,xab,xaf,xai])];have:=digit_cmp lB lA (show(B.getD k 0).toNat<(A.getD k 0).toNat by omega);simp only[xaa];unfold cmpN;rw[if_neg (by omega),if_pos this]
  have:=key A.length (xag _) (by rw[List.drop_length,hne,List.drop_length]);rw[xaz,hne,xaz,eA,eB]at this;rw[zbq (by omega) (by omega),hne];exact this
 ·have e1:decide ((A.length:Int)=(B.length:Int))=false:=xah (by omega);simp only[e1,xap,xab];rcases xeo A.length B.length with h|h
  ·have e2:decide ((A.length:Int)<(B.length:Int))=true:=xae (by omega);have h1:=(cA A.length).1 (xag _);have h2:¬nv b<4294967296^A.length:=λhh=>by have:=(cB A.length).2 hh;omega
   simp only[e2,xab];unfold cmpN;rw[if_pos (by omega)]
  ·have e2:decide ((A.length:Int)<(B.length:Int))=false:=xah (by omega);have h1:=(cB B.length).1 (xag _);have h2:¬nv a<4294967296^B.length:=λhh=>by have:=(cA B.length).2 hh;omega
   simp only[e2,xaf];unfold cmpN;rw[if_neg (by omega),if_pos (by omega)]
def nv_takeS{l:List Int}(k:Nat):nv (l.take (k+1))=nv (l.take k)+4294967296^k*(l.getD k 0).toNat:=by
 by_cases h:k<l.length;·exact zkt h
 ·rw[xbg (by omega),xbg (by omega),xad,xdm (by omega)];simp
def zfx{l:List Int}(hl:IsL l)(k:Nat):∃x:Nat,l.getD k 0=(x:Int)/\x<4294967296/\nv (l.take (k+1))=nv (l.take k)+4294967296^k*x:=by have:=hl.getD k;refine⟨(l.getD k 0).toNat,by omega,by omega,nv_takeS k⟩
def pow_digit{P v x:Nat}(hv:v<P)(hx:x<4294967296):v+P*x<P*4294967296:=by have:P*(x+1)<=P*4294967296:=xcy _ hx;rw[xcv,xea]at this;omega
def lenmax(x y:Nat):(bif decide ((x:Int)<(y:Int))then(y:Int)else(x:Int))=((max x y:Nat):Int):=by
 by_cases h:(x:Int)<(y:Int);·rw[xae h,xab];omega
 ·rw[xah h,xaf];omega
def carry_step{P v s lo hi c x y a b:Nat}(hs:s=x+y+c)(hlo:lo=s%4294967296)(hhi:hi=s/4294967296)(h:v+P*c=a+b):v+P*lo+P*4294967296*hi=a+P*x+(b+P*y):=by
 have e:s=lo+4294967296*hi:=by omega
 have:P*s=P*lo+P*4294967296*hi:=by rw[e,xcv,xbt]
 have e2:P*s=P*x+P*y+P*c:=by rw[hs,xcv,xcv]
 omega
def d271_eq{a b:List Int}(ha:IsL a)(hb:IsL b)(la:a.length<=1073741824)(lb:b.length<=1073741824):d271 a b=some (zbg (nv a+nv b)):=by
 unfold d271;rw[zcg (by omega),zcg (by omega)];simp only[xab,xaa,zdb ha,zdb hb];have hk:=zci ha;have hm:=zci hb;have hA:=zas (nv a);have hB:=zas (nv b);have eA:=zbd (nv a);have eB:=zbd (nv b);generalize hxA:zbg (nv a)=A at *;generalize hxB:zbg (nv b)=B at *;clear hxA hxB;simp only[lenmax];obtain⟨n,hn⟩:∃n,max A.length B.length=n:=⟨_,rfl⟩;have hh:A.length<=n:=by omega
 have he:B.length<=n:=by omega
 have hp:n<=1073741824:=by omega
 rw[hn];have w1:w ((n:Int)+1)=((n+1:Nat):Int):=by rw[zbq (by omega) (by omega)];omega
 have g1:decide ((0:Int)<=((n+1:Nat):Int))=true:=xae (by omega);simp only[w1,xbh,g1,zcg (n:=n+1) (by omega),xai,xab];refine zcs (Q:=λr=>r=some (zbg (nv a+nv b))) (λ(i:Nat) (st:(List Int)×(List Int)×Int×(List Int)×Int×Int×Int)=>∃(out:List Int) (c:Nat),st=(A,B,(n:Int),out,(c:Int),(n:Int),(i:Int))/\IsL out/\out.length=n+1/\c<=1/\nv out+4294967296^i*c=nv (A.take i)+nv (B.take i)/\nv out<4294967296^i) n ?_ ?_ ?_;·exact⟨List.replicate (n+1) 0,0,rfl,IsL.zeros _,by simp,by omega,by simp[zfu,nv],by simp[zfu]⟩
 ·rintro i st hi ⟨out,c,rfl,hL,hlen,hc,hv,hlt⟩;obtain⟨x,hj,hl,hd⟩:=zfx hA i;obtain⟨y,hg,ho,hf⟩:=zfx hB i;have q1:decide ((i:Int)<(n:Int))=true:=xae (by omega);have q2:decide ((0:Int)<=(i:Int))=true:=xae (by omega);have q3:decide ((i:Int)<(out.length:Int))=true:=xae (by omega);have w2:w ((i:Int)+1)=((i+1:Nat):Int):=by rw[zbq (by omega) (by omega)];omega
  have s1:wu64 ((x:Int)+(y:Int))=(x:Int)+y:=zco (by omega) (by omega);have s2:wu64 ((x:Int)+(y:Int)+(c:Int))=(x:Int)+y+c:=zco (by omega) (by omega);have s3:wu32 ((x:Int)+(y:Int)+(c:Int))=(((x+y+c)%4294967296:Nat):Int):=by rw[zmx];omega
  have s4:wu64 (((x:Int)+(y:Int)+(c:Int))/4294967296)=(((x+y+c)/4294967296:Nat):Int):=by rw[zco (by omega) (by omega)];omega
  simp only[zjs hA,zjs hB,q1,q2,q3,w2,hj,hg,s1,s2,s3,sh32,s4,xab,xai,xaa,show Int.toNat (i:Int)=i from rfl];have e1:=zpe hL (i:=i) (((x+y+c)%4294967296:Nat):Int) (by omega) hlt;rw[xam]at e1;refine⟨_,rfl,_,_,rfl,hL.set i (by omega) (by omega),by simpa using hlen,by omega,?_,?_⟩;·rw[e1,hd,hf,xcl];exact carry_step rfl rfl rfl hv
  ·rw[e1,xcl];exact pow_digit hlt (by omega)
 ·rintro st ⟨out,c,rfl,hL,hlen,hc,hv,hlt⟩;have q1:decide ((n:Int)<(n:Int))=false:=xah (by omega);have q2:decide ((0:Int)<=(n:Int))=true:=xae (by omega);have q3:decide ((n:Int)<(out.length:Int))=true:=xae (by omega);have s3:wu32 (c:Int)=(c:Int):=by rw[zmx];omega
  refine⟨((n:Int),out,(c:Int)),by simp only[q1,xaf],?_⟩;simp only[q2,q3,s3,xab,xai,show Int.toNat (n:Int)=n from rfl];have e1:=zpe hL (i:=n) (c:Int) (by omega) hlt;rw[xam]at e1;rw[xbg hh,xbg he,eA,eB]at hv;rw[zju (hL.set n (by omega) (by omega)) (by simp;omega),e1,hv];rfl
def znj{l:List Int}(hl:IsL l){k m:Nat}{x:Int}(h0:0<=x)(h1:x<4294967296)(hk:k<m)(hv:nv l<4294967296^m):nv (l.set k x)<4294967296^m:=by
 have hs:=hl.set k h0 h1;by_cases h:m<=l.length;·have e1:(l.set k x).drop m=l.drop m:=List.drop_set_of_lt hk;have e2:=nv_drop hl h;rw[xgp hv]at e2;rw[nv_split (l.set k x) m (by simpa using h),e1,e2,xiu,xdl];exact top_lt hs m
 ·have:=zyi hs;rw[xcd]at this;exact xav this (xdy (by decide) (by omega))
def or_add{a b n:Nat}(h:a<2^n):a|||b*2^n=a+b*2^n:=by rw[Nat.or_comm,xce b,xia,<-Nat.two_pow_add_eq_or_of_lt h b]
def zks(k n:Nat)(h:n<2^k):(BitVec.ofInt k (n:Int)).toNat=n:=by rw[BitVec.ofInt_natCast,BitVec.toNat_ofNat,xdz h]
def or64{a b:Nat}(ha:a<4294967296)(hb:b<4294967296):(BitVec.ofInt 64 ((a*4294967296:Nat):Int)|||BitVec.ofInt 64 (b:Int)).toNat=a*4294967296+b:=by rw[xjw,zks 64 _ (by omega),zks 64 _ (by omega),Nat.or_comm];have:=or_add (a:=b) (b:=a) (n:=32) hb;rw[show(2:Nat)^32=4294967296 from rfl]at this;rw[this];omega
def zbm{n:Nat}(h:n<18446744073709551616):wu64 (n:Int)=(n:Int):=zco (by omega) (by omega)
def zei{n:Nat}:wu32 (n:Int)=((n%4294967296:Nat):Int):=by rw[zmx];omega
def shl32(n:Nat):(n:Int)*2^(min (Int.toNat 32) 64)=((n*4294967296:Nat):Int):=by show(n:Int)*4294967296=_;omega
def shr32(n:Nat):Int.fdiv (n:Int) (2^(min (Int.toNat 32) 64))=((n/4294967296:Nat):Int):=by rw[sh32];omega
def or64w{a b:Nat}(ha:a<4294967296)(hb:b<4294967296):wu64 (((BitVec.ofInt 64 (wu64 ((a:Int)*2^(min (Int.toNat 32) 64)))|||BitVec.ofInt 64 (wu64 (b:Int))).toNat:Nat):Int)=((a*4294967296+b:Nat):Int):=by rw[shl32,zbm (n:=a*4294967296) (by omega),zbm (n:=b) (by omega),or64 ha hb,zbm (by omega)]
def zus{a b:Nat}(h:a+b<=9223372036854775807):w ((a:Int)+(b:Int))=((a+b:Nat):Int):=by rw[zbq (by omega) (by omega)];omega
def zmh{a:Nat}(h:a<9223372036854775807):w ((a:Int)+1)=((a+1:Nat):Int):=by rw[zbq (by omega) (by omega)];omega
theorem wsx(a:Nat)(h:a<9223372036854775807:=by omega):w ((a:Int)+1)=((a+1:Nat):Int):=zmh h
def zur{a:Nat}(h:a<9223372036854775807):w (((a+1:Nat):Int)-1)=(a:Int):=by rw[zbq (by omega) (by omega)];omega
def dlt{a b:Nat}(h:a<b):decide ((a:Int)<(b:Int))=true:=xae (by omega)
def nlt{a b:Nat}(h:b<=a):decide ((a:Int)<(b:Int))=false:=xah (by omega)
def zbp(a:Nat):decide ((0:Int)<=(a:Int))=true:=xae (by omega)
def tn(a:Nat):Int.toNat (a:Int)=a:=rfl
def cmpN_lt(x y:Nat):decide (cmpN x y<0)=decide (x<y):=by
 unfold cmpN;by_cases h:x<y;·rw[if_pos h,xae h];rfl
 ·rw[if_neg h,xah h];split<;>rfl
def zfo{x y:Nat}(h:x<=y):(zbg x).length<=(zbg y).length:=by have h1:=(zbk y (zbg y).length).1 (xag _);exact(zbk x _).2 (by omega)
def borrow_step{P v s lo h c c' x y a b:Nat}(hs:s+y+c=4294967296+x)(hlo:s=lo+4294967296*h)(hc:c'+h=1)(e:v+b=a+P*c):v+P*lo+(b+P*y)=a+P*x+P*4294967296*c':=by
 have e1:lo+y+c=x+4294967296*c':=by omega
 have e2:=xbr (P * ·) e1;simp only[xcv,<-xbt]at e2;omega
def d272_eq{a b:List Int}(ha:IsL a)(hb:IsL b)(la:a.length<=1073741824)(lb:b.length<=1073741824):d272 a b=some (if nv a<nv b then([],false)else(zbg (nv a-nv b),true)):=by
 unfold d272;rw[zcg (by omega),zcg (by omega)];simp only[xab,xaa,zdb ha,zdb hb];have hk:=zci ha;have hn:=zci hb;have hA:=zas (nv a);have hB:=zas (nv b);have eA:=zbd (nv a);have eB:=zbd (nv b);have hm:=@zfo (nv b) (nv a);generalize hxA:zbg (nv a)=A at *;generalize hxB:zbg (nv b)=B at *;clear hxA hxB;rw[d265_eq hA hB (by omega) (by omega),eA,eB];simp only[xaa,cmpN_lt];by_cases hlt:nv a<nv b;·rw[xae hlt,if_pos hlt];rfl
 rw[xah hlt,if_neg hlt];have he:=hm (by omega);simp only[xaf,xbh,zbp,zcg (n:=A.length) (by omega),xai,xab,tn];refine zcs (Q:=λr=>r=some (zbg (nv a-nv b),true)) (λ(i:Nat) (st:(List Int)×(List Int)×(List Int)×Int×Int×Int)=>∃(out:List Int) (c:Nat),st=(A,B,out,(c:Int),(A.length:Int),(i:Int))/\IsL out/\out.length=A.length/\c<=1/\nv out+nv (B.take i)=nv (A.take i)+4294967296^i*c/\nv out<4294967296^i) A.length ?_ ?_ ?_;·exact⟨List.replicate A.length 0,0,rfl,IsL.zeros _,by simp,by omega,by simp[zfu,nv],by simp[zfu]⟩
 ·rintro i st hi ⟨out,c,rfl,hL,hlen,hc,hv,hv2⟩;obtain⟨x,hh,hl,hd⟩:=zfx hA i;obtain⟨y,hg,ho,hf⟩:=zfx hB i;obtain⟨s,hs⟩:∃s,4294967296+x-y-c=s:=⟨_,rfl⟩;have s1:wu64 (4294967296+(x:Int))=4294967296+(x:Int):=zco (by omega) (by omega);have s2:wu64 (4294967296+(x:Int)-(y:Int))=4294967296+(x:Int)-y:=zco (by omega) (by omega);have s3:wu64 (4294967296+(x:Int)-(y:Int)-(c:Int))=(s:Int):=by rw[zco (by omega) (by omega)];omega
  have s4:wu64 (((s/4294967296:Nat):Int))=((s/4294967296:Nat):Int):=zbm (by omega);have s5:wu64 (1-((s/4294967296:Nat):Int))=((1-s/4294967296:Nat):Int):=by rw[zco (by omega) (by omega)];omega
  simp only[zjs hA,zjs hB,dlt hi,zbp,dlt (show i<out.length by omega),wsx i,hh,hg,s1,s2,s3,shr32,s4,s5,zei,xab,xai,xaa,tn];have e1:=zpe hL (i:=i) (((s%4294967296:Nat):Int)) (by omega) hv2;rw[xam]at e1;refine⟨_,rfl,_,_,rfl,hL.set i (by omega) (by omega),by simpa using hlen,by omega,?_,?_⟩;·rw[e1,hd,hf,xcl];exact borrow_step (s:=s) (h:=s/4294967296) (by omega) (by omega) (by omega) hv
  ·rw[e1,xcl];exact pow_digit hv2 (by omega)
 ·rintro st ⟨out,c,rfl,hL,hlen,hc,hv,hv2⟩;refine⟨out,by simp only[nlt (xag A.length),xaf],?_⟩;rw[xbg (xag _),xbg he,eA,eB]at hv;have hj:c=0:=by
   rcases xdf c with h|h
   ·exact h
   ·have:c=1:=by omega
    subst this;omega
  subst hj;show(d226 out).bind _=_;rw[zju hL (by omega),show nv out=nv a-nv b by omega];rfl
def mul_step{P v s lo hi c x y o t:Nat}(hs:s=x*y+o+c)(hlo:s=lo+4294967296*hi):P*lo+P*4294967296*hi=P*(x*y)+P*o+P*c:=by have e2:=xbr (P * ·) (hlo.symm.trans hs);simp only[xcv,<-xbt]at e2 ⊢;omega
def zmt{a b:List Int}(ha:IsL a)(hb:IsL b)(la:a.length<=1073741824)(lb:b.length<=1073741824):d231 a b=some (zbg (nv a*nv b)):=by
 unfold d231;rw[zcg (by omega),zcg (by omega)];simp only[xab,xaa,zdb ha,zdb hb];have hm:=zci ha;have ho:=zci hb;have hA:=zas (nv a);have hB:=zas (nv b);have eA:=zbd (nv a);have eB:=zbd (nv b);generalize hxA:zbg (nv a)=A at *;generalize hxB:zbg (nv b)=B at *;clear hxA hxB;simp only[zus (show A.length+B.length<=9223372036854775807 by omega),xbh,zbp,zcg (n:=A.length+B.length) (by omega),xai,xab,tn];refine zcs (Q:=λr=>r=some (zbg (nv a*nv b))) (λ(i:Nat) (st:(List Int)×(List Int)×(List Int)×Int×Int)=>∃(out:List Int),st=(B,out,A,(A.length:Int),(i:Int))/\IsL out/\out.length=A.length+B.length/\nv out=nv (A.take i)*nv B) A.length ?_ ?_ ?_;·exact⟨_,rfl,IsL.zeros _,by simp,by simp[zfu,nv]⟩
 ·rintro i st hi ⟨out,rfl,hL,hlen,hv⟩;obtain⟨x,hl,hn,hf⟩:=zfx hA i;have he:nv out<4294967296^(i+B.length):=by rw[hv,xez];exact Nat.mul_lt_mul'' (top_lt hA i) (zyi hB)
  simp only[dlt hi,zbp,xab,xai,tn,hl];refine zcs (Q:=λ(r:Option (((List Int)×(List Int)×(List Int)×Int×Int)⊕(List Int)))=>∃a',r=some (.inl a')/\∃(out:List Int),a'=(B,out,A,(A.length:Int),((i+1:Nat):Int))/\IsL out/\out.length=A.length+B.length/\nv out=nv (A.take (i+1))*nv B)
   (λ(j:Nat) (st:(List Int)×(List Int)×Int×Int×Int×(List Int)×Int×Int×(List Int)×Int×Int)=>∃(o:List Int) (c:Nat),st=(B,o,(i:Int),(x:Int),(c:Int),A,(A.length:Int),(i:Int),B,(B.length:Int),(j:Int))/\IsL o/\o.length=A.length+B.length/\c<4294967296/\nv o+4294967296^i*4294967296^j*c=nv out+4294967296^i*(x*nv (B.take j))/\nv o<4294967296^(i+B.length)) B.length ?_ ?_ ?_
  ·exact⟨out,0,rfl,hL,hlen,by omega,by simp[nv],he⟩
  ·rintro j st hj ⟨o,c,rfl,hL',hlen',hc,hv',hlt'⟩;obtain⟨y,hh,hq,hg⟩:=zfx hB j;have hz:=hL'.getD (i+j);obtain⟨z,hd⟩:∃z:Nat,o.getD (i+j) 0=(z:Int):=⟨_,(xho hz.1).symm⟩;rw[hd]at hz;obtain⟨p,hp⟩:∃p,x*y=p:=⟨_,rfl⟩;have hr:p<=4294967295*4294967295:=by rw[<-hp];exact xcu (by omega) (by omega)
   have hk:(x:Int)*(y:Int)=(p:Int):=by rw[<-hp];simp
   have s1:wu64 ((p:Int)+(z:Int))=((p+z:Nat):Int):=by rw[zco (by omega) (by omega)];omega
   have s2:wu64 (((p+z:Nat):Int)+(c:Int))=((p+z+c:Nat):Int):=by rw[zco (by omega) (by omega)];omega
   obtain⟨s,hs⟩:∃s,p+z+c=s:=⟨_,rfl⟩;have s4:wu64 (((s/4294967296:Nat):Int))=((s/4294967296:Nat):Int):=zbm (by omega);simp only[dlt hj,zbp,zus (show i+j<=9223372036854775807 by omega),dlt (show i+j<o.length by omega),xab,xai,tn,hh,hd,zbm (show x<18446744073709551616 by omega),zbm (show y<18446744073709551616 by omega),zbm (show z<18446744073709551616 by omega),hk,zbm (show p<18446744073709551616 by omega),s1,s2,hs,zei,shr32,s4,wsx j];have e1:=znk o (i+j) (((s%4294967296:Nat):Int)) (by omega);rw[xam,hd,xam]at e1;refine⟨_,rfl,_,_,rfl,hL'.set _ (by omega) (by omega),by simpa using hlen',by omega,?_,znj hL' (by omega) (by omega) (by omega) hlt'⟩;rw[hg,xcl];rw[xez]at e1;have e2:s=x*y+z+c:=by rw[hp,hs]
   have e3:=mul_step (P:=4294967296^i*4294967296^j) (v:=0) (t:=0) e2 (show s=s%4294967296+4294967296*(s/4294967296) by omega);have e4:4294967296^i*(x*(nv (B.take j)+4294967296^j*y))=4294967296^i*(x*nv (B.take j))+4294967296^i*4294967296^j*(x*y):=by rw[xcv,xcv];congr 1;rw[Nat.mul_left_comm x,<-xbt]
   rw[e4];rw[<-xbt (4294967296^i) (4294967296^j) 4294967296];omega
  ·rintro st ⟨o,c,rfl,hL',hlen',hc,hv',hlt'⟩;refine⟨_,by simp only[nlt (xag B.length),xaf];rfl,?_⟩;simp only[zbp,zus (show i+B.length<=9223372036854775807 by omega),dlt (show i+B.length<o.length by omega),xab,xai,tn,wsx i,zei,xdz hc];have e1:=zpe hL' (i:=i+B.length) (c:Int) (by omega) hlt';rw[xam]at e1;refine⟨_,rfl,_,rfl,hL'.set _ (by omega) (by omega),by simpa using hlen',?_⟩;rw[xbg (xag _)]at hv';rw[e1,hf,xco,xez,hv',hv,xbt]
 ·rintro st ⟨out,rfl,hL,hlen,hv⟩;refine⟨out,by simp only[nlt (xag A.length),xaf],?_⟩;rw[xbg (xag _),eA,eB]at hv;show(d226 out).bind _=_;rw[zju hL (by omega),hv];rfl
def zuw{α β γ:Type}{f:α->Option (α⊕β)}{k:β->Option γ}{a0:α}{Q:Option γ->Prop}(R:Nat->α->Prop)(n:Nat)(h0:R n a0)(hs:∀i a,i<n->R (i+1) a->∃a',f a=some (.inl a')/\R i a')(he:∀a,R 0 a->∃b,f a=some (.inr b)/\Q (k b)):Q ((zac f a0).bind k):=by
 refine zcs (Q:=Q) (λi a=>i<=n/\R (n-i) a) n ⟨xbx _,h0⟩ ?_ ?_;·rintro i a hi ⟨h1,h2⟩;rw[show n-i=n-(i+1)+1 by omega]at h2;obtain⟨a',h3,h4⟩:=hs (n-(i+1)) a (by omega) h2;exact⟨a',h3,hi,h4⟩
 ·rintro a ⟨_,h⟩;rw[xen]at h;exact he a h
def getD_set_ne(l:List Int){i j:Nat}(x:Int)(h:i≠j):(l.set i x).getD j 0=l.getD j 0:=by simp only[xad,xjz h]
def zwk(n i:Nat):(List.replicate n (0:Int)).getD i 0=0:=by rw[xad,xhv];split<;>rfl
def short_step{P V q r t x d X:Nat}(h:V=q*d+P*4294967296*r+(t+P*x))(hX:X=r*4294967296+x):V=(q+P*(X/d))*d+P*(X%d)+t:=by
 have e:=xgy X d;have e1:P*X=P*(X/d)*d+P*(X%d):=by rw[xbt,xce (X/d),<-xcv,e]
 have e2:P*X=P*4294967296*r+P*x:=by rw[hX,xcv,xbt,xce r]
 rw[xco];omega
def d266_eq{a:List Int}(ha:IsL a)(la:a.length<=1073741824){d:Nat}(hd:0<d)(hd2:d<4294967296):∃q,d266 a (d:Int)=some (q,((nv a%d:Nat):Int))/\IsL q/\q.length=a.length/\nv q=nv a/d:=by
 unfold d266;simp only[xbh,zbp,zcg (n:=a.length) (by omega),xai,xab,tn];have hg:decide ((d:Int)=0)=false:=xah (by omega);refine zuw (Q:=λr=>∃q,r=some (q,((nv a%d:Nat):Int))/\IsL q/\q.length=a.length/\nv q=nv a/d) (λ(i:Nat) (st:(List Int)×Int×(List Int)×Int×Int)=>∃(q:List Int) (r:Nat),st=(a,(d:Int),q,(r:Int),(i:Int)-1)/\i<=a.length/\IsL q/\q.length=a.length/\r<d/\(∀k,k<i->q.getD k 0=0)/\nv a=nv q*d+4294967296^i*r+nv (a.take i)) a.length ?_ ?_ ?_;·refine⟨_,0,by rw[zbq (by omega) (by omega)];rfl,xag _,IsL.zeros _,by simp,hd,λk _=>zwk _ k,by simp[zfu]⟩
 ·rintro i st hi ⟨q,r,rfl,hia,hL,hlen,hr,hz,hv⟩;obtain⟨x,hh,hf,he⟩:=zfx ha i;have hc:(((i+1:Nat):Int))-1=(i:Int):=by omega
  obtain⟨X,hX⟩:∃X,r*4294967296+x=X:=⟨_,rfl⟩;have hb:X/d<4294967296:=by rw[xga hd];have:(r+1)*4294967296<=d*4294967296:=xau _ hr;rw[xce 4294967296];omega
  have hj:X%d<d:=xfu _ hd;have t1:Int.tdiv (X:Int) (d:Int)=((X/d:Nat):Int):=rfl;have t2:Int.tmod (X:Int) (d:Int)=((X%d:Nat):Int):=rfl;have hw:w ((i:Int)-1)=(i:Int)-1:=zbq (by omega) (by omega);simp only[hc,zbp,dlt (show i<a.length by omega),dlt (show i<q.length by omega),hg,xap,xab,xai,tn,hh,or64w (show r<4294967296 by omega) hf,hX,t1,t2,zbm (show X/d<18446744073709551616 by omega),zbm (show X%d<18446744073709551616 by omega),zei,xdz hb,hw];have e1:=znk q i (((X/d:Nat):Int)) (by omega);rw[hz i (by omega),xam]at e1;refine⟨_,rfl,_,_,rfl,by omega,hL.set i (Int.natCast_nonneg _) (by rw[show(4294967296:Int)=((4294967296:Nat):Int)from rfl];exact Int.ofNat_lt.2 hb),by simpa using hlen,hj,λk hk=>by rw[getD_set_ne _ _ (by omega)];exact hz k (by omega),?_⟩;have e2:nv (q.set i (((X/d:Nat):Int)))=nv q+4294967296^i*(X/d):=by simpa using e1
  rw[e2];rw[xcl,he]at hv;exact short_step hv hX.symm
 ·rintro st ⟨q,r,rfl,hia,hL,hlen,hr,hz,hv⟩;refine⟨(q,(r:Int)),rfl,q,?_,hL,hlen,?_⟩;·simp only[xcq,nv,xjt,xji,xdl]at hv;rw[hv,xce,Nat.mul_add_mod,xdz hr]
  ·simp only[xcq,nv,xjt,xji,xdl]at hv;rw[hv,xce,Nat.mul_add_div hd,xgp hr,xdl]
def shl_nat{x n:Nat}(hn:n<=31):(x:Int)*2^(min (Int.toNat (n:Int)) 64)=((x*2^n:Nat):Int):=by rw[tn,show min n 64=n by omega];simp
def shr_nat{x n:Nat}(hn:n<=31):Int.fdiv (x:Int) (2^(min (Int.toNat (n:Int)) 64))=((x/2^n:Nat):Int):=by
 rw[tn,show min n 64=n by omega];have:((2:Int)^n)=((2^n:Nat):Int):=by simp
 rw[this,xiq _ (Int.natCast_nonneg _)];rfl
def zso{n:Nat}(hn:n<=31):2^n*2^(32-n)=4294967296:=by rw[<-xez,show n+(32-n)=32 by omega]
def low_half{x n:Nat}(hn:n<=31):x*2^n%4294967296=x%2^(32-n)*2^n:=by rw[<-zso hn,xce x,Nat.mul_mod_mul_left,xce]
def low_top{x n o:Nat}(hn:n<=31)(ho:o<2^n):o+x*2^n%4294967296<4294967296:=by rw[low_half hn];have h1:x%2^(32-n)<2^(32-n):=xfu _ (xhn (by decide));have h2:=xau (2^n) h1;rw[xce (2^(32-n)),zso hn,xhq]at h2;omega
def or32{o x n:Nat}(hn:n<=31)(ho:o<2^n):(BitVec.ofInt 32 (o:Int)|||BitVec.ofInt 32 ((x*2^n%4294967296:Nat):Int)).toNat=o+x*2^n%4294967296:=by
 have h2:o<4294967296:=by have:=low_top (x:=x) hn ho;omega
 rw[xjw,zks 32 _ (by omega),zks 32 _ (xfu _ (by decide)),low_half hn];exact or_add ho
def left_step{P v lo hi x t T:Nat}(hv:v=t*T)(hlo:x*T=lo+4294967296*hi):v+P*lo+P*4294967296*hi=(t+P*x)*T:=by rw[xco,<-hv,xbt P x T,hlo,xcv,<-xbt];omega
def set_set_nv{out:List Int}(hL:IsL out){i o lo hi:Nat}(h:i+1<out.length)(ho:out.getD i 0=(o:Int))(hlt:nv out<4294967296^(i+1))(h1:o+lo<4294967296)(h2:hi<4294967296) :
  IsL ((out.set i ((o+lo:Nat):Int)).set (i+1) (hi:Int))/\nv ((out.set i ((o+lo:Nat):Int)).set (i+1) (hi:Int))=nv out+4294967296^i*lo+4294967296^i*4294967296*hi:=by
 have q1:=hL.set i (x:=((o+lo:Nat):Int)) (by omega) (by omega);refine⟨q1.set _ (by omega) (by omega),?_⟩;have e1:=znk out i ((o+lo:Nat):Int) (by omega);rw[ho,xam,xam,xcv]at e1;have e2:=zpe q1 (i:=i+1) (hi:Int) (by simpa using h) (znj hL (by omega) (by omega) (by omega) hlt);rw[e2,xam,xcl];omega
def d268_eq{a:List Int}(ha:IsL a)(la:a.length<=1073741824){n:Nat}(hn:n<=31):∃out,d268 a (n:Int)=some out/\IsL out/\out.length=a.length+1/\nv out=nv a*2^n:=by
 unfold d268;have hT:2^n<4294967296:=xel (by decide) (show n<32 by omega);have hl:0<2^n:=xhn (by decide);simp only[wsx (a.length),xbh,zbp,zcg (n:=a.length+1) (by omega),xai,xab,tn];refine zcs (Q:=λr=>∃out,r=some out/\IsL out/\out.length=a.length+1/\nv out=nv a*2^n) (λ(i:Nat) (st:Int×(List Int)×(List Int)×Int×Int)=>∃(out:List Int),st=((n:Int),out,a,(a.length:Int),(i:Int))/\IsL out/\out.length=a.length+1/\nv out=nv (a.take i)*2^n) a.length ?_ ?_ ?_;·exact⟨_,rfl,IsL.zeros _,by simp,by simp[zfu,nv]⟩
 ·rintro i st hi ⟨out,rfl,hL,hlen,hv⟩;obtain⟨x,hq,hm,hp⟩:=zfx ha i;have hg:=top_lt ha i;have he:nv out<4294967296^i*2^n:=by rw[hv];exact xgx hg hl
  have hf:out.getD i 0=((nv out/4294967296^i:Nat):Int):=by rw[zif hL];have:nv out/4294967296^i<2^n:=xgg he;rw[xdz (by omega)]
  have hd:nv out/4294967296^i<2^n:=xgg he;obtain⟨o,ho⟩:∃o,nv out/4294967296^i=o:=⟨_,rfl⟩;rw[ho]at hf hd;have hc:nv out<4294967296^(i+1):=by rw[xcl];exact xav he (xcy _ (by omega))
  obtain⟨v,hb⟩:∃v,x*2^n=v:=⟨_,rfl⟩;have hr:v<4294967296*4294967296:=by rw[<-hb];exact Nat.mul_lt_mul'' hm hT
  have hk:=or32 (x:=x) hn hd;have hh:=low_top (x:=x) hn hd;rw[hb]at hk hh;have s1:wu32 ((o+v%4294967296:Nat):Int)=((o+v%4294967296:Nat):Int):=by rw[zei,xdz hh]
  have hj:v/4294967296<4294967296:=by omega
  have s2:wu32 ((v/4294967296:Nat):Int)=((v/4294967296:Nat):Int):=by rw[zei,xdz hj]
  simp only[dlt hi,zbp,dlt (show i<out.length by omega),wsx i,xcd,dlt (show i+1<out.length by omega),xab,xai,tn,hq,hf,zbm (show x<18446744073709551616 by omega)];rw[show(x:Int)*2^(min n 64)=(v:Int) by have:=shl_nat (x:=x) hn;rw[tn,hb]at this;exact this];simp only[zbm (show v<18446744073709551616 by omega),zei (n:=v),hk,s1,shr32,zbm (show v/4294967296<18446744073709551616 by omega),s2];obtain⟨q1,q2⟩:=set_set_nv hL (i:=i) (lo:=v%4294967296) (hi:=v/4294967296) (by omega) hf hc hh hj;refine⟨_,rfl,_,rfl,q1,by simpa using hlen,?_⟩;rw[q2,hp];exact left_step hv (by rw[hb];omega)
 ·rintro st ⟨out,rfl,hL,hlen,hv⟩;rw[xbg (xag _)]at hv;exact⟨out,by simp only[nlt (xag a.length),xaf],out,rfl,hL,hlen,hv⟩
def right_digit{X n:Nat}(hn:n<=31):(X%4294967296+X/4294967296%4294967296*4294967296)/2^n%4294967296=X/2^n%4294967296:=by
 have ha:0<2^n:=xhn (by decide);obtain⟨z,hz⟩:∃z,X%4294967296+X/4294967296%4294967296*4294967296=z:=⟨_,rfl⟩;have e:X=z+2^n*(2^(32-n)*(X/4294967296/4294967296)*4294967296):=by rw[xbt,<-xbt (2^n),zso hn];omega
 rw[hz];conv=>rhs;rw[e]
 rw[xjx _ _ ha,Nat.add_mul_mod_self_right]
def or64r{a b:Nat}(ha:a<4294967296)(hb:b<4294967296):wu64 (((BitVec.ofInt 64 (b:Int)|||BitVec.ofInt 64 (wu64 ((a:Int)*2^(min (Int.toNat 32) 64)))).toNat:Nat):Int)=((b+a*4294967296:Nat):Int):=by rw[shl32,zbm (n:=a*4294967296) (by omega),xjw,Nat.or_comm,<-xjw,or64 ha hb,zbm (by omega)];congr 1;omega
def d270_eq{a:List Int}(ha:IsL a)(la:a.length<=1073741824){n:Nat}(hn:n<=31):∃out,d270 a (n:Int)=some out/\IsL out/\out.length=a.length/\nv out=nv a/2^n:=by
 unfold d270;have hf:0<2^n:=xhn (by decide);simp only[xbh,zbp,zcg (n:=a.length) (by omega),xai,xab,tn];refine zcs (Q:=λr=>∃out,r=some out/\IsL out/\out.length=a.length/\nv out=nv a/2^n) (λ(i:Nat) (st:(List Int)×Int×(List Int)×Int×Int)=>∃(out:List Int),st=(a,(n:Int),out,(a.length:Int),(i:Int))/\IsL out/\out.length=a.length/\nv out=nv a/2^n%4294967296^i) a.length ?_ ?_ ?_;·exact⟨_,rfl,IsL.zeros _,by simp,by simp[zfu,nv,Nat.mod_one]⟩
 ·rintro i st hi ⟨out,rfl,hL,hlen,hv⟩;have g0:=zif ha i;have g1:=zif ha (i+1);rw[xcl,<-xew]at g1;have hb:nv out<4294967296^i:=by rw[hv];exact xfu _ (zxd i)
  have hd:=right_digit (X:=nv a/4294967296^i) hn;obtain⟨X,hX⟩:∃X,nv a/4294967296^i=X:=⟨_,rfl⟩;rw[hX]at g0 g1 hd;have b0:X%4294967296<4294967296:=xfu _ (by decide);have b1:X/4294967296%4294967296<4294967296:=xfu _ (by decide);obtain⟨z,hz⟩:∃z,X%4294967296+X/4294967296%4294967296*4294967296=z:=⟨_,rfl⟩;rw[hz]at hd;have hc:z<18446744073709551616:=by omega
  have he:z/2^n<18446744073709551616:=xdu (xed _ _) hc;have sh:Int.fdiv (z:Int) (2^(min n 64))=((z/2^n:Nat):Int):=by have:=shr_nat (x:=z) hn;rwa[tn]at this
  simp only[dlt hi,zjs ha,wsx i,zbp,dlt (show i<out.length by omega),xab,xai,xaa,g0,g1,or64r b1 b0,hz,tn,sh,zbm he,zei,hd];have e1:=zpe hL (i:=i) (((X/2^n%4294967296:Nat):Int)) (by omega) hb;rw[xam]at e1;refine⟨_,rfl,_,rfl,hL.set i (by omega) (by omega),by simpa using hlen,?_⟩;rw[e1,hv,<-hX,xew,xce (4294967296^i) (2^n),<-xew,Nat.mod_pow_succ]
 ·rintro st ⟨out,rfl,hL,hlen,hv⟩;refine⟨out,by simp only[nlt (xag a.length),xaf],out,rfl,hL,hlen,?_⟩;rw[hv];exact xdz (xdu (xed _ _) (zyi ha))
def zfs{α β γ:Type}{f:α->Option (α⊕β)}{k:β->Option γ}{a0:α}{Q:Option γ->Prop}(R:Nat->α->Prop)(n:Nat)(h0:R n a0)(hs:∀m a,R m a->(∃a' m',f a=some (.inl a')/\m'<m/\R m' a')\/∃b,f a=some (.inr b)/\Q (k b)):Q ((zac f a0).bind k):=by
 have key:∀M m a,m<M->R m a->∃b,zac f a=some b/\Q (k b):=by
  intro M;induction M with
  |zero=>intro m a h;omega
  |succ M ih=>
   intro m a hm hr;rcases hs m a hr with⟨a',m',h1,h2,h3⟩|⟨b,h1,h2⟩
   ·obtain⟨b,h4,h5⟩:=ih m' a' (by omega) h3;exact⟨b,zlj h1 h4,h5⟩
   ·exact⟨b,zgu h1,h2⟩
 obtain⟨b,h1,h2⟩:=key (n+1) n a0 (by omega) h0;rw[h1];exact h2
def two_top{v:List Int}(hv:IsL v){m:Nat}(hm:v.length=m+2):∃h s t:Nat,v.getD (m+1) 0=(h:Int)/\v.getD m 0=(s:Int)/\h<4294967296/\s<4294967296/\t<4294967296^m/\nv v=(h*4294967296+s)*4294967296^m+t:=by
 have g0:=zif hv m;have g1:=zif hv (m+1);rw[xcl,<-xew]at g1;have ha:=zyi hv;rw[hm,show m+2=m+1+1 by omega,xcl,xcl,xbt]at ha;have hY:=xgg ha;have hc:=xgy (nv v) (4294967296^m);have hb:=xfu (nv v) (zxd m);generalize nv v/4294967296^m=Y at *;refine⟨Y/4294967296,Y%4294967296,nv v%4294967296^m,?_,g0,by omega,by omega,hb,?_⟩;·rw[g1];omega
 ·rw[show Y/4294967296*4294967296+Y%4294967296=Y by omega,xce Y];omega
def three_top{u:List Int}(hu:IsL u){j m:Nat}(hlt:nv u<4294967296^(j+m+3)):∃a b c z:Nat,u.getD (j+m+2) 0=(a:Int)/\u.getD (j+m+1) 0=(b:Int)/\u.getD (j+m) 0=(c:Int)/\a<4294967296/\b<4294967296/\c<4294967296/\z<4294967296^m/\nv u/4294967296^j=((a*4294967296+b)*4294967296+c)*4294967296^m+z:=by
 have g0:=zif hu (j+m);have g1:=zif hu (j+m+1);have g2:=zif hu (j+m+2);rw[show j+m+2=j+m+1+1 by omega,xcl,<-xew]at g2;rw[xcl,<-xew]at g1 g2;rw[xez,<-xew]at g0 g1 g2;have hc:nv u/4294967296^j/4294967296^m<4294967296*4294967296*4294967296:=by rw[xew,<-xez];refine xgg ?_;rw[show j+m+3=j+m+1+1+1 by omega,xcl,xcl,xcl]at hlt;rw[<-xbt,<-xbt];exact hlt
 generalize nv u/4294967296^j=U at *;have hb:=xgy U (4294967296^m);have ha:=xfu U (zxd m);generalize U/4294967296^m=Y at *;refine⟨Y/4294967296/4294967296,Y/4294967296%4294967296,Y%4294967296,U%4294967296^m,?_,g1,g0,by omega,by omega,by omega,ha,?_⟩;·rw[show j+m+2=j+m+1+1 by omega,g2];omega
 ·rw[show(Y/4294967296/4294967296*4294967296+Y/4294967296%4294967296)*4294967296+Y%4294967296=Y by omega,xce Y];omega
def guess_low{U V W top h s t u0 z q r:Nat}(hV:V=(h*4294967296+s)*W+t)(hU:U=(top*4294967296+u0)*W+z)(hz:z<W)(hu:u0<4294967296)(hq:q*h+r=top)(hr:r<h):U<(q+1)*V:=by
 have h1:top+1<=(q+1)*h:=by rw[xhq];omega
 have h2:top*4294967296+u0+1<=(q+1)*(h*4294967296+s):=by rw[xcv,<-xbt];have:=xau 4294967296 h1;omega
 have h3:=xau W h2;rw[hV,xcv,<-xbt,hU];rw[xhq]at h3;omega
def top_bound{B U V W x c y t z:Nat}(hV:V=y*W+t)(hU:U=(x*B+c)*W+z)(ht:t<W)(hlt:U<B*V):x<=y:=by
 refine Nat.not_lt.1 λh1=>?_;have h2:(y+1)*B<=x*B:=xau B h1;have h3:=xau W h2;have h4:B*V<=B*((y+1)*W):=by refine xcy B ?_;rw[hV,xhq];omega
 rw[xce (y+1) B,xbt]at h3;rw[xco]at hU;omega
def q_small{q h r:Nat}(hq:q*h+r<=h*4294967296+4294967295)(hr:4294967296<=r):q<4294967296:=by refine Nat.not_le.1 λh1=>?_;have:=xau h h1;rw[xce 4294967296]at this;omega
def d296_eq{u v:List Int}(hu:IsL u)(hv:IsL v){j m:Nat}(hm:v.length=m+2)(hlen:j+m+2<u.length)(lu:u.length<=1073741825)(hlt:nv u<4294967296^(j+m+3))(hh:v.getD (m+1) 0≠0)(hUV:nv u/4294967296^j<4294967296*nv v) :
  ∃q:Nat,d296 u v (j:Int)=some (q:Int)/\q<4294967296/\nv u/4294967296^j<(q+1)*nv v/\q*nv v<nv u/4294967296^j+nv v:=by
 obtain⟨h,s,t,v1,v2,hy,h2,hd,hV⟩:=two_top hv hm;obtain⟨a,b,c,z,u1,u2,u3,hw,hl,hf,hg,hU⟩:=three_top hu hlt;have hx:=top_bound hV hU hd hUV;generalize nv u/4294967296^j=U at *;generalize nv v=V at *;generalize 4294967296^m=W at *;rw[v1]at hh;have he:0<h:=by omega
 obtain⟨top,ha⟩:∃top,a*4294967296+b=top:=⟨_,rfl⟩;rw[ha]at hU hx;have hn:top<18446744073709551616:=by omega
 unfold d296;have i1:w ((j:Int)+((m+2:Nat):Int))=((j+m+2:Nat):Int):=by rw[zbq (by omega) (by omega)];omega
 have i2:w (((j+m+2:Nat):Int)-1)=((j+m+1:Nat):Int):=by rw[zbq (by omega) (by omega)];omega
 have i3:w (((m+2:Nat):Int)-1)=((m+1:Nat):Int):=by rw[zbq (by omega) (by omega)];omega
 have i4:w (((m+2:Nat):Int)-2)=((m:Nat):Int):=by rw[zbq (by omega) (by omega)];omega
 have i5:w (((j+m+2:Nat):Int)-2)=((j+m:Nat):Int):=by rw[zbq (by omega) (by omega)];omega
 have hs:decide ((h:Int)=0)=false:=xah (by omega);have hi:top/h<18446744073709551616:=xdu (xed _ _) hn;have ho:top%h<h:=xfu _ he;have t1:Int.tdiv (top:Int) (h:Int)=((top/h:Nat):Int):=rfl;have t2:Int.tmod (top:Int) (h:Int)=((top%h:Nat):Int):=rfl;simp only[hm,i1,i2,i3,zbp,dlt (show j+m+2<u.length by omega),dlt (show j+m+1<u.length by omega),dlt (show m+1<m+2 by omega),xab,xai,tn,v1,u1,u2,zbm (show h<18446744073709551616 by omega),zbm (show a<18446744073709551616 by omega),hs,xap,or64w hw hl,ha,t1,t2,zbm hi,zbm (show top%h<18446744073709551616 by omega)];refine zfs (Q:=λr=>∃q:Nat,r=some (q:Int)/\q<4294967296/\U<(q+1)*V/\q*V<U+V) (λ(M:Nat) (st:(List Int)×(List Int)×Int×Int×Int×Int×Int)=>∃(q r:Nat),M=q/\st=(u,v,(j:Int),((m+2:Nat):Int),(h:Int),(q:Int),(r:Int))/\q*h+r=top/\r<4294967296/\q<18446744073709551616/\U<(q+1)*V) (top/h) ?_ ?_;·exact⟨_,_,rfl,rfl,by rw[xce];exact xgy top h,by omega,hi,guess_low hV hU hg hf (by rw[xce];exact xgy top h) ho⟩
 ·rintro M st ⟨q,r,rfl,rfl,hq,hr,hq64,hlow⟩;have e2:wu64 ((r:Int)+(h:Int))=((r+h:Nat):Int):=by rw[zco (by omega) (by omega)];omega
  have e1:0<M->wu64 ((M:Int)-1)=((M-1:Nat):Int):=λh0=>by rw[zco (by omega) (by omega)];omega
  have down:0<M->U<M*V->(4294967296<=r+h/\M-1<4294967296/\U<(M-1+1)*V/\(M-1)*V<U+V)\/(r+h<4294967296/\(M-1)*h+(r+h)=top/\U<(M-1+1)*V):=by
   intro h0 hj;have e3:(M-1)*h+(r+h)=top:=by rw[<-hq];obtain⟨M',rfl⟩:∃M',M=M'+1:=⟨M-1,by omega⟩;rw[Nat.add_sub_cancel,xhq];omega
   have e4:M-1+1=M:=by omega
   rw[e4];by_cases hb:4294967296<=r+h;·have hk:=q_small (h:=h) (r:=r+h) (by rw[e3];omega) hb;refine .inl ⟨hb,hk,hj,zws hV hU hd he e3 hk ?_⟩;have:(M-1)*s<=4294967296*4294967296:=xcu (by omega) (by omega);omega
   ·exact .inr ⟨by omega,e3,hj⟩
  by_cases hq1:4294967296<=M
  ·have d1:decide ((4294967296:Int)<=(M:Int))=true:=xae (by omega);have hM:0<M:=by omega
   rcases down hM (xav hUV (xau V hq1))with⟨k1,k2,k3,k4⟩|⟨k1,k2,k3⟩
   ·have d2:decide ((4294967296:Int)<=((r+h:Nat):Int))=true:=xae (by omega);exact .inr ⟨((M-1:Nat):Int),by simp only[zal,d1,xat,xaf,xab,e1 hM,e2,d2],M-1,rfl,k2,k3,k4⟩
   ·have d2:decide ((4294967296:Int)<=((r+h:Nat):Int))=false:=xah (by omega);exact .inl ⟨_,M-1,by simp only[zal,d1,xat,xaf,xab,e1 hM,e2,d2],by omega,M-1,r+h,rfl,rfl,k2,k1,by omega,k3⟩
  ·have d1:decide ((4294967296:Int)<=(M:Int))=false:=xah (by omega);obtain⟨p,hp⟩:∃p,M*s=p:=⟨_,rfl⟩;have hz:p<=4294967295*4294967295:=by rw[<-hp];exact xcu (by omega) (by omega)
   have ht:(M:Int)*(s:Int)=(p:Int):=by rw[<-hp];simp
   simp only[zal,d1,xap,xab,i1,i4,i5,zbp,dlt (show m<m+2 by omega),hm,dlt (show j+m<u.length by omega),xai,tn,v2,u3,or64w hr hf,zbm (show s<18446744073709551616 by omega),ht,zbm (show p<18446744073709551616 by omega)];by_cases hc:r*4294967296+c<p
   ·simp only[dlt hc];rw[<-hp]at hc;have hM:0<M:=by
     rcases xdf M with h0|h0
     ·subst h0;rw[xfr]at hc;omega
     ·exact h0
    rcases down hM (digit_low hV hU hg hq hc)with⟨k1,k2,k3,k4⟩|⟨k1,k2,k3⟩
    ·have d2:decide ((4294967296:Int)<=((r+h:Nat):Int))=true:=xae (by omega);exact .inr ⟨((M-1:Nat):Int),by simp only[xaf,xab,e1 hM,e2,d2],M-1,rfl,k2,k3,k4⟩
    ·have d2:decide ((4294967296:Int)<=((r+h:Nat):Int))=false:=xah (by omega);exact .inl ⟨_,M-1,by simp only[xaf,xab,e1 hM,e2,d2],by omega,M-1,r+h,rfl,rfl,k2,k1,by omega,k3⟩
   ·rw[nlt (a:=r*4294967296+c) (b:=p) (by omega)];refine .inr ⟨(M:Int),by simp only[xaf],M,rfl,by omega,hlow,?_⟩;exact zws hV hU hd he hq (by omega) (by rw[hp];omega)
def and_low{p:Nat}(h:p<18446744073709551616):wu64 (((BitVec.ofInt 64 (p:Int)&&&BitVec.ofInt 64 4294967295).toNat:Nat):Int)=((p%4294967296:Nat):Int):=by have:BitVec.ofInt 64 4294967295=BitVec.ofNat 64 4294967295:=rfl;rw[this,BitVec.toNat_and,zks 64 _ (by omega),BitVec.toNat_ofNat];have e:=Nat.and_two_pow_sub_one_eq_mod p 32;rw[show(2:Nat)^32-1=4294967295 from rfl,show(2:Nat)^32=4294967296 from rfl]at e;rw[show 4294967295%2^64=4294967295 from rfl,e,zbm (by omega)]
def sub_step{X N N' N2 T x y q dig lo h bo bo' ca ca' s p Y:Nat}(hN:N+X*(q*T)=N'+X*Y*(bo+ca))(h2:N2+X*Y*x=N+X*Y*dig)(hp:q*y+ca=p)(hlo:p=lo+4294967296*ca')(hs:s+lo+bo=4294967296+x)(hd:s=dig+4294967296*h)(hb:bo'+h=1):N2+X*(q*(T+Y*y))=N'+X*(Y*4294967296)*(bo'+ca'):=by
 have e:dig+q*y+ca+bo=x+4294967296*(bo'+ca'):=by omega
 have e1:=xbr ((X*Y) * ·) e;simp only[xcv]at e1 hN ⊢;have e2:X*(q*(Y*y))=X*Y*(q*y):=by rw[Nat.mul_left_comm q,<-xbt]
 have e3:X*Y*(4294967296*bo')=X*(Y*4294967296)*bo':=by simp only[xbt]
 have e4:X*Y*(4294967296*ca')=X*(Y*4294967296)*ca':=by simp only[xbt]
 omega
def add_step{X N N' N2 T x y dig c c' s Y:Nat}(hN:N+X*Y*c=N'+X*T)(h2:N2+X*Y*x=N+X*Y*dig)(hs:x+y+c=s)(hd:s=dig+4294967296*c'):N2+X*(Y*4294967296)*c'=N'+X*(T+Y*y):=by
 have e:dig+4294967296*c'=x+y+c:=by omega
 have e1:=xbr ((X*Y) * ·) e;simp only[xcv]at e1 hN ⊢;have e2:X*(Y*y)=X*Y*y:=by rw[xbt]
 have e4:X*Y*(4294967296*c')=X*(Y*4294967296)*c':=by simp only[xbt]
 omega
def below_next{N X U q V:Nat}(hX:0<X)(hU:N/X=U)(h:U<(q+1)*V):N<X*(q*V)+X*V:=by
 have h1:N<X*(U+1):=by have:=xgy N X;have:=xfu N hX;rw[hU]at *;rw[xcv,xea];omega
 have h2:X*(U+1)<=X*((q+1)*V):=xcy _ h;have e:X*((q+1)*V)=X*(q*V)+X*V:=by rw[xhq,xcv]
 omega
def floor_le{N X U Y:Nat}(hU:N/X=U)(h:Y<=U):X*Y<=N:=by have:=xgy N X;rw[hU]at this;have h2:X*Y<=X*U:=xcy _ h;omega
set_option maxHeartbeats 1000000 in
def d269_eq{u v:List Int}(hu:IsL u)(hv:IsL v){m k:Nat}(hm:v.length=m+2)(hk:u.length=k+(m+2))(lu:u.length<=1073741825)(hh:v.getD (m+1) 0≠0)(hlt:nv u<nv v*4294967296^k) :
  ∃q r,d269 u v=some (q,r)/\IsL q/\IsL r/\q.length=k/\r.length=u.length/\nv q=nv u/nv v/\nv r=nv u%nv v:=by
 have h8:0<nv v:=by
  rcases xdf (nv v)with h0|h0
  ·rw[h0,xfr]at hlt;omega
  ·exact h0
 have jd:=zyi hv;unfold d269;have i1:w ((u.length:Int)-(v.length:Int))=(k:Int):=by rw[zbq (by omega) (by omega)];omega
 have i2:w ((v.length:Int)+1)=((m+3:Nat):Int):=by rw[zbq (by omega) (by omega)];omega
 have i3:w ((k:Int)-1)=(k:Int)-1:=zbq (by omega) (by omega);simp only[i1,xbh,zbp,zcg (n:=k) (by omega),xai,xab,tn,i3];refine zuw (Q:=λr=>∃q r',r=some (q,r')/\IsL q/\IsL r'/\q.length=k/\r'.length=u.length/\nv q=nv u/nv v/\nv r'=nv u%nv v) (λ(i:Nat) (st:(List Int)×(List Int)×Int×(List Int)×Int)=>∃(u' out:List Int),st=(u',v,(v.length:Int),out,(i:Int)-1)/\i<=k/\IsL u'/\u'.length=u.length/\IsL out/\out.length=k/\(∀t,t<i->out.getD t 0=0)/\nv u=nv u'+nv out*nv v/\nv u'<nv v*4294967296^i) k ?_ ?_ ?_;·exact⟨u,_,rfl,xag _,hu,rfl,IsL.zeros _,by simp,λt _=>zwk _ t,by rw[zfu];omega,hlt⟩
 ·rintro i st hi ⟨u',out,rfl,hik,hu',hlu,hL,hlo,hz,hv1,hv2⟩;obtain⟨X,hX⟩:∃X,4294967296^i=X:=⟨_,rfl⟩;have hy:0<X:=by rw[<-hX];exact zxd i
  rw[xcl,hX]at hv2;have hq:nv u'<4294967296^(i+m+3):=by refine xav hv2 ?_;rw[show i+m+3=(m+2)+(i+1) by omega,xez,xcl _ i,hX,<-hm];exact xau _ (xgk jd)
  have h4:nv u'/4294967296^i<4294967296*nv v:=by rw[hX];refine xgg ?_;rw[<-xbt,xce];exact hv2
  obtain⟨q,h2,h6,hr,hw⟩:=d296_eq hu' hv (j:=i) hm (by omega) (by omega) hq hh h4;have j1:((i+1:Nat):Int)-1=(i:Int):=by omega
  have wi1:w ((i:Int)-1)=(i:Int)-1:=zbq (by omega) (by omega);rw[hX]at hr hw;simp only[j1,zbp,xab,h2,xaa,i2];refine zcs (Q:=λ(r:Option (((List Int)×(List Int)×Int×(List Int)×Int)⊕((List Int)×(List Int))))=>∃a',r=some (.inl a')/\∃(u' out:List Int),a'=(u',v,(v.length:Int),out,(i:Int)-1)/\i<=k/\IsL u'/\u'.length=u.length/\IsL out/\out.length=k/\(∀t,t<i->out.getD t 0=0)/\nv u=nv u'+nv out*nv v/\nv u'<nv v*4294967296^i)
   (λ(d:Nat) (st:(List Int)×(List Int)×Int×(List Int)×Int×Int×Int×Int×Int×Int)=>∃(z:List Int) (bo ca:Nat),st=(z,v,(v.length:Int),out,(i:Int),(q:Int),(bo:Int),(ca:Int),((m+3:Nat):Int),(d:Int))/\IsL z/\z.length=u.length/\bo<=1/\ca<4294967296/\(d<=m+2\/ca=0)/\nv z+X*(q*nv (v.take d))=nv u'+X*4294967296^d*(bo+ca)/\nv z<4294967296^(i+m+3)) (m+3) ?_ ?_ ?_
  ·exact⟨u',0,0,rfl,hu',hlu,by omega,by omega,.inl (by omega),by simp[nv],hq⟩
  ·rintro d st hd ⟨z,bo,ca,rfl,hzL,hzl,hbo,hca,hor,heq,hzb⟩;obtain⟨y,hj,h9,hg⟩:=zfx hv d;have hx:=hzL.getD (d+i);obtain⟨x,ha⟩:∃x:Nat,z.getD (d+i) 0=(x:Int):=⟨_,(xho hx.1).symm⟩;rw[ha]at hx;obtain⟨qy,hb⟩:∃p,q*y=p:=⟨_,rfl⟩;have jf:qy<=4294967295*4294967295:=by rw[<-hb];exact xcu (by omega) (by omega)
   have jb:(q:Int)*(y:Int)=(qy:Int):=by rw[<-hb];simp
   have s1:wu64 ((qy:Int)+(ca:Int))=((qy+ca:Nat):Int):=by rw[zco (by omega) (by omega)];omega
   obtain⟨p,hp⟩:∃p,qy+ca=p:=⟨_,rfl⟩;obtain⟨lo,hf⟩:∃lo,p%4294967296=lo:=⟨_,rfl⟩;have s2:wu64 (4294967296+(x:Int))=4294967296+(x:Int):=zco (by omega) (by omega);have s3:wu64 (4294967296+(x:Int)-(lo:Int))=4294967296+(x:Int)-lo:=zco (by omega) (by omega);obtain⟨s,hs⟩:∃s,4294967296+x-lo-bo=s:=⟨_,rfl⟩;have s4:wu64 (4294967296+(x:Int)-(lo:Int)-(bo:Int))=(s:Int):=by rw[zco (by omega) (by omega)];omega
   have s5:wu64 (1-((s/4294967296:Nat):Int))=((1-s/4294967296:Nat):Int):=by rw[zco (by omega) (by omega)];omega
   simp only[dlt hd,zjs hv,hj,xaa,zus (show d+i<=9223372036854775807 by omega),zbp,dlt (show d+i<z.length by omega),xab,xai,tn,ha,jb,zbm (show qy<18446744073709551616 by omega),s1,hp,and_low (show p<18446744073709551616 by omega),hf,zbm (show x<18446744073709551616 by omega),s2,s3,s4,shr32,zbm (show s/4294967296<18446744073709551616 by omega),s5,zbm (show p/4294967296<18446744073709551616 by omega),zei,wsx d];have e1:=znk z (d+i) (((s%4294967296:Nat):Int)) (by omega);rw[ha,xam,xam,xia d i,xez,hX,xia i d]at e1;refine⟨_,rfl,_,_,_,rfl,hzL.set _ (by omega) (by omega),by simpa using hzl,by omega,by omega,?_,?_,znj hzL (by omega) (by omega) (by omega) hzb⟩
   ·by_cases hdm:d+1<=m+2;·exact .inl hdm
    ·right;have ja:y=0:=by
      have:v.getD d 0=0:=by rw[xad,xdm (by omega)];rfl
      omega
     rw[ja,xiu]at hb;omega
   ·rw[hg,xcl];exact sub_step heq e1 (by rw[hb];exact hp) (show p=lo+4294967296*(p/4294967296) by omega) (s:=s) (by omega) (h:=s/4294967296) (by omega) (by omega)
  ·rintro st ⟨z,bo,ca,rfl,hzL,hzl,hbo,hca,hor,heq,hzb⟩;have hl:ca=0:=by omega
   subst hl;rw[xbg (by omega),xdl]at heq;have hn:X*4294967296^(m+3)=4294967296^(i+m+3):=by rw[<-hX,<-xez];rfl
   rw[hn]at heq;refine⟨_,by simp only[nlt (xag (m+3)),xaf];rfl,?_⟩;obtain⟨TT,he⟩:∃TT,4294967296^(i+m+3)=TT:=⟨_,rfl⟩;rw[he]at heq hzb hn;rcases xdf bo with hb0|hb0
   ·subst hb0;simp only[show decide ((0:Int)<((0:Nat):Int))=false from rfl,xaf,zal,zbp,dlt (show i<out.length by omega),xai,xab,tn,zei,xdz h6,wi1];have e1:=znk out i (q:Int) (by omega);rw[hz i (by omega),xam,hX]at e1;have e2:nv (out.set i (q:Int))=nv out+X*q:=by simpa using e1
    refine⟨_,rfl,_,_,rfl,by omega,hzL,hzl,hL.set _ (by omega) (by omega),by simpa using hlo,λt ht=>by rw[getD_set_ne _ _ (by omega)];exact hz t (by omega),?_,?_⟩;·rw[e2,hv1,xco,xbt];omega
    ·have:=below_next hy rfl hr;rw[hX,xce (nv v) X];omega
   ·have h5:bo=1:=by omega
    subst h5;rw[xea]at heq;have ho:nv u'<X*(q*nv v):=by omega
    have jc:0<q:=by
     rcases xdf q with h0|h0
     ·subst h0;rw[xfr,xiu]at ho;omega
     ·exact h0
    obtain⟨q',rfl⟩:∃q',q=q'+1:=⟨q-1,by omega⟩;have h3:wu64 (((q'+1:Nat):Int)-1)=(q':Int):=by rw[zco (by omega) (by omega)];omega
    simp only[show decide ((0:Int)<((1:Nat):Int))=true from rfl,xab,h3,i2];refine zcs (Q:=λ(r:Option (((List Int)×(List Int)×Int×(List Int)×Int)⊕((List Int)×(List Int))))=>∃a',r=some (.inl a')/\∃(u' out:List Int),a'=(u',v,(v.length:Int),out,(i:Int)-1)/\i<=k/\IsL u'/\u'.length=u.length/\IsL out/\out.length=k/\(∀t,t<i->out.getD t 0=0)/\nv u=nv u'+nv out*nv v/\nv u'<nv v*4294967296^i)
     (λ(d:Nat) (st:(List Int)×(List Int)×Int×(List Int)×Int×Int×Int×Int×Int)=>∃(z2:List Int) (c:Nat),st=(z2,v,(v.length:Int),out,(i:Int),(q':Int),(c:Int),((m+3:Nat):Int),(d:Int))/\IsL z2/\z2.length=u.length/\c<=1/\nv z2+X*4294967296^d*c=nv z+X*nv (v.take d)/\nv z2<4294967296^(i+m+3)) (m+3) ?_ ?_ ?_
    ·exact⟨z,0,rfl,hzL,hzl,by omega,by simp[nv],by rw[he];exact hzb⟩
    ·rintro d st hd ⟨z2,c,rfl,hzL2,hzl2,hc,heq2,hzb2⟩;obtain⟨y,hj,h9,hg⟩:=zfx hv d;have hx:=hzL2.getD (d+i);obtain⟨x,ha⟩:∃x:Nat,z2.getD (d+i) 0=(x:Int):=⟨_,(xho hx.1).symm⟩;rw[ha]at hx;have s1:wu64 ((x:Int)+(y:Int))=((x+y:Nat):Int):=by rw[zco (by omega) (by omega)];omega
     have s2:wu64 (((x+y:Nat):Int)+(c:Int))=((x+y+c:Nat):Int):=by rw[zco (by omega) (by omega)];omega
     obtain⟨s,hs⟩:∃s,x+y+c=s:=⟨_,rfl⟩;simp only[dlt hd,zjs hv,hj,xaa,zus (show d+i<=9223372036854775807 by omega),zbp,dlt (show d+i<z2.length by omega),xab,xai,tn,ha,zbm (show x<18446744073709551616 by omega),s1,s2,hs,shr32,zbm (show s/4294967296<18446744073709551616 by omega),zei,wsx d];have e1:=znk z2 (d+i) (((s%4294967296:Nat):Int)) (by omega);rw[ha,xam,xam,xia d i,xez,hX,xia i d]at e1;refine⟨_,rfl,_,_,rfl,hzL2.set _ (by omega) (by omega),by simpa using hzl2,by omega,?_,znj hzL2 (by omega) (by omega) (by omega) hzb2⟩;rw[hg,xcl];exact add_step heq2 e1 hs (by omega)
    ·rintro st ⟨z2,c,rfl,hzL2,hzl2,hc,heq2,hzb2⟩;rw[xbg (by omega),hn]at heq2;rw[he]at hzb2;refine⟨_,by simp only[nlt (xag (m+3)),xaf];rfl,?_⟩;simp only[zal,zbp,dlt (show i<out.length by omega),xai,xab,tn,zei,xdz (show q'<4294967296 by omega),wi1];have e1:=znk out i (q':Int) (by omega);rw[hz i (by omega),xam,hX]at e1;have e2:nv (out.set i (q':Int))=nv out+X*q':=by simpa using e1
     have je:X*(q'*nv v)<=nv u':=by refine floor_le rfl ?_;rw[xhq]at hw;omega
     rw[xhq,xcv]at ho heq;have h7:c=1:=by
      rcases xdf c with h0|h0
      ·subst h0;rw[xiu]at heq2;omega
      ·omega
     subst h7;rw[xea]at heq2;refine⟨_,rfl,_,_,rfl,by omega,hzL2,hzl2,hL.set _ (by omega) (by omega),by simpa using hlo,λt ht=>by rw[getD_set_ne _ _ (by omega)];exact hz t (by omega),?_,?_⟩;·rw[e2,hv1,xco,xbt];omega
     ·rw[hX,xce (nv v) X];omega
 ·rintro st ⟨u',out,rfl,hik,hu',hlu,hL,hlo,hz,hv1,hv2⟩;rw[xjt,xea]at hv2;refine⟨(u',out),rfl,out,u',rfl,hL,hu',hlo,hlu,?_,?_⟩;·rw[hv1,xce,xjx _ _ h8,xgp hv2,xck]
  ·rw[hv1,xce,Nat.add_mul_mod_self_left,xdz hv2]
def bl_zero(f:Nat):Lib.bitLenAux f 0=0:=by cases f<;>simp[Lib.bitLenAux]
def bl_bounds:∀(f x:Nat),x<2^f->x≠0->1<=Lib.bitLenAux f x/\Lib.bitLenAux f x<=f/\x<2^Lib.bitLenAux f x
 | 0,x,h,h0=>by rw[xjt]at h;omega
 |f+1,x,h,h0=>by
  have e:Lib.bitLenAux (f+1) x=1+Lib.bitLenAux f (x/2):=by simp[Lib.bitLenAux,h0]
  rw[e];by_cases h2:x/2=0;·rw[h2,bl_zero];exact⟨by omega,by omega,by rw[xdl,Nat.pow_one];omega⟩
  ·obtain⟨q1,q2,q3⟩:=bl_bounds f (x/2) (by rw[xcl]at h;omega) h2;refine⟨by omega,by omega,?_⟩;rw[xia,xcl];omega
def bl_more:∀(f x:Nat),x<2^f->∀g,f<=g->Lib.bitLenAux g x=Lib.bitLenAux f x
 | 0,x,h,g,_=>by
  rw[xjt]at h;obtain rfl:x=0:=by omega
  rw[bl_zero,bl_zero]
 |f+1,x,h,g,hg=>by
  obtain⟨g',rfl⟩:∃g',g=g'+1:=⟨g-1,by omega⟩;simp only[Lib.bitLenAux];by_cases h0:x=0;·rw[if_pos h0,if_pos h0]
  ·rw[if_neg h0,if_neg h0,bl_more f (x/2) (by rw[xcl]at h;omega) g' (by omega)]
def d245_eq{x:Nat}(h0:0<x)(h1:x<4294967296):∃L:Nat,d245 (x:Int)=some (L:Int)/\1<=L/\L<=32/\x<2^L:=by have hx:x<2^32:=h1;have e:Lib.bitLen x=Lib.bitLenAux 32 x:=bl_more 32 x hx 64 (by decide);refine⟨Lib.bitLen x,rfl,?_⟩;rw[e];exact bl_bounds 32 x hx (by omega)
def zxl{v:List Int}(hv:NF v){m:Nat}(hm:v.length=m+1):∃h:Nat,v.getD m 0=(h:Int)/\0<h/\h<4294967296:=by
 have g:=hv.1.getD m;refine⟨(v.getD m 0).toNat,by omega,?_,by omega⟩;have:v.getD m 0≠0:=by intro e;refine hv.2 ?_;rw[List.getLast?_eq_getElem?,hm,Nat.add_sub_cancel,xaj (by omega)];rw[xad,xaj (by omega)]at e;simpa using e
 omega
set_option maxHeartbeats 1000000 in
def d225_eq{a b:List Int}(ha:IsL a)(hb:IsL b)(la:a.length<=1073741823)(lb:b.length<=1073741823)(h0:nv b≠0):d225 a b=some (zbg (nv a/nv b),zbg (nv a%nv b),true):=by
 unfold d225;rw[zcg (by omega),zcg (by omega)];simp only[xab,xaa,zdb ha,zdb hb];have h7:=zci ha;have jc:=zci hb;have h5:=zop (nv a);have hs:=zop (nv b);have hA:=zas (nv a);have hB:=zas (nv b);have eA:=zbd (nv a);have eB:=zbd (nv b);have hm:=@zfo (nv b) (nv a);have hq:=zbk (nv b);have h3:=zbk (nv a);have hu:=@zjj (nv b);have jb:zbg (nv a)=zbg (nv a):=rfl;have h8:zbg (nv b)=zbg (nv b):=rfl;generalize hyA:zbg (nv a)=A at *;generalize hyB:zbg (nv b)=B at *;have jf:0<B.length:=hu.2 (xgv h0);rw[show decide ((B.length:Int)=0)=false from xah (by omega),d265_eq hA hB (by omega) (by omega),eA,eB];simp only[xaf,xaa,cmpN_lt];by_cases hlt:nv a<nv b;·rw[xae hlt,xab,zzd (by omega),xgp hlt,xdz hlt,zer,hyA];rfl
 rw[xah hlt,xaf];have je:=hm (by omega);by_cases h1:B.length=1
 ·have q1:decide ((B.length:Int)=1)=true:=xae (by omega);have q2:decide ((0:Int)<(B.length:Int))=true:=xae (by omega);obtain⟨h,hf,hi,hj⟩:=zxl hs (m:=0) h1;have hx:nv b=h:=by rw[<-eB];obtain⟨y,rfl⟩:=xcw.1 h1;simp only[xfi]at hf;simp only[nv,hf];omega
  obtain⟨q,r1,r2,r3,r4⟩:=d266_eq hA (by omega) hi hj;have hz:nv A%h<h:=xfu _ hi;rw[eA]at r1 r4 hz;have q3:d166 ((nv a%h:Nat):Int)=some (zbg (nv a%h)):=by rw[ztz (by omega) (by omega)];rfl
  simp only[q1,q2,q3,xbh,Int.le_refl,xai,xab,hf,zbm (show h<18446744073709551616 by omega),r1,xaa,zju r2 (show q.length<=4294967296 by omega),r4,hx];rfl
 ·obtain⟨m,hr⟩:∃m,B.length=m+2:=⟨B.length-2,by omega⟩;have q1:decide (((m+2:Nat):Int)=1)=false:=xah (by omega);have i1:w (((m+2:Nat):Int)-1)=((m+1:Nat):Int):=by rw[zbq (by omega) (by omega)];omega
  obtain⟨h,hf,hi,hj⟩:=zxl hs (m:=m+1) hr;obtain⟨L,hw,ja,h9,h6⟩:=d245_eq hi hj;have e203:d267 (h:Int)=some ((32-L:Nat):Int):=by unfold d267;rw[hw];simp only[xaa];rw[zbq (by omega) (by omega)];congr 1;omega
  have hn:32-L<=31:=by omega
  have hh:2^L*2^(32-L)=4294967296:=by rw[<-xez,show L+(32-L)=32 by omega]
  obtain⟨n,hy⟩:∃n,32-L=n:=⟨_,rfl⟩;rw[hy]at e203 hn hh;have hg:0<2^n:=xhn (by decide);obtain⟨u,u1,u2,u3,u4⟩:=d268_eq hA (by omega) hn;obtain⟨v0,v1,v2,v3,v4⟩:=d268_eq hB (by omega) hn;rw[eA]at u4;rw[eB]at v4;simp only[hr,q1,xaf,i1,zbp,dlt (show m+1<m+2 by omega),xai,xab,tn,hf,e203,xaa,u1,v1,zcg (n:=v0.length) (by omega),zdb v2];have ht:4294967296^(m+1)<=nv b:=by refine Nat.not_lt.1 λhc=>?_;have:=(hq (m+1)).2 hc;omega
  have h4:nv b<2^L*4294967296^(m+1):=by
   have g:=zif hB (m+1);rw[hf,eB]at g;have hl:=(hq (m+2)).1 (by omega);have hd:nv b/4294967296^(m+1)<4294967296:=xgg (by rw[<-xcl];exact hl);rw[xdz hd]at g;have:nv b/4294967296^(m+1)<2^L:=by omega
   exact(xga (zxd _)).1 this
  have h2:nv v0<4294967296^(m+2):=by
   have e:4294967296^(m+2)=2^L*4294967296^(m+1)*2^n:=by rw[show m+2=(m+1)+1 by omega,xcl,xhr,hh,xce]
   rw[v4,e];exact xgx h4 hg
  have jd:4294967296^(m+1)<=nv v0:=by rw[v4];exact xay ht (Nat.le_mul_of_pos_right _ hg)
  have hV:=zas (nv v0);have eV:=zbd (nv v0);have he:(zbg (nv v0)).length=m+2:=by
   have r1:=(zbk (nv v0) (m+2)).2 h2;have r2:¬(zbg (nv v0)).length<=m+1:=λhc=>by have:=(zbk (nv v0) (m+1)).1 hc;omega
   omega
  obtain⟨hv,w1,w2,_⟩:=zxl (zop (nv v0)) (m:=m+1) he;obtain⟨k,hk⟩:∃k,A.length=k+(m+1):=⟨A.length-(m+1),by omega⟩;have hp:nv a<4294967296^(k+(m+1)):=(h3 _).1 (by omega);have ho:nv u<nv (zbg (nv v0))*4294967296^k:=by rw[eV,u4,v4,xhr];refine xgx ?_ hg;rw[xez,xce]at hp;exact xav hp (xau _ ht)
  obtain⟨q,r,z1,z2,z3,z4,z5,z6,z7⟩:=d269_eq u2 hV he (k:=k) (by omega) (by omega) (by omega) ho;rw[eV,u4,v4,Nat.mul_div_mul_right _ _ hg]at z6;rw[eV,u4,v4,Nat.mul_mod_mul_right]at z7;obtain⟨o,o1,o2,o3,o4⟩:=d270_eq z3 (by omega) hn;rw[z7,Nat.mul_div_cancel _ hg]at o4;simp only[z1,xaa,zju z2 (show q.length<=4294967296 by omega),z6,o1,zju o2 (show o.length<=4294967296 by omega),o4]
def d224_eq{a b:List Int}(ha:IsL a)(hb:IsL b)(la:a.length<=1073741823)(lb:b.length<=1073741823):d224 a b=some (zbg (Nat.gcd (nv a) (nv b))):=by
 unfold d224;rw[zju ha (by omega),zju hb (by omega)];simp only[xaa];have hc:=zci ha;have he:=zci hb;refine zfs (Q:=λr=>r=some (zbg (Nat.gcd (nv a) (nv b)))) (λ(M:Nat) (st:(List Int)×(List Int))=>∃x:Nat,st=(zbg x,zbg M)/\(zbg x).length<=1073741823/\(zbg M).length<=1073741823/\Nat.gcd x M=Nat.gcd (nv a) (nv b)) (nv b) ⟨nv a,rfl,by omega,by omega,rfl⟩ ?_;rintro M st ⟨x,rfl,h1,h2,h3⟩;rcases xdf M with h0|h0
 ·subst h0;refine .inr ⟨zbg x,by simp[zer],?_⟩;rw[Nat.gcd_zero_right]at h3;rw[h3]
 ·have hp:=zjj.2 h0;have hd:=d225_eq (zas x) (zas M) h1 h2 (by rw[zbd];omega);rw[zbd,zbd]at hd;refine .inl ⟨(zbg M,zbg (x%M)),x%M,?_,xfu _ h0,M,rfl,h2,?_,?_⟩;·rw[show decide ((0:Int)<((zbg M).length:Int))=true from xae (by omega),xab,hd];rfl
  ·have:=zfo (xgk (xfu x h0));omega
  ·rw[<-h3,Nat.gcd_comm x M,Nat.gcd_rec M x,Nat.gcd_comm]
def d222_eq{a:List Int}(ha:IsL a)(la:a.length<=1073741824):∃k:Int,d222 a=some k/\decide (k=0)=decide (nv a=0):=by
 unfold d222;rw[zcg (by omega)];simp only[xab,xaa,zdb ha];have hg:=zci ha;have hd:=zop (nv a);have hp:=@zjj (nv a);generalize hyA:zbg (nv a)=A at *;rcases xdf A.length with h0|h0
 ·refine⟨0,by rw[zdt ((A.length:Int)=0)];rfl,?_⟩;rw[xae rfl,zdt (nv a=0)]
 ·obtain⟨m,hm⟩:∃m,A.length=m+1:=⟨A.length-1,by omega⟩;obtain⟨h,hc,hf,hb⟩:=zxl hd hm;obtain⟨L,he,hj,hh,hi⟩:=d245_eq hf hb;have i1:w (((m+1:Nat):Int)-1)=(m:Int):=zur (by omega);have i2:w (32*(m:Int))=32*(m:Int):=zbq (by omega) (by omega);have i3:w (32*(m:Int)+(L:Int))=32*(m:Int)+L:=zbq (by omega) (by omega);refine⟨32*(m:Int)+L,?_,?_⟩;·rw[hm,zdf ((((m+1:Nat):Int)=0))];simp only[xaf,i1,zbp,dlt (show m<m+1 by omega),xai,xab,tn,hc,he,xaa,i2,i3]
  ·rw[xah (by omega),xah (by omega)]
abbrev Rt:=Bool×(List Int×List Int)
def zlo(neg:Bool)(n:Nat):Int:=if neg then -(n:Int)else n
def sgnN_abs(neg:Bool)(n:Nat):(zlo neg n).natAbs=n:=by unfold zlo;split<;>simp
def sgnN_zero(neg:Bool):zlo neg 0=0:=by cases neg<;>rfl
def sgnN_not(neg:Bool)(n:Nat):zlo (!neg) n=- zlo neg n:=by cases neg<;>simp[zlo]
def rv(r:Rt):Rat:=mkRat (zlo r.1 (nv r.2.1)) (nv r.2.2)
def rr(q:Rat):Rt:=(decide (q.num<0),zbg q.num.natAbs,zbg q.den)
def RtOK(r:Rt):Prop:=IsL r.2.1/\IsL r.2.2
def zxv(q:Rat):RtOK (rr q):=⟨zas _,zas _⟩
def zxt(q:Rat):zlo (decide (q.num<0)) q.num.natAbs=q.num:=by
 unfold zlo;by_cases h:q.num<0;·simp only[h,xbh,if_true];omega
 ·simp only[h,xdc];simp;omega
def zsh(q:Rat):rv (rr q)=q:=by unfold rv rr;simp only[zbd,zxt,xhg]
def rr_inj{p q:Rat}(h:rr p=rr q):p=q:=by rw[<-zsh p,h,zsh]
def rr_zero:rr 0=(false,[],[1]):=by unfold rr;simp only[Rat.zero_num,Rat.zero_den];rw[znv (n:=1) (by omega)];simp[zer]
def rr_make(neg:Bool){a b:Nat}(ha:a≠0)(hb:b≠0):rr (mkRat (zlo neg a) b)=(neg,zbg (a/Nat.gcd a b),zbg (b/Nat.gcd a b)):=by
 unfold rr;rw[Rat.num_mkRat,Rat.den_mkRat,if_neg hb,if_neg hb,sgnN_abs,Nat.gcd_comm b a];obtain⟨g,hg⟩:∃g,Nat.gcd a b=g:=⟨_,rfl⟩;have hd:g∣a:=by rw[<-hg];exact Nat.gcd_dvd_left a b
 have he:0<g:=by rw[<-hg];exact Nat.gcd_pos_of_pos_left b (xgv ha)
 rw[hg];obtain⟨c,rfl⟩:=hd;have hc:0<c:=xgv λe=>ha (by rw[e,xiu]);rw[Nat.mul_div_cancel_left c he];have h1:zlo neg (g*c)/(g:Int)=zlo neg c:=by
  unfold zlo;cases neg;·simp only[xbb,xcg,xha];exact Int.mul_ediv_cancel_left _ (by omega)
  ·simp only[if_true,xha];rw[<-Int.mul_neg];exact Int.mul_ediv_cancel_left _ (by omega)
 rw[h1,sgnN_abs];have h2:decide (zlo neg c<0)=neg:=by
  unfold zlo;cases neg;·simp
  ·simp;omega
 rw[h2]
def zoz(q:Rat):(rr q).2.1=[]↔q=0:=by unfold rr;rw[limbs_nil,Int.natAbs_eq_zero,Rat.num_eq_zero]
def rr_neg(q:Rat):(rr q).1=decide (q<0):=by
 unfold rr;have:q.num<0↔q<0:=by have h:=Rat.num_nonneg (q:=q);rw[<-xii,<-h];omega
 simp only[this]
def sgnN_mul(x y:Bool)(a b:Nat):zlo (!(x == y)) (a*b)=zlo x a*zlo y b:=by unfold zlo;cases x<;>cases y<;>simp[xha,Int.neg_mul,Int.mul_neg]
def Sz(k:Nat)(r:Rt):Prop:=r.2.1.length<=k/\r.2.2.length<=k
def d223_eq:d223=some (rr 0):=by unfold d223;rw[ztz (by omega) (by omega),rr_zero,show(1:Int).toNat=1 from rfl,znv (n:=1) (by omega)];simp[zer]
def zps(neg:Bool){a b:List Int}(ha:IsL a)(hb:IsL b)(la:a.length<=1073741823)(lb:b.length<=1073741823):d164 neg a b=some (rr (mkRat (zlo neg (nv a)) (nv b))):=by
 unfold d164;obtain⟨k,k1,k2⟩:=d222_eq ha (by omega);obtain⟨l,l1,l2⟩:=d222_eq hb (by omega);rw[zal,k1,l1];simp only[xaa,k2,l2];by_cases ha0:nv a=0;·rw[ha0,xae rfl];simp only[xat,xaf,xab,d223_eq,sgnN_zero,Rat.zero_mkRat,xaa]
 ·rw[xah ha0];by_cases hb0:nv b=0;·rw[hb0,xae rfl,Rat.mkRat_zero];simp only[xap,xab,d223_eq,xaa]
  ·rw[xah hb0,rr_make neg ha0 hb0];have hg:Nat.gcd (nv a) (nv b)≠0:=λe=>ha0 (Nat.eq_zero_of_gcd_eq_zero_left e);have hc:(zbg (Nat.gcd (nv a) (nv b))).length<=1073741823:=by have:=zfo (Nat.le_of_dvd (xgv ha0) (Nat.gcd_dvd_left (nv a) (nv b)));have:=zci ha;omega
   have e1:=d225_eq ha (zas (Nat.gcd (nv a) (nv b))) la hc (by rw[zbd];exact hg);have e2:=d225_eq hb (zas (Nat.gcd (nv a) (nv b))) lb hc (by rw[zbd];exact hg);rw[zbd]at e1 e2;simp only[xap,xab,xaf,d224_eq ha hb la lb,e1,e2,xaa]
def rr_len(neg:Bool)(a b:Nat):(rr (mkRat (zlo neg a) b)).2.1.length<=(zbg a).length/\(rr (mkRat (zlo neg a) b)).2.2.length<=max 1 (zbg b).length:=by
 by_cases ha:a=0;·subst ha;rw[sgnN_zero,Rat.zero_mkRat,rr_zero];exact⟨xbx _,xju _ _⟩
 ·by_cases hb:b=0;·subst hb;rw[Rat.mkRat_zero,rr_zero];exact⟨xbx _,xju _ _⟩
  ·rw[rr_make neg ha hb];exact⟨zfo (xed _ _),xay (zfo (xed _ _)) (Nat.le_max_right _ _)⟩
def rr_sz{r:Rt}(h:RtOK r){k:Nat}(hk:Sz k r)(h1:1<=k):Sz k (rr (rv r)):=by obtain⟨q1,q2⟩:=rr_len r.1 (nv r.2.1) (nv r.2.2);have:=zci h.1;have:=zci h.2;have:=hk.1;have:=hk.2;exact⟨by show(rr (mkRat _ _)).2.1.length<=_;omega,by show(rr (mkRat _ _)).2.2.length<=_;omega⟩
def zjt{r:Rt}(h:RtOK r)(hk:Sz 1073741823 r):d229 r=some (rr (rv r)):=by unfold d229;rw[zps r.1 h.1 h.2 hk.1 hk.2];rfl
def zdh(a b:Nat):(zbg (a*b)).length<=(zbg a).length+(zbg b).length:=by rw[zbk,xez];exact Nat.mul_lt_mul'' ((zbk a _).1 (xag _)) ((zbk b _).1 (xag _))
def zym(a b:Nat):(zbg (a+b)).length<=max (zbg a).length (zbg b).length+1:=by rw[zbk,xcl];have h1:=(zbk a (max (zbg a).length (zbg b).length)).1 (xju _ _);have h2:=(zbk b (max (zbg a).length (zbg b).length)).1 (Nat.le_max_right _ _);omega
def sum_eq(s t:Bool){a b:Nat}(la:(zbg a).length<=1073741823)(lb:(zbg b).length<=1073741823):∃(u:Bool) (c:Nat),d230 s (zbg a) t (zbg b)=some (u,zbg c)/\zlo u c=zlo s a+zlo t b/\c<=a+b:=by
 unfold d230;have hA:=zas a;have hB:=zas b;by_cases h:s=t;·subst h;rw[d271_eq hA hB (by omega) (by omega),zbd,zbd];refine⟨s,a+b,by simp,?_,xag _⟩;unfold zlo;split<;>omega
 ·rw[beq_eq_false_iff_ne.2 h,d272_eq hA hB (by omega) (by omega),d272_eq hB hA (by omega) (by omega),zbd,zbd];simp only[xaf,xaa];by_cases hlt:a<b;·rw[if_pos hlt,if_neg (by omega)];refine⟨t,b-a,rfl,?_,by omega⟩;unfold zlo;cases s<;>cases t<;>simp at h⊢ <;>omega
  ·rw[if_neg hlt];refine⟨s,a-b,rfl,?_,by omega⟩;unfold zlo;cases s<;>cases t<;>simp at h⊢ <;>omega
def add_mk{x y:Rat}:mkRat (x.num*y.den+y.num*x.den) (x.den*y.den)=x+y:=by have:=Rat.mkRat_add_mkRat x.num y.num x.den_nz y.den_nz;rw[xhg,xhg]at this;exact this.symm
def zsc(x:Rat)(d:Nat):zlo (decide (x.num<0)) (x.num.natAbs*d)=x.num*d:=by
 have h:=zxt x;unfold zlo at h ⊢;split;·rename_i h1;rw[if_pos h1]at h;rw[<-h];simp[Int.neg_mul]
 ·rename_i h1;rw[if_neg h1]at h;rw[<-h];simp
def zpp{x y:Rat}(hx:Sz 268435456 (rr x))(hy:Sz 268435456 (rr y)):d175 (rr x) (rr y)=some (rr (x+y)):=by unfold d175;rw[zjt (zxv x) ⟨by have:=hx.1;omega,by have:=hx.2;omega⟩,zjt (zxv y) ⟨by have:=hy.1;omega,by have:=hy.2;omega⟩,zsh,zsh];simp only[xaa];obtain⟨a1,a2⟩:=hx;obtain⟨b1,b2⟩:=hy;simp only[rr]at a1 a2 b1 b2 ⊢;rw[zmt (zas _) (zas _) (by omega) (by omega),zmt (zas _) (zas _) (by omega) (by omega),zmt (zas _) (zas _) (by omega) (by omega)];simp only[xaa,zbd];have m1:=zdh x.num.natAbs y.den;have m2:=zdh y.num.natAbs x.den;have m3:=zdh x.den y.den;obtain⟨u,c,e1,e2,e3⟩:=sum_eq (decide (x.num<0)) (decide (y.num<0)) (a:=x.num.natAbs*y.den) (b:=y.num.natAbs*x.den) (by omega) (by omega);have m4:=zym (x.num.natAbs*y.den) (y.num.natAbs*x.den);have m5:=zfo e3;rw[e1];simp only[xaa];rw[zps u (zas c) (zas _) (by omega) (by omega),zbd,zbd,e2,zsc,zsc,add_mk];rfl
def rv_not(r:Rt):rv (!r.1,r.2)=- rv r:=by unfold rv;rw[sgnN_not,Rat.neg_mkRat]
def d175_gen{a b:Rt}(ha:RtOK a)(hb:RtOK b)(ka:Sz 268435456 a)(kb:Sz 268435456 b):d175 a b=some (rr (rv a+rv b)):=by have hd:=rr_sz ha ka (by omega);have hc:=rr_sz hb kb (by omega);rw[<-zpp hd hc];unfold d175;rw[zjt ha ⟨by have:=ka.1;omega,by have:=ka.2;omega⟩,zjt hb ⟨by have:=kb.1;omega,by have:=kb.2;omega⟩,zjt (zxv _) ⟨by have:=hd.1;omega,by have:=hd.2;omega⟩,zjt (zxv _) ⟨by have:=hc.1;omega,by have:=hc.2;omega⟩,zsh,zsh]
def zle{x y:Rat}(hx:Sz 268435456 (rr x))(hy:Sz 268435456 (rr y)):d169 (rr x) (rr y)=some (rr (x-y)):=by unfold d169;rw[d175_gen (zxv x) (b:=(!(rr y).1,(rr y).2)) (zxv y) hx hy,rv_not,zsh,zsh,Rat.sub_eq_add_neg];rfl
def zrm(x y:Rat):Int:=if x<y then -1 else if x=y then 0 else 1
def zqc{x y:Rat}:x-y=0↔x=y:=by
 constructor;·intro h;grind
 ·intro h;grind
def zrz{x y:Rat}:x-y<0↔x<y:=by
 constructor;·intro h;grind
 ·intro h;grind
def zmu{x y:Rat}(hx:Sz 268435456 (rr x))(hy:Sz 268435456 (rr y)):d174 (rr x) (rr y)=some (zrm x y):=by
 unfold d174;rw[zle hx hy];simp only[xaa];rw[rr_neg];unfold zrm;by_cases h:x<y;·rw[xae (zrz.2 h),if_pos h];rfl
 ·rw[xah (λhc=>h (zrz.1 hc)),if_neg h];by_cases h2:x=y;·rw[if_pos h2,(zoz (x-y)).2 (zqc.2 h2)];rfl
  ·have:(rr (x-y)).2.1≠ []:=λhc=>h2 (zqc.1 ((zoz _).1 hc));have:=xcr.2 this;rw[if_neg h2,xah (by omega)];rfl
def mul_mk{x y:Rat}:mkRat (x.num*y.num) (x.den*y.den)=x*y:=by have:=Rat.mkRat_mul_mkRat x.num y.num x.den y.den;rw[xhg,xhg]at this;exact this.symm
def sgn_prod(x y:Rat):zlo (!(decide (x.num<0) == decide (y.num<0))) (x.num.natAbs*y.num.natAbs)=x.num*y.num:=by rw[sgnN_mul,zxt,zxt]
def zze{x y:Rat}(hx:Sz 268435456 (rr x))(hy:Sz 268435456 (rr y)):d227 (rr x) (rr y)=some (rr (x*y)):=by unfold d227;obtain⟨a1,a2⟩:=hx;obtain⟨b1,b2⟩:=hy;simp only[rr]at a1 a2 b1 b2 ⊢;rw[zmt (zas _) (zas _) (by omega) (by omega),zmt (zas _) (zas _) (by omega) (by omega)];simp only[xaa,zbd];have m1:=zdh x.num.natAbs y.num.natAbs;have m3:=zdh x.den y.den;rw[zps _ (zas _) (zas _) (by omega) (by omega),zbd,zbd,sgn_prod,mul_mk];rfl
def num_pos'{y:Rat}(h:0<y):0<y.num:=by
 have h1:=(Rat.num_nonneg (q:=y)).2 (xhz h);have h2:y.num≠0:=λe=>by rw[Rat.num_eq_zero]at e;rw[e]at h;exact absurd h (by decide)
 omega
def div_mk{x y:Rat}(hy:0<y):mkRat (x.num*y.den) (x.den*y.num.natAbs)=x/y:=by
 have hn:0<y.num:=num_pos' hy;have e1:mkRat (x.num*y.den) (x.den*y.num.natAbs)*y=x:=by
  conv=>lhs;rhs;rw[<-xhg y]
  rw[Rat.mkRat_mul_mkRat];conv=>rhs;rw[<-xhg x]
  have h0:x.den*y.num.natAbs*y.den≠0:=xht (xht x.den_nz (by omega)) y.den_nz;rw[Rat.mkRat_eq_iff h0 x.den_nz];have:((y.num.natAbs:Nat):Int)=y.num:=by omega
  simp only[xha,this];grind
 have ha:y≠0:=by intro h;rw[h]at hy;exact absurd hy (by decide)
 generalize mkRat (x.num*y.den) (x.den*y.num.natAbs)=z at e1 ⊢;rw[<-e1,Rat.mul_div_cancel ha]
def d233_rr{x y:Rat}(hx:Sz 268435456 (rr x))(hy:Sz 268435456 (rr y))(hp:0<y):d233 (rr x) (rr y)=some (rr (x/y),true):=by
 unfold d233;rw[zjt (zxv x) ⟨by have:=hx.1;omega,by have:=hx.2;omega⟩,zjt (zxv y) ⟨by have:=hy.1;omega,by have:=hy.2;omega⟩,zsh,zsh];simp only[xaa];have ha:y≠0:=by intro h;rw[h]at hp;exact absurd hp (by decide)
 have hb:(rr y).2.1≠ []:=λhc=>ha ((zoz _).1 hc);have:=xcr.2 hb;rw[xah (by omega)];obtain⟨a1,a2⟩:=hx;obtain⟨b1,b2⟩:=hy;have hn:0<y.num:=num_pos' hp;simp only[rr,xaf]at a1 a2 b1 b2 ⊢;rw[zmt (zas _) (zas _) (by omega) (by omega),zmt (zas _) (zas _) (by omega) (by omega)];simp only[xaa,zbd];have m1:=zdh x.num.natAbs y.den;have m3:=zdh x.den y.num.natAbs;rw[zps _ (zas _) (zas _) (by omega) (by omega),zbd,zbd];have hs:(!(decide (x.num<0) == decide (y.num<0)))=decide (x.num<0):=by rw[zdf (y.num<0)];cases decide (x.num<0)<;>rfl
 rw[hs,zsc,div_mk hp];rfl
def d165_eq{n:Int}(h0:-9223372036854775807<=n)(h1:n<=9223372036854775807):d165 n=some (zbg n.natAbs):=by
 unfold d165;by_cases h:n<0
 ·have e:wu64 (0-wu64 n)=-n:=by rw[wu64_mod,wu64_mod];omega
  rw[xae h,xab,e,ztz (by omega) (by omega),show(-n).toNat=n.natAbs by omega];rfl
 ·rw[xah h,xaf,zco (by omega) (by omega),ztz (by omega) (by omega),show n.toNat=n.natAbs by omega];rfl
def mk_int(n:Int):mkRat (zlo (decide (n<0)) n.natAbs) 1=(n:Rat):=by
 have:zlo (decide (n<0)) n.natAbs=n:=by
  unfold zlo;by_cases h:n<0;·simp only[h,xbh,if_true];omega
  ·simp only[h,xdc];simp;omega
 rw[this,Rat.mkRat_one]
def zji{n:Nat}(h:n<18446744073709551616):(zbg n).length<=2:=(zbk n 2).2 h
def zwt{n:Int}(h0:-9223372036854775807<=n)(h1:n<=9223372036854775807):d93 n=some (rr (n:Rat)):=by unfold d93;have:=zji (n:=n.natAbs) (by omega);have:=zji (n:=1) (by omega);rw[d165_eq h0 h1,ztz (by omega) (by omega)];simp only[xaa,show(1:Int).toNat=1 from rfl];rw[zps _ (zas _) (zas _) (by omega) (by omega),zbd,zbd,mk_int];rfl
def P2_pos(i:Nat):0<2^i:=xhn (by decide)
def B_pow(i:Nat):4294967296^i=2^(32*i):=by rw[Nat.pow_mul]
def Bz(k:Nat)(q:Rat):Prop:=q.num.natAbs<2^k/\q.den<2^k
def Bz.sz{k:Nat}{q:Rat}(h:Bz (32*k) q):Sz k (rr q):=by
 refine⟨(zbk _ _).2 ?_,(zbk _ _).2 ?_⟩;·rw[B_pow];exact h.1
 ·rw[B_pow];exact h.2
def d235_eq(a b:List Int)(la:a.length<=4294967296):d235 a b=some (decide (a=b)):=by
 unfold d235;by_cases hl:a.length=b.length
 ·have e:decide ((a.length:Int)=(b.length:Int))=true:=xae (by omega);simp only[e,xat,xaf];refine zfs (Q:=λr=>r=some (decide (a=b))) (λ(M:Nat) (st:(List Int)×(List Int)×Int)=>∃i:Nat,st=(a,b,(i:Int))/\i+M=a.length/\a.take i=b.take i) a.length ⟨0,rfl,by omega,rfl⟩ ?_;rintro M st ⟨i,rfl,hM,ht⟩;rcases xdf M with h0|h0
  ·refine .inr ⟨.inl (),by simp only[nlt (show a.length<=i by omega),xaf],?_⟩;rw[xbg (by omega),xbg (by omega)]at ht;rw[xae ht]
  ·simp only[dlt (show i<a.length by omega),dlt (show i<b.length by omega),zbp,xai,xab,tn];by_cases hg:a.getD i 0=b.getD i 0;·rw[xae hg,xat,xaf];refine .inl ⟨_,M-1,rfl,by omega,i+1,by rw[zmh (by omega)],by omega,?_⟩;rw[znc a (by omega),znc b (by omega),ht,hg]
   ·rw[xah hg,xap,xab];refine .inr ⟨.inr false,rfl,?_⟩;rw[xah λhc=>hg (by rw[hc])]
 ·have e:decide ((a.length:Int)=(b.length:Int))=false:=xah (by omega);simp only[e,xap,xab];rw[xah λhc=>hl (by rw[hc])]
def zzf{x y:Rat}(hx:Sz 268435456 (rr x)):d179 (rr x) (rr y)=some (decide (x=y)):=by
 unfold d179;rw[d235_eq _ _ (by have:=hx.1;omega),d235_eq _ _ (by have:=hx.2;omega)];simp only[xaa];by_cases h:x=y;·subst h;simp
 ·rw[xah h];by_cases h1:(rr x).1=(rr y).1
  ·rw[h1,BEq.rfl,xab];by_cases h2:(rr x).2.1=(rr y).2.1;·rw[xae h2,xab,xah λh3=>h (rr_inj (Prod.ext h1 (Prod.ext h2 h3)))]
   ·rw[xah h2,xaf]
  ·rw[beq_eq_false_iff_ne.2 h1,xaf]
def lst{α:Type}(f:Nat->α)(n:Nat):List α:=(List.range n).map f
def zad{α:Type}(f:Nat->α)(n:Nat):(lst f n).length=n:=by simp[lst]
def zaf{α:Type}(f:Nat->α){n i:Nat}(h:i<n)(d:α):(lst f n).getD i d=f i:=by simp[lst,xad,xci,List.getElem?_range h]
def zyk{α:Type}(f:Nat->α){n i:Nat}(h:i<n):(lst f n)[i]?=some (f i):=by simp[lst,xci,List.getElem?_range h]
def zcz{α:Type}(f:Nat->α)(n:Nat):lst f (n+1)=lst f n++[f n]:=by simp[lst,xjv]
def zai{α:Type}{f g:Nat->α}{n:Nat}(h:∀i,i<n->f i=g i):lst f n=lst g n:=by unfold lst;exact xfx λi hi=>h i (xcm.1 hi)
def upd{α:Type}(f:Nat->α)(i:Nat)(x:α):Nat->α:=λj=>if j=i then x else f j
def zce{α:Type}(f:Nat->α)(i:Nat)(x:α):upd f i x i=x:=if_pos rfl
def zfg{α:Type}(f:Nat->α){i j:Nat}(x:α)(h:j≠i):upd f i x j=f j:=if_neg h
def zcl{α:Type}(f:Nat->α)(n i:Nat)(x:α):(lst f n).set i x=lst (upd f i x) n:=by
 refine xhx λj=>?_;by_cases hj:j<n
 ·rw[zyk _ hj];by_cases h:i=j;·subst h;rw[List.getElem?_set_self (by rw[zad];exact hj),zce]
  ·rw[xjz h,zyk _ hj,zfg _ _ (λe=>h e.symm)]
 ·rw[xdm (by rw[xcd,zad];omega),xdm (by rw[zad];omega)]
def zgj{α β:Type}(f:Nat->α)(g:α->β)(n:Nat):(lst f n).map g=lst (λi=>g (f i)) n:=by simp[lst]
def znu{α:Type}(l:List α)(d:α):lst (λi=>l.getD i d) l.length=l:=by
 refine xhx λj=>?_;by_cases hj:j<l.length;·rw[zyk _ hj,xad,xaj hj];rfl
 ·rw[xdm (by rw[zad];omega),xdm (by omega)]
def zii{α:Type}(x:α)(n:Nat):List.replicate n x=lst (λ_=>x) n:=by
 induction n with
 |zero=>rfl
 |succ n ih=>rw[zcz,List.replicate_succ',ih]
def zih{α:Type}{f:Nat->α}{n:Nat}{x:α}:x∈lst f n↔∃i,i<n/\f i=x:=by simp[lst]
def zaz(f:Nat->Nat):Nat->Nat
 | 0=>0
 |n+1=>zaz f n+f n
def zay{f g:Nat->Nat}:∀{n:Nat},(∀i,i<n->f i=g i)->zaz f n=zaz g n
 | 0,_=>rfl
 |n+1,h=>by rw[zaz,zaz,zay λi hi=>h i (by omega),h n (by omega)]
def zdp{f g:Nat->Nat}:∀{n:Nat},(∀i,i<n->f i<=g i)->zaz f n<=zaz g n
 | 0,_=>xag _
 |n+1,h=>Nat.add_le_add (zdp λi hi=>h i (by omega)) (h n (by omega))
def zde(f g:Nat->Nat):∀n:Nat,zaz (λi=>f i+g i) n=zaz f n+zaz g n
 | 0=>rfl
 |n+1=>by rw[zaz,zaz,zaz,zde f g n];omega
def zhr(f:Nat->Nat)(c:Nat):∀n:Nat,zaz (λi=>f i*c) n=zaz f n*c
 | 0=>by rw[zaz,zaz,xfr]
 |n+1=>by rw[zaz,zaz,zhr f c n,xco]
def zet:∀n:Nat,zaz (λ_=>0) n=0
 | 0=>rfl
 |n+1=>by rw[zaz,zet n]
def znd(f:Nat->Nat->Nat)(n:Nat):∀m:Nat,zaz (λi=>zaz (f i) n) m=zaz (λj=>zaz (λi=>f i j) m) n
 | 0=>by simp only[zaz,zet]
 |m+1=>by simp only[zaz];rw[znd f n m,<-zde]
def sumN_pos{f:Nat->Nat}:∀{n:Nat},0<zaz f n->∃i,i<n/\0<f i
 | 0,h=>absurd h (by simp[zaz])
 |n+1,h=>by
  rw[zaz]at h;by_cases h0:0<f n;·exact⟨n,by omega,h0⟩
  ·obtain⟨i,h1,h2⟩:=sumN_pos (show 0<zaz f n by omega);exact⟨i,by omega,h2⟩
def zxq(c v:Nat):∀n:Nat,zaz (λi=>if i=c then v else 0) n=if c<n then v else 0
 | 0=>rfl
 |n+1=>by
  rw[zaz,zxq c v n];by_cases h:c<n;·rw[if_pos h,if_neg (show n≠c by omega),if_pos (show c<n+1 by omega)];rfl
  ·rw[if_neg h];by_cases h2:n=c;·rw[if_pos h2,if_pos (by omega)];omega
   ·rw[if_neg h2,if_neg (by omega)]
def zfi{f:Nat->Nat}{n i:Nat}(h:i<n):f i<=zaz f n:=by
 induction n with
 |zero=>omega
 |succ n ih=>
  rw[zaz];by_cases h2:i=n;·subst h2;omega
  ·have:=ih (by omega);omega
def sumN_upd{f g:Nat->Nat}{n c:Nat}(hc:c<n)(h:∀i,i<n->i≠c->f i=g i):zaz f n+g c=zaz g n+f c:=by
 induction n with
 |zero=>omega
 |succ n ih=>
  rw[zaz,zaz];by_cases h2:c=n;·subst h2;rw[zay λi hi=>h i (by omega) (by omega)];omega
  ·have:=ih (by omega) λi hi hn=>h i (by omega) hn;have:=h n (by omega) (by omega);omega
def zcy(p:Nat->Bool)(n:Nat):List Nat:=(List.range n).filter p
def zaq(p:Nat->Bool)(n:Nat):List Int:=(zcy p n).map Int.ofNat
def zbu(p:Nat->Bool)(n:Nat):Nat:=zaz (λi=>if p i then 1 else 0) n
def zse(p:Nat->Bool)(n:Nat):zcy p (n+1)=zcy p n++(if p n then [n]else []):=by unfold zcy;rw[xjv,xgb];congr 1;cases h:p n<;>simp[xer,h]
def zeu(p:Nat->Bool)(n:Nat):zaq p (n+1)=zaq p n++(if p n then [(n:Int)]else []):=by unfold zaq;rw[zse,xcc];congr 1;cases h:p n<;>rfl
def zcb(p:Nat->Bool):∀n:Nat,(zcy p n).length=zbu p n
 | 0=>rfl
 |n+1=>by rw[zse,xbo,zcb p n];show _=zbu p n+(if p n then 1 else 0);cases h:p n<;>rfl
def zav(p:Nat->Bool)(n:Nat):(zaq p n).length=zbu p n:=by rw[zaq,xao,zcb]
def zby{p:Nat->Bool}{n i:Nat}:i∈zcy p n↔i<n/\p i=true:=by unfold zcy;rw[xfw,xcm]
def zap{p:Nat->Bool}{n:Nat}{x:Int}:x∈zaq p n↔∃i:Nat,x=(i:Int)/\i<n/\p i=true:=by
 unfold zaq;rw[xdx];constructor;·rintro⟨i,h,rfl⟩;exact⟨i,rfl,zby.1 h⟩
 ·rintro⟨i,rfl,h⟩;exact⟨i,zby.2 h,rfl⟩
def zvj{p q:Nat->Bool}{n:Nat}(h:∀i,i<n->p i=q i):zcy p n=zcy q n:=by unfold zcy;exact xek λi hi=>h i (xcm.1 hi)
def zfn{p q:Nat->Bool}{n:Nat}(h:∀i,i<n->p i=q i):zaq p n=zaq q n:=by unfold zaq;rw[zvj h]
def zly{p q:Nat->Bool}{n:Nat}(h:∀i,i<n->p i=q i):zbu p n=zbu q n:=zay λi hi=>by rw[h i hi]
def zax(p:Nat->Bool)(n:Nat):zbu p n<=n:=by rw[<-zcb];unfold zcy;exact xay (xid _ _) (by simp)
def zjv{p:Nat->Bool}{n:Nat}:0<zbu p n↔∃i,i<n/\p i=true:=by
 constructor
 ·intro h;obtain⟨i,h1,h2⟩:=sumN_pos h;refine⟨i,h1,?_⟩;cases hp:p i;·rw[hp]at h2;simp at h2
  ·rfl
 ·rintro⟨i,h1,h2⟩;have:=zfi (f:=λi=>if p i then 1 else 0) h1;simp only[h2]at this;exact this
def zsf(p q:Nat->Bool)(n:Nat):(zcy p n).filter q=zcy (λi=>p i&&q i) n:=by unfold zcy;rw[xiy];exact xek λi _=>by rw[Bool.and_comm]
def zjq(least:Bool)(r:Int->Rat)(l:List Int):List Int:=l.filter λi=>l.all λk=>if least then decide (r i<=r k)else decide (r k<=r i)
def zam(round:List Rat)(c:Int):Rat:=round.getD c.toNat 0
def zan(lots:List Int)(c:Int):Nat:=lots.idxOf c
def zpw(lots:List Int)(least:Bool)(l:List Int):Int:=l.tail.foldl (λm c=>if least then(if zan lots m<zan lots c then c else m)else(if zan lots c<zan lots m then c else m)) (l.headD 0)
def zau(ties:Int)(earlier:List (List Rat)):List (List Rat):=if ties=3 then []else if ties=1 then earlier.reverse else earlier
def zmv(least:Bool)(rounds:List (List Rat))(tied:List Int):List Int:=rounds.foldl (λl r=>if 1<l.length then zjq least (zam r) l else l) tied
def zvc(ties:Int)(earlier:List (List Rat))(tied lots:List Int)(least:Bool):Int:=
 let l:=zmv least (zau ties earlier) tied
 if l.length=1 then l.headD 0 else zpw lots least l
abbrev Gp:=List Int×Int
structure GP where
 gs:List Gp
 n:Nat
 seats:Nat
 q:Nat
 tot:Nat
 ties:Int
 lots:List Int
def GP.p(P:GP)(g:Nat):List Int:=(P.gs.getD g ([],0)).1
def GP.k(P:GP)(g:Nat):Nat:=(P.gs.getD g ([],0)).2.toNat
def GP.G(P:GP):Nat:=P.gs.length
structure GS where
 D:Nat
 num:Nat->Nat
 at_:Nat->Nat
 st:Nat->Nat
 keep:Nat->Rat
def GS.on(P:GP)(s:GS)(g c:Nat):Bool:=decide (s.at_ g<(P.p g).length)&&decide ((P.p g).getD (s.at_ g) 0=(c:Int))
def GS.lie(P:GP)(s:GS)(c:Nat):Nat:=zaz (λg=>if s.on P g c then P.k g*s.num g else 0) P.G
def GS.bar(P:GP)(s:GS):Nat:=P.q*s.D
def GS.vt(P:GP)(s:GS)(c:Nat):Nat:=if s.st c=2 then s.bar P else if s.st c=3 then 0 else s.lie P c
def GS.el1(P:GP)(s:GS)(i:Nat):Bool:=decide (s.st i=0)&&decide (s.bar P<=s.vt P i)
def GS.st1(P:GP)(s:GS)(i:Nat):Nat:=if s.el1 P i then 1 else s.st i
def zaj(a b:Nat):Rat:=(a:Rat)/(b:Rat)
structure Rd where
 votes:List Rat
 keep:List Rat
 quota:Rat
 exh:Rat
 sur:Rat
 el:List Int
 ex:List Int
 ti:List Int
def nxt(p:List Int)(st:Nat->Nat)(k:Nat):Nat:=k+((p.drop k).takeWhile λc=>decide (st c.toNat≠0)).length
def GS.move(P:GP)(s:GS)(st:Nat->Nat)(keep:Nat->Rat)(x a b:Nat):GS:=
 {D:=s.D*b,num:=λg=>if s.on P g x then s.num g*a else s.num g*b,at_:=λg=>if s.on P g x then nxt (P.p g) st (s.at_ g+1)else s.at_ g,st:=st,keep:=keep}
def zkm(P:GP)(v:Nat->Nat)(st:Nat->Nat)(c:Nat)(most:Bool)(i:Nat):Bool:=decide (st i=c)&&(List.range P.n).all λk=>!decide (st k=c)||(if most then decide (v k<=v i)else decide (v i<=v k))
def GS.fin(P:GP)(s:GS):Bool:=decide (zbu (λi=>decide (s.st1 P i=1)) P.n+zbu (λi=>decide (s.st1 P i=2)) P.n=P.seats)||decide (zbu (λi=>decide (s.st1 P i=1)) P.n+zbu (λi=>decide (s.st1 P i=2)) P.n+zbu (λi=>decide (s.st1 P i=0)) P.n<=P.seats)
def GS.most(P:GP)(s:GS):Bool:=decide (0<zbu (λi=>decide (s.st1 P i=1)) P.n)
def GS.tied(P:GP)(s:GS):List Int:=zaq (zkm P (s.vt P) (s.st1 P) (if s.most P then 1 else 0) (s.most P)) P.n
def GS.pick(P:GP)(earlier:List (List Rat))(s:GS):Int:=if(s.tied P).length=1 then(s.tied P).headD 0 else zvc P.ties earlier (s.tied P) P.lots (!s.most P)
def GS.rd0(P:GP)(s:GS):Rd:=
 {votes:=lst (λi=>zaj (s.vt P i) s.D) P.n
  keep:=lst s.keep P.n
  quota:=(P.q:Rat)
  exh:=zaj (P.tot*s.D-zaz (s.vt P) P.n) s.D
  sur:=zaj (zaz (λi=>if s.st1 P i=1 then s.vt P i-s.bar P else 0) P.n) s.D
  el:=zaq (s.el1 P) P.n
  ex:=[]
  ti:=[]}
def GS.done(P:GP)(s:GS):Rd:={s.rd0 P with el:=if zbu (λi=>decide (s.st1 P i=1)) P.n+zbu (λi=>decide (s.st1 P i=2)) P.n<P.seats then zaq (λi=>s.el1 P i||decide (s.st1 P i=0)) P.n else zaq (s.el1 P) P.n}
def GS.tiedR(P:GP)(s:GS):List Int:=if(s.tied P).length=1 then []else s.tied P
def GS.trans(P:GP)(earlier:List (List Rat))(s:GS):GS:=
 let x:=(s.pick P earlier).toNat
 s.move P (upd (s.st1 P) x 2) (upd s.keep x (zaj (s.vt P x-s.bar P) (s.vt P x))) x (s.vt P x-s.bar P) (s.vt P x)
def GS.excl(P:GP)(earlier:List (List Rat))(s:GS):GS:=
 let x:=(s.pick P earlier).toNat
 s.move P (upd (s.st1 P) x 3) (upd s.keep x 0) x 1 1
def gstep(P:GP)(earlier:List (List Rat))(s:GS):Rd×Option GS:=
 if s.fin P then(s.done P,none)else if s.most P then({s.rd0 P with ti:=s.tiedR P},some (s.trans P earlier))else({s.rd0 P with ti:=s.tiedR P,ex:=[s.pick P earlier]},some (s.excl P earlier))
def grun(P:GP):Nat->List Rd->GS->List Rd
 | 0,rs,_=>rs
 |k+1,rs,s=>match gstep P (rs.map Rd.votes) s with
  |(r,none)=>rs++[r]
  |(r,some s')=>grun P k (rs++[r]) s'
def g0:GS:={D:=1,num:=λ_=>1,at_:=λ_=>0,st:=λ_=>0,keep:=λ_=>1}
def zkz(P:GP):List Rd:=grun P (P.n+1) [] g0
section
def zhv{α:Type}(f:α->Rat):∀{l:List α},l≠ []->∃i∈l,∀k∈l,f i<=f k
 | [],h=>absurd rfl h
 | [x],_=>⟨x,by simp,λk hk=>by simp at hk;subst hk;exact xhl⟩
 |x::y::l,_=>by
  obtain⟨i,h1,h2⟩:=zhv f (l:=y::l) (by simp);rcases Rat.le_total (a:=f x) (b:=f i)with h|h
  ·refine⟨x,by simp,λk hk=>?_⟩;rcases xar.1 hk with rfl|hk
   ·exact xhl
   ·exact Rat.le_trans h (h2 k hk)
  ·refine⟨i,xan _ h1,λk hk=>?_⟩;rcases xar.1 hk with rfl|hk
   ·exact h
   ·exact h2 k hk
def zog{α:Type}(f:α->Nat){l:List α}(h:l≠ []):∃i∈l,∀k∈l,f i<=f k:=by
 induction l with
 |nil=>exact absurd rfl h
 |cons x l ih=>
  by_cases hl:l=[];·subst hl;exact⟨x,by simp,λk hk=>by simp at hk;subst hk;exact xag _⟩
  ·obtain⟨i,h1,h2⟩:=ih hl;by_cases hx:f x<=f i
   ·refine⟨x,by simp,λk hk=>?_⟩;rcases xar.1 hk with rfl|hk
    ·exact xag _
    ·exact xay hx (h2 k hk)
   ·refine⟨i,xan _ h1,λk hk=>?_⟩;rcases xar.1 hk with rfl|hk
    ·omega
    ·exact h2 k hk
def exists_mostN{α:Type}(f:α->Nat){l:List α}(h:l≠ []):∃i∈l,∀k∈l,f k<=f i:=by
 induction l with
 |nil=>exact absurd rfl h
 |cons x l ih=>
  by_cases hl:l=[];·subst hl;exact⟨x,by simp,λk hk=>by simp at hk;subst hk;exact xag _⟩
  ·obtain⟨i,h1,h2⟩:=ih hl;by_cases hx:f i<=f x
   ·refine⟨x,by simp,λk hk=>?_⟩;rcases xar.1 hk with rfl|hk
    ·exact xag _
    ·exact xay (h2 k hk) hx
   ·refine⟨i,xan _ h1,λk hk=>?_⟩;rcases xar.1 hk with rfl|hk
    ·omega
    ·exact h2 k hk
def extr_ne{least:Bool}{r:Int->Rat}{l:List Int}(h:l≠ []):zjq least r l≠ []:=by
 cases least
 ·obtain⟨i,h1,h2⟩:=zhv (λi=>- r i) h;have:i∈zjq false r l:=xfw.2 ⟨h1,xbl.2 λk hk=>by have:=h2 k hk;simp only[xbb,xcg,xak];grind⟩
  exact xfp this
 ·obtain⟨i,h1,h2⟩:=zhv r h;have:i∈zjq true r l:=xfw.2 ⟨h1,xbl.2 λk hk=>by simp only[if_true,xak];exact h2 k hk⟩
  exact xfp this
def zoc{least:Bool}{r:Int->Rat}{l:List Int}{x:Int}(h:x∈zjq least r l):x∈l:=(xfw.1 h).1
def znb:∀{least:Bool} {rounds:List (List Rat)} {l:List Int} {x:Int},x∈zmv least rounds l->x∈l
 |_,[],_,_,h=>h
 |least,r::rounds,l,x,h=>by
  have h':x∈zmv least rounds (if 1<l.length then zjq least (zam r) l else l):=h;have:=znb h';split at this;·exact zoc this
  ·exact this
def tieL_ne:∀{least:Bool} {rounds:List (List Rat)} {l:List Int},l≠ []->zmv least rounds l≠ []
 |_,[],_,h=>h
 |least,r::rounds,l,h=>by
  show zmv least rounds (if 1<l.length then zjq least (zam r) l else l)≠ [];refine tieL_ne ?_;split;·exact extr_ne h
  ·exact h
def zla{α:Type}(f:α->α->α)(hf:∀a b,f a b=a\/f a b=b):∀(l:List α) (x:α),l.foldl f x=x\/l.foldl f x∈l
 | [],x=>.inl rfl
 |y::l,x=>by
  rw[xfd];rcases zla f hf l (f x y)with h|h
  ·rw[h];rcases hf x y with h1|h1
   ·exact .inl h1
   ·exact .inr (by rw[h1];simp)
  ·exact .inr (xan _ h)
def byLot_mem{lots:List Int}{least:Bool}{l:List Int}(h:l≠ []):zpw lots least l∈l:=by
 cases l with
 |nil=>exact absurd rfl h
 |cons x l=>
  unfold zpw;simp only[xjb,xgi];rcases zla (λm c=>if least then(if zan lots m<zan lots c then c else m)else(if zan lots c<zan lots m then c else m)) (λa b=>by cases least<;>simp only[if_true,xbb,xcg]<;>split<;>simp) l x with h|h
  ·rw[h];simp
  ·exact xan _ h
def zgi{l:List Int}(h:l≠ []):l.headD 0∈l:=by
 cases l with
 |nil=>exact absurd rfl h
 |cons x l=>simp
def zxo{ties:Int}{earlier:List (List Rat)}{tied lots:List Int}{least:Bool}(h:tied≠ []):zvc ties earlier tied lots least∈tied:=by
 unfold zvc;have hn:=tieL_ne (least:=least) (rounds:=zau ties earlier) h;simp only;split;·exact znb (zgi hn)
 ·exact znb (byLot_mem hn)
def zqa{α:Type}(p:α->Bool):∀l:List α,(l.takeWhile p).length<=l.length
 | []=>xag _
 |x::l=>by
  rw[xfg];split;·simp only[xbd];have:=zqa p l;omega
  ·simp
def zqb{α:Type}(p:α->Bool)(d:α):∀l:List α,(l.takeWhile p).length<l.length->p (l.getD (l.takeWhile p).length d)=false
 | [],h=>by simp at h
 |x::l,h=>by
  rw[xfg]at h ⊢;split at h;·rename_i hx;rw[if_pos hx];simp only[xbd,xin];exact zqb p d l (by simpa using h)
  ·rename_i hx;rw[if_neg hx];simpa using hx
def zka{α:Type}(p:α->Bool)(d:α):∀(l:List α) (i:Nat),i<(l.takeWhile p).length->p (l.getD i d)=true
 | [],i,h=>by simp at h
 |x::l,i,h=>by
  rw[xfg]at h;split at h
  ·rename_i hx;cases i with
   |zero=>simpa using hx
   |succ i=>exact zka p d l i (by simpa using h)
  ·simp at h
def nxt_ge(p:List Int)(st:Nat->Nat)(k:Nat):k<=nxt p st k:=Nat.le_add_right _ _
def nxt_le{p:List Int}(st:Nat->Nat){k:Nat}(h:k<=p.length):nxt p st k<=p.length:=by unfold nxt;have:=zqa (λc=>decide (st (Int.toNat c)≠0)) (p.drop k);rw[xeq]at this;omega
def zit{α:Type}(l:List α)(k i:Nat)(d:α):(l.drop k).getD i d=l.getD (k+i) d:=by simp[xad,xix]
def nxt_at{p:List Int}{st:Nat->Nat}{k:Nat}(h:nxt p st k<p.length):st (p.getD (nxt p st k) 0).toNat=0:=by unfold nxt at h ⊢;have:=zqb (λc=>decide (st (Int.toNat c)≠0)) 0 (p.drop k) (by rw[xeq];omega);rw[zit]at this;simpa using this
def nxt_before{p:List Int}{st:Nat->Nat}{k i:Nat}(h1:k<=i)(h2:i<nxt p st k):st (p.getD i 0).toNat≠0:=by unfold nxt at h2;have:=zka (λc=>decide (st (Int.toNat c)≠0)) 0 (p.drop k) (i-k) (by omega);rw[zit,show k+(i-k)=i by omega]at this;simpa using this
def nxt_step{p:List Int}{st:Nat->Nat}{k:Nat}(h:k<p.length):nxt p st k=if st (p.getD k 0).toNat=0 then k else nxt p st (k+1):=by
 unfold nxt;have e:p.drop k=p.getD k 0::p.drop (k+1):=by rw[xad,xaj h];exact xey h
 rw[e,xfg];by_cases hs:st (p.getD k 0).toNat=0;·rw[if_pos hs,if_neg (by simpa using hs)];rfl
 ·simp only[hs,ne_eq,not_false_iff,xbh,if_true,xcg,xbd];omega
def GP.mkd(P:GP):Nat:=zaz (λg=>if P.p g=[]then 0 else P.k g) P.G
structure GP.OK(P:GP):Prop where
 n1:1<=P.n
 n7:P.n<=7
 seats1:1<=P.seats
 seats5:P.seats<=5
 prefs:∀g,g<P.G->∀c∈P.p g,∃i:Nat,c=(i:Int)/\i<P.n
 plen:∀g,g<P.G->(P.p g).length<=7
 total:zaz P.k P.G=P.tot
 tot5:P.tot<=100000
 q1:1<=P.q
 q5:P.q<=100001
 quota:P.mkd<P.q*(P.seats+1)
 ties1:1<=P.ties
 ties3:P.ties<=3
 lotn:P.lots.length=P.n
 lots:∀c∈P.lots,∃i:Nat,c=(i:Int)/\i<P.n
 lotd:P.lots.Nodup
def GS.c2(P:GP)(s:GS):Nat:=zbu (λi=>decide (s.st i=2)) P.n
structure GI(P:GP)(s:GS):Prop where
 D0:0<s.D
 Db:s.D<=2^(17*(2^s.c2 P-1))
 num:∀g,g<P.G->s.num g<=s.D
 at_:∀g,g<P.G->s.at_ g<=(P.p g).length
 lies:∀g c,g<P.G->s.on P g c=true->s.st c=0\/s.st c=1
 st3:∀c,s.st c<=3
 blank:∀g,g<P.G->P.p g=[]->s.num g=s.D
 cons:zaz (λg=>if P.p g=[]then 0 else P.k g*s.num g) P.G+s.bar P*s.c2 P=P.mkd*s.D
 pend:∀c,c<P.n->s.st c=1->s.bar P<=s.lie P c
variable {P:GP} {s:GS}
def GS.on_lt{g c:Nat}(h:s.on P g c=true):s.at_ g<(P.p g).length:=by unfold GS.on at h;rw[xal,xak]at h;exact h.1
def GS.on_at{g c:Nat}(h:s.on P g c=true):(P.p g).getD (s.at_ g) 0=(c:Int):=by unfold GS.on at h;rw[xal,xak,xak]at h;exact h.2
def GS.on_uniq{g c d:Nat}(h:s.on P g c=true)(h':s.on P g d=true):c=d:=by have h1:=GS.on_at h;have h2:=GS.on_at h';omega
def GS.on_ne{g c:Nat}(h:s.on P g c=true):P.p g≠ []:=λe=>by have:=GS.on_lt h;rw[e]at this;simp at this
def zbx{l:List Int}{i:Nat}(h:i<l.length):l.getD i 0∈l:=by rw[xad,xaj h];exact xbf h
def GS.on_ex(hP:P.OK){g:Nat}(hg:g<P.G)(h:s.at_ g<(P.p g).length):∃c,c<P.n/\s.on P g c=true:=by obtain⟨i,h1,h2⟩:=hP.prefs g hg _ (zbx h);refine⟨i,h2,?_⟩;unfold GS.on;rw[xal,xak,xak];exact⟨h,h1⟩
def lie_sum(hP:P.OK):zaz (s.lie P) P.n=zaz (λg=>if s.at_ g<(P.p g).length then P.k g*s.num g else 0) P.G:=by
 unfold GS.lie;rw[znd (λc g=>if s.on P g c then P.k g*s.num g else 0)];refine zay λg hg=>?_;by_cases h:s.at_ g<(P.p g).length
 ·obtain⟨c,h1,h2⟩:=GS.on_ex hP hg h;rw[if_pos h];have:zaz (λi=>if s.on P g i then P.k g*s.num g else 0) P.n=zaz (λi=>if i=c then P.k g*s.num g else 0) P.n:=zay λi hi=>by
   by_cases hic:i=c;·subst hic;rw[if_pos h2,if_pos rfl]
   ·rw[if_neg hic,if_neg λh3=>hic (GS.on_uniq h3 h2)]
  rw[this,zxq,if_pos h1]
 ·rw[if_neg h];refine(zay λi hi=>if_neg λh3=>h (GS.on_lt h3)).trans (zet _)
def zpg(hP:P.OK):zaz (s.lie P) P.n<=zaz (λg=>if P.p g=[]then 0 else P.k g*s.num g) P.G:=by
 rw[lie_sum hP];refine zdp λg hg=>?_;by_cases h:P.p g=[];·rw[if_neg (by rw[h];simp),if_pos h];exact xag _
 ·rw[if_neg h];split;·exact xag _
  ·exact xbx _
def zyn(hI:GI P s){c:Nat}(h:s.st c=2\/s.st c=3):s.lie P c=0:=by unfold GS.lie;refine(zay λg hg=>if_neg λh3=>?_).trans (zet _);have:=hI.lies g c hg h3;omega
def vt_lie(hI:GI P s){c:Nat}(h:s.st c=0\/s.st c=1):s.vt P c=s.lie P c:=by unfold GS.vt;rw[if_neg (by omega),if_neg (by omega)]
def vt_eq(hI:GI P s)(c:Nat):s.vt P c=s.lie P c+if decide (s.st c=2)then s.bar P else 0:=by
 have h3:=hI.st3 c;by_cases h2:s.st c=2;·unfold GS.vt;rw[if_pos h2,zyn hI (.inl h2),xae h2];simp
 ·rw[xah h2];by_cases h4:s.st c=3;·unfold GS.vt;rw[if_neg h2,if_pos h4,zyn hI (.inr h4)];rfl
  ·rw[vt_lie hI (by omega)];rfl
def zzi(p:Nat->Bool)(v:Nat):∀n:Nat,zaz (λi=>if p i then v else 0) n=v*zbu p n
 | 0=>by simp[zaz,zbu]
 |n+1=>by show zaz _ n+(if p n then v else 0)=v*(zbu p n+(if p n then 1 else 0));rw[zzi p v n,xcv];cases p n<;>simp
def vt_sum(hP:P.OK)(hI:GI P s):zaz (s.vt P) P.n=zaz (s.lie P) P.n+s.bar P*s.c2 P:=by rw[zay λi _=>vt_eq hI i,zde,zzi];rfl
def vt_sum_le(hP:P.OK)(hI:GI P s):zaz (s.vt P) P.n<=P.mkd*s.D:=by rw[vt_sum hP hI];have:=zpg (s:=s) hP;have:=hI.cons;omega
def mk_le(hP:P.OK):P.mkd<=P.tot:=by rw[<-hP.total];exact zdp λg _=>by split<;>omega
def zlk(hP:P.OK)(hI:GI P s):zaz (s.vt P) P.n<=P.tot*s.D:=xay (vt_sum_le hP hI) (xau _ (mk_le hP))
def zkk(hP:P.OK)(hI:GI P s){c:Nat}(h:c<P.n):s.vt P c<=P.tot*s.D:=xay (zfi h) (zlk hP hI)
def bar_pos(hP:P.OK)(hI:GI P s):0<s.bar P:=Nat.mul_pos hP.q1 hI.D0
def zct(c:Nat):(s.el1 P c=true/\s.st c=0/\s.st1 P c=1/\s.bar P<=s.vt P c)\/(s.el1 P c=false/\s.st1 P c=s.st c):=by
 unfold GS.st1;cases h:s.el1 P c;·exact .inr ⟨rfl,rfl⟩
 ·unfold GS.el1 at h;rw[xal,xak,xak]at h;exact .inl ⟨rfl,h.1,rfl,h.2⟩
def zko(hI:GI P s){c:Nat}(hc:c<P.n)(h:s.st1 P c=1):(s.st c=0\/s.st c=1)/\s.vt P c=s.lie P c/\s.bar P<=s.vt P c:=by
 rcases zct (P:=P) (s:=s) c with⟨_,h1,h2,h3⟩|⟨_,h2⟩
 ·exact⟨.inl h1,vt_lie hI (.inl h1),h3⟩
 ·have h1:s.st c=1:=by omega
  have:=hI.pend c hc h1;rw[vt_lie hI (.inr h1)];exact⟨.inr h1,rfl,this⟩
def zov(c:Nat):s.st1 P c=2↔s.st c=2:=by rcases zct (P:=P) (s:=s) c with⟨_,h1,h2,h3⟩|⟨_,h2⟩<;>omega
def GS.e1(P:GP)(s:GS):Nat:=zbu (λi=>decide (s.st1 P i=1)) P.n
def GS.e2(P:GP)(s:GS):Nat:=zbu (λi=>decide (s.st1 P i=2)) P.n
def GS.e0(P:GP)(s:GS):Nat:=zbu (λi=>decide (s.st1 P i=0)) P.n
def e2_c2:s.e2 P=s.c2 P:=zly λi _=>xdd.2 (zov i)
def ziu(hP:P.OK)(hI:GI P s):s.e1 P+s.e2 P<=P.seats:=by
 have h1:s.bar P*(s.e1 P+s.e2 P)<=zaz (s.vt P) P.n:=by
  unfold GS.e1 GS.e2;rw[xcv,<-zzi,<-zzi,<-zde];refine zdp λi hi=>?_;by_cases h:s.st1 P i=1;·rw[xae h,xah (by omega)];have:=(zko hI hi h).2.2;simpa using this
  ·rw[xah h];by_cases h2:s.st1 P i=2
   ·rw[xae h2];have h3:=(zov i).1 h2;have:s.vt P i=s.bar P:=by unfold GS.vt;rw[if_pos h3]
    rw[this];simp
   ·rw[xah h2];simp
 have h2:=vt_sum_le hP hI;have h3:s.bar P*(s.e1 P+s.e2 P)<s.bar P*(P.seats+1):=by
  refine xdu (xay h1 h2) ?_;have:P.mkd*s.D<P.q*(P.seats+1)*s.D:=xgx hP.quota hI.D0;have e:s.bar P*(P.seats+1)=P.q*(P.seats+1)*s.D:=by unfold GS.bar;rw[xhr]
  omega
 have:=Nat.lt_of_mul_lt_mul_left h3;omega
def fin_false(hP:P.OK)(hI:GI P s)(h:s.fin P=false):s.e1 P+s.e2 P<P.seats/\P.seats<s.e1 P+s.e2 P+s.e0 P:=by unfold GS.fin at h;rw[xct,xbj,xbj]at h;have h1:¬s.e1 P+s.e2 P=P.seats:=h.1;have h2:¬s.e1 P+s.e2 P+s.e0 P<=P.seats:=h.2;have:=ziu hP hI;omega
def tied_ne(hP:P.OK)(hI:GI P s)(h:s.fin P=false):s.tied P≠ []:=by
 obtain⟨h1,h2⟩:=fin_false hP hI h;have ha:zcy (λi=>decide (s.st1 P i=if s.most P then 1 else 0)) P.n≠ []:=by
  have:0<zbu (λi=>decide (s.st1 P i=if s.most P then 1 else 0)) P.n:=by
   cases hm:s.most P;·show 0<s.e0 P;omega
   ·unfold GS.most at hm;exact xbc hm
  rw[<-zcb]at this;exact xcr.1 this
 unfold GS.tied;generalize(if s.most P then 1 else 0)=c at ha ⊢;have key:∃i,i<P.n/\zkm P (s.vt P) (s.st1 P) c (s.most P) i=true:=by
  cases s.most P
  ·obtain⟨i,k1,k2⟩:=zog (s.vt P) ha;obtain⟨k3,k4⟩:=zby.1 k1;refine⟨i,k3,?_⟩;unfold zkm;rw[k4,xbu,xbl];intro k hk;by_cases h5:s.st1 P k=c;·have:=k2 k (zby.2 ⟨xcm.1 hk,xae h5⟩);simp[this]
   ·simp[h5]
  ·obtain⟨i,k1,k2⟩:=exists_mostN (s.vt P) ha;obtain⟨k3,k4⟩:=zby.1 k1;refine⟨i,k3,?_⟩;unfold zkm;rw[k4,xbu,xbl];intro k hk;by_cases h5:s.st1 P k=c;·have:=k2 k (zby.2 ⟨xcm.1 hk,xae h5⟩);simp[this]
   ·simp[h5]
 obtain⟨i,k1,k2⟩:=key;exact xfp (zap.2 ⟨i,rfl,k1,k2⟩)
def pick_mem{earlier:List (List Rat)}(h:s.tied P≠ []):s.pick P earlier∈s.tied P:=by
 unfold GS.pick;split;·exact zgi h
 ·exact zxo h
def zew(hP:P.OK)(hI:GI P s)(h:s.fin P=false)(earlier:List (List Rat)):∃x:Nat,s.pick P earlier=(x:Int)/\x<P.n/\s.st1 P x=if s.most P then 1 else 0:=by have h1:=pick_mem (earlier:=earlier) (tied_ne hP hI h);obtain⟨i,h2,h3,h4⟩:=zap.1 h1;refine⟨i,h2,h3,?_⟩;unfold zkm at h4;rw[xal,xak]at h4;exact h4.1
def move_on{st:Nat->Nat}{keep:Nat->Rat}{x a b g c:Nat}(hx:s.on P g x=false):(s.move P st keep x a b).on P g c=s.on P g c:=by unfold GS.on GS.move;simp only[hx,xbb,xcg]
def move_lie{st:Nat->Nat}{keep:Nat->Rat}{x a b c:Nat}(hc:c≠x):s.lie P c*b<=(s.move P st keep x a b).lie P c:=by
 unfold GS.lie;rw[<-zhr];refine zdp λg hg=>?_;by_cases h:s.on P g c=true
 ·have hx:s.on P g x=false:=by
   cases hx:s.on P g x;·rfl
   ·exact absurd (GS.on_uniq h hx) hc
  rw[if_pos h,if_pos (by rw[move_on hx];exact h)];show _<=P.k g*(if s.on P g x then s.num g*a else s.num g*b);rw[hx,xbt];exact xag _
 ·rw[if_neg h,xfr];exact xbx _
def move_cons{st:Nat->Nat}{keep:Nat->Rat}{x a b:Nat}(hab:a<=b):zaz (λg=>if P.p g=[]then 0 else P.k g*(s.move P st keep x a b).num g) P.G+(b-a)*s.lie P x=zaz (λg=>if P.p g=[]then 0 else P.k g*s.num g) P.G*b:=by
 unfold GS.lie;rw[<-zhr,xce (b-a),<-zhr,<-zde];refine zay λg hg=>?_;show(if P.p g=[]then 0 else P.k g*(if s.on P g x then s.num g*a else s.num g*b))+_=_;cases h:s.on P g x
 ·simp only[xbb,xcg];split;·simp
  ·rw[xfr,xdl,xbt]
 ·have:=GS.on_ne h;simp only[if_neg this,if_true];rw[<-xbt,<-xcv];congr 1;omega
def zzh{p q:Nat->Bool}{n x:Nat}(hx:x<n)(h:∀i,i<n->i≠x->p i=q i)(h0:q x=false)(h1:p x=true):zbu p n=zbu q n+1:=by
 have:=sumN_upd (f:=λi=>if p i then 1 else 0) (g:=λi=>if q i then 1 else 0) hx λi hi hne=>by rw[h i hi hne]
 simp only[h0,h1,if_true,xbb,xcg]at this;unfold zbu;omega
def move_inv(hP:P.OK)(hI:GI P s){x a b y:Nat}{keep:Nat->Rat}(hx:x<P.n)(hy:y=2\/y=3)(hst:s.st1 P x=if y=2 then 1 else 0)(hab:a<=b)(hb0:0<b)
  (hd:y=2->(b-a)*s.lie P x=s.bar P*b) (hd3:y=3->a=b) (hb:s.D*b<=2^(17*(2^(s.c2 P+if y=2 then 1 else 0)-1))) :
  GI P (s.move P (upd (s.st1 P) x y) keep x a b):=by
 have hh:s.st x≠2:=by have:=zov (P:=P) (s:=s) x;split at hst<;>omega
 have hf:(s.move P (upd (s.st1 P) x y) keep x a b).c2 P=s.c2 P+if y=2 then 1 else 0:=by
  unfold GS.c2;show zbu (λi=>decide (upd (s.st1 P) x y i=2)) P.n=_;by_cases h2:y=2;·subst h2;rw[if_pos rfl];refine zzh hx (λi hi hne=>?_) (xah hh) (by rw[zce];rfl);rw[zfg _ _ hne];exact xdd.2 (zov i)
  ·rw[if_neg h2,xdl];refine zly λi hi=>?_;by_cases hi:i=x;·subst hi;rw[zce];exact xdd.2 ⟨λh=>absurd h h2,λh=>absurd h hh⟩
   ·rw[zfg _ _ hi];exact xdd.2 (zov i)
 refine⟨Nat.mul_pos hI.D0 hb0,by rw[hf];exact hb,λg hg=>?_,λg hg=>?_,λg c hg hon=>?_,λc=>?_,λg hg hp=>?_,?_,λc hc hc1=>?_⟩
 ·show(if s.on P g x then s.num g*a else s.num g*b)<=s.D*b;have:=hI.num g hg;split;·exact xcu this hab
  ·exact xau _ this
 ·show(if s.on P g x then nxt (P.p g) _ (s.at_ g+1)else s.at_ g)<=_;cases h:s.on P g x;·exact hI.at_ g hg
  ·exact nxt_le _ (GS.on_lt h)
 ·show upd (s.st1 P) x y c=0\/upd (s.st1 P) x y c=1;cases h:s.on P g x
  ·rw[move_on h]at hon;have he:c≠x:=λe=>by rw[e]at hon;rw[h]at hon;cases hon
   rw[zfg _ _ he];have:=hI.lies g c hg hon;rcases zct (P:=P) (s:=s) c with⟨_,h1,h2,_⟩|⟨_,h2⟩<;>omega
  ·have h1:=GS.on_lt hon;have h2:=GS.on_at hon;have e:(s.move P (upd (s.st1 P) x y) keep x a b).at_ g=nxt (P.p g) (upd (s.st1 P) x y) (s.at_ g+1):=by show(if s.on P g x then nxt (P.p g) _ (s.at_ g+1)else s.at_ g)=_;rw[h];rfl
   rw[e]at h1 h2;have h3:=nxt_at h1;rw[h2,xam]at h3;exact .inl h3
 ·show upd (s.st1 P) x y c<=3;by_cases hi:c=x;·subst hi;rw[zce];omega
  ·rw[zfg _ _ hi];have:=hI.st3 c;rcases zct (P:=P) (s:=s) c with⟨_,h1,h2,_⟩|⟨_,h2⟩<;>omega
 ·show(if s.on P g x then s.num g*a else s.num g*b)=s.D*b;rw[if_neg λh=>GS.on_ne h hp,hI.blank g hg hp]
 ·have h1:=move_cons (P:=P) (s:=s) (st:=upd (s.st1 P) x y) (keep:=keep) (x:=x) hab;have h2:=hI.cons;rw[hf];have e1:(s.move P (upd (s.st1 P) x y) keep x a b).bar P=s.bar P*b:=by show P.q*(s.D*b)=P.q*s.D*b;rw[xbt]
  have e2:P.mkd*(s.move P (upd (s.st1 P) x y) keep x a b).D=P.mkd*s.D*b:=by show P.mkd*(s.D*b)=_;rw[xbt]
  rw[e1,e2,<-h2,xco,<-h1];rcases hy with h3|h3
  ·rw[hd h3,if_pos h3,xcv,xea,xhr (s.bar P) b];omega
  ·rw[hd3 h3,xen,xfr,if_neg (by omega),xdl,xdl,xhr]
 ·have ha:upd (s.st1 P) x y c=1:=hc1;have he:c≠x:=λe=>by rw[e,zce]at ha;omega
  rw[zfg _ _ he]at ha;obtain⟨_,k2,k3⟩:=zko hI hc ha;have e1:(s.move P (upd (s.st1 P) x y) keep x a b).bar P=s.bar P*b:=by show P.q*(s.D*b)=P.q*s.D*b;rw[xbt]
  rw[e1];refine xay (xau b ?_) (move_lie he);omega
def pow_next{D v t c:Nat}(hD:D<=2^(17*(2^c-1)))(hv:v<=t*D)(ht:t<=100000):D*v<=2^(17*(2^(c+1)-1)):=by
 have h1:D*v<=D*(100000*D):=xcy _ (xay hv (xau _ ht));have h2:D*(100000*D)<=2^(17*(2^c-1))*(2^17*2^(17*(2^c-1))):=xcu hD (xcu (by decide) hD);have h3:17*(2^(c+1)-1)=17*(2^c-1)+(17+17*(2^c-1)):=by have:0<2^c:=P2_pos c;rw[xcl];omega
 rw[h3,xez,xez];omega
def trans_inv(hP:P.OK)(hI:GI P s)(h:s.fin P=false)(hm:s.most P=true)(earlier:List (List Rat)):GI P (s.trans P earlier):=by
 obtain⟨x,h1,h2,h3⟩:=zew hP hI h earlier;rw[hm,if_pos rfl]at h3;obtain⟨_,k2,k3⟩:=zko hI h2 h3;have hb:=bar_pos hP hI;unfold GS.trans;simp only[h1,xam];refine move_inv hP hI h2 (.inl rfl) (by rw[h3];rfl) (Nat.sub_le _ _) (by omega) (λ_=>?_) (λh=>by omega) ?_;·rw[<-k2];congr 1;omega
 ·rw[if_pos rfl];exact pow_next hI.Db (zkk hP hI h2) hP.tot5
def excl_inv(hP:P.OK)(hI:GI P s)(h:s.fin P=false)(hm:s.most P=false)(earlier:List (List Rat)):GI P (s.excl P earlier):=by obtain⟨x,h1,h2,h3⟩:=zew hP hI h earlier;rw[hm]at h3;unfold GS.excl;simp only[h1,xam];refine move_inv hP hI h2 (.inr rfl) (by rw[h3];rfl) (xag _) (by omega) (λh=>by omega) (λ_=>rfl) ?_;rw[xea];exact hI.Db
def g0_inv(hP:P.OK):GI P g0:=by have hc:g0.c2 P=0:=(zly (q:=λ_=>false) λi _=>rfl).trans (by unfold zbu;exact zet _);refine⟨by decide,by rw[hc];exact xag 1,λg hg=>xag 1,λg hg=>xbx _,λg c hg _=>.inl rfl,λc=>xbx 3,λg hg hp=>rfl,?_,λc hc h=>by cases h⟩;rw[hc,xiu,xdl];show _=P.mkd*1;rw[xea];unfold GP.mkd;refine zay λg hg=>?_;show(if P.p g=[]then 0 else P.k g*1)=_;rw[xea]
def GS.meas(P:GP)(s:GS):Nat:=zbu (λi=>decide (s.st i=0\/s.st i=1)) P.n
def meas_move{x a b y:Nat}{keep:Nat->Rat}(hx:x<P.n)(hy:y=2\/y=3)(hst:s.st1 P x=0\/s.st1 P x=1):(s.move P (upd (s.st1 P) x y) keep x a b).meas P+1=s.meas P:=by
 unfold GS.meas;refine(zzh (q:=λi=>decide (upd (s.st1 P) x y i=0\/upd (s.st1 P) x y i=1)) hx (λi hi hne=>?_) ?_ ?_).symm;·rw[zfg _ _ hne];refine xdd.2 ?_;rcases zct (P:=P) (s:=s) i with⟨_,h1,h2,_⟩|⟨_,h2⟩<;>omega
 ·rw[zce];exact xah (by omega)
 ·refine xae ?_;rcases zct (P:=P) (s:=s) x with⟨_,h1,h2,_⟩|⟨_,h2⟩<;>omega
def zll(hP:P.OK)(hI:GI P s)(h:s.fin P=false)(hm:s.most P=true)(earlier:List (List Rat)):(s.trans P earlier).meas P+1=s.meas P:=by obtain⟨x,h1,h2,h3⟩:=zew hP hI h earlier;rw[hm,if_pos rfl]at h3;unfold GS.trans;simp only[h1,xam];exact meas_move h2 (.inl rfl) (.inr h3)
def zoh(hP:P.OK)(hI:GI P s)(h:s.fin P=false)(hm:s.most P=false)(earlier:List (List Rat)):(s.excl P earlier).meas P+1=s.meas P:=by obtain⟨x,h1,h2,h3⟩:=zew hP hI h earlier;rw[hm]at h3;unfold GS.excl;simp only[h1,xam];exact meas_move h2 (.inr rfl) (.inl (by simpa using h3))
def meas_le(s:GS):s.meas P<=P.n:=zax _ _
def c2_le(s:GS):s.c2 P<=P.n:=zax _ _
def eD:Nat:=2159
def eB:Nat:=2208
def D_small(hP:P.OK)(hI:GI P s):s.D<=2^eD:=by refine xay hI.Db (xdy (by decide) ?_);have h1:=c2_le (P:=P) s;have h2:=hP.n7;have:2^s.c2 P<=2^7:=xdy (by decide) (by omega);show _<=2159;omega
end
section
abbrev CT:=List Int×(List (List Int)×(Int×(Int×(Int×(Int×(Int×(Int×Int)))))))
abbrev RD:=List Rt×(List Rt×(Rt×(Rt×(Rt×(List Int×(List Int×List Int))))))
abbrev KT:=CT×(List Int×(Int×(Int×(List (List Int×(Int×(Int×Rt)))×(List Int×(List Rt×(Int×(List (List Rt)×(Int×(Int×(Int×(Int×(List RD×List Int)))))))))))))
def zch{α:Type}{l:List α}{d:α}(h:l.length+1<=4294967296):decide ((l.length:Int)+(([d]:List α).length:Int)<=LIM)=true:=by
 have:(l.length:Int)+(([d]:List α).length:Int)=((l.length+1:Nat):Int):=by simp
 rw[this];exact zcg h
def zfc(a b:Nat):decide ((a:Int)=(b:Int))=decide (a=b):=xdd.2 xda
def frac_nd(a b:Nat):(zaj a b).num.natAbs<=a/\(zaj a b).den<=max 1 b:=by
 have e:zaj a b=mkRat a b:=by unfold zaj;rw[Rat.mkRat_eq_div];rfl
 rw[e];by_cases hb:b=0;·subst hb;rw[Rat.mkRat_zero];exact⟨xbx _,xju _ _⟩
 ·rw[Rat.num_mkRat,Rat.den_mkRat,if_neg hb,if_neg hb];refine⟨?_,xay (xed _ _) (Nat.le_max_right _ _)⟩;rw[xiz];have:((a:Int)/((b.gcd a:Nat):Int))=((a/b.gcd a:Nat):Int):=rfl;rw[this,xiz];exact xed _ _
def zhj{a b e:Nat}(ha:a<2^e)(hb:b<2^e)(he:1<=e):Bz e (zaj a b):=by obtain⟨h1,h2⟩:=frac_nd a b;have:1<2^e:=xit (by omega);exact⟨by omega,by omega⟩
def zfw(a:Nat):zaj a 1=(a:Rat):=by unfold zaj;grind
def zny{a b D:Nat}(hD:0<D):zaj a D+zaj b D=zaj (a+b) D:=by unfold zaj;rw[xfv,xfv,xfv,<-Rat.add_mul];simp only[Rat.natCast_add]
def zjn{a b D:Nat}(hD:0<D)(h:b<=a):zaj a D-zaj b D=zaj (a-b) D:=by have:=zny (a:=a-b) (b:=b) hD;rw[Nat.sub_add_cancel h]at this;rw[<-this];grind
def zqj(a D k:Nat):zaj a D*(k:Rat)=zaj (k*a) D:=by unfold zaj;simp only[xjr];rw[xfv,xfv];grind
def zhh{q D:Nat}(hD:0<D):zaj (q*D) D=(q:Rat):=by
 unfold zaj;have:(D:Rat)≠0:=by simp;omega
 rw[xjr,Rat.mul_div_cancel this]
def zhi{a b D:Nat}(hD:0<D):zaj a D<=zaj b D↔a<=b:=by
 unfold zaj;have:(0:Rat)<(D:Rat):=by exact_mod_cast hD
 rw[xfv,xfv];have hi:(0:Rat)<(D:Rat)⁻¹:=Rat.inv_pos.2 this;constructor;·intro h;have:=Rat.le_of_mul_le_mul_right h hi;exact_mod_cast this
 ·intro h;exact Rat.mul_le_mul_of_nonneg_right (by exact_mod_cast h) (xhz hi)
def zsx{a b D:Nat}(hD:0<D):zaj a D<zaj b D↔a<b:=by rw[<-xii,zhi hD];omega
def frac_inj{a b D:Nat}(hD:0<D):zaj a D=zaj b D↔a=b:=by
 constructor;·intro h;have h1:a<=b:=(zhi hD).1 (by rw[h];exact xhl);have h2:b<=a:=(zhi hD).1 (by rw[h];exact xhl);omega
 ·intro h;rw[h]
def Bz.sz2{q:Rat}(h:Bz eB q):Sz 268435456 (rr q):=by have h':Bz (32*69) q:=h;have:=Bz.sz (k:=69) h';exact⟨by have:=this.1;omega,by have:=this.2;omega⟩
def zhy{n:Nat}(h:n<2^64):Bz eB (n:Rat):=by rw[<-zfw];exact zhj (Nat.lt_trans h (xel (by decide) (by decide))) (xit (by decide)) (by decide)
def zcm{n:Nat}(h:n<=9223372036854775807):d93 (n:Int)=some (rr (n:Rat)):=by rw[zwt (by omega) (by omega)];rfl
def zdw{p:Nat->Bool}{n j:Nat}(h:j<(zcy p n).length):(zcy p n).getD j 0<n/\p ((zcy p n).getD j 0)=true:=by rw[xad,xaj h];exact zby.1 (xbf h)
def zev{p:Nat->Bool}{n j:Nat}(h:j<(zcy p n).length):(zaq p n).getD j 0=(((zcy p n).getD j 0:Nat):Int):=by unfold zaq;rw[xad,xci,xaj h,xad,xaj h];rfl
def zaw{α:Type}(l:List α)(d:α){n:Nat}(h:n<l.length):l.take (n+1)=l.take n++[l.getD n d]:=by rw[xhd,xad,xaj h];rfl
def zbz{α:Type}(f:Nat->α)(L:List Nat)(x:α):Nat->α:=λc=>if c∈L then x else f c
def zel{α:Type}(f:Nat->α)(L:List Nat)(c:Nat)(x:α):upd (zbz f L x) c x=zbz f (L++[c]) x:=by
 funext d;unfold upd zbz;by_cases h:d=c;·subst h;simp
 ·simp[h]
def zeq{α:Type}(f:Nat->α)(x:α):zbz f [] x=f:=by funext d;simp[zbz]
def zpq{k:KT}{st:Nat->Nat}{n:Nat}(hk:k.2.2.2.2.2.1=lst (λi=>(st i:Int)) n)(hn:n<=1000)(x:Nat):d172 k (x:Int)=some (zaq (λi=>decide (st i=x)) n):=by
 unfold d172;rw[hk,zad];refine zaa (λi=>((x:Int),zaq (λi=>decide (st i=x)) i,lst (λi=>(st i:Int)) n,(n:Int),(i:Int))) n rfl (λi hi=>?_) ?_ rfl
 ·have hl:(zaq (λi=>decide (st i=x)) i).length+1<=4294967296:=by rw[zav];have:=zax (λi=>decide (st i=x)) i;omega
  rw[zeu];simp only[dlt hi,zbp,zad,xai,xab,tn,zaf _ hi,zal,zfc,wsx i];by_cases h:st i=x;·rw[xae h,xab,zch hl,xab];rfl
  ·rw[xah h,xaf];simp
 ·simp only[nlt (xag n),xaf]
def d168_eq{f:Nat->Rat}{n:Nat}(hn:n<=1000)(hf:∀i,i<n->Bz eB (f i)):d168 (lst (λi=>rr (f i)) n)=some (lst (λi=>rr (f i)) n):=by
 unfold d168;rw[zad];refine zaa (λi=>(lst (λi=>rr (f i)) i,lst (λi=>rr (f i)) n,(n:Int),(i:Int))) n rfl (λi hi=>?_) ?_ rfl;·have hs:=(hf i hi).sz2;simp only[dlt hi,zbp,zad,xai,xab,tn,zaf _ hi,wsx i,zzd (show(rr (f i)).2.1.length<=4294967296 by have:=hs.1;omega),zzd (show(rr (f i)).2.2.length<=4294967296 by have:=hs.2;omega),xaa];have hl:=zch (l:=lst (λi=>rr (f i)) i) (d:=((rr (f i)).1,(rr (f i)).2.1,(rr (f i)).2.2)) (by rw[zad];omega);rw[zad]at hl;rw[hl,xab,zcz]
 ·simp only[nlt (xag n),xaf]
def GS.lieU(P:GP)(s:GS)(m c:Nat):Nat:=zaz (λg=>if s.on P g c then P.k g*s.num g else 0) m
def zkb(P:GP)(s:GS)(g:Nat):List Int×(Int×(Int×Rt)):=(P.p g,(P.k g:Int),(s.at_ g:Int),rr (zaj (s.num g) s.D))
variable {P:GP} {s:GS}
def lieU_le(m c:Nat)(h:m<=P.G):s.lieU P m c<=s.lie P c:=by
 have key:∀(f:Nat->Nat) (m n:Nat),m<=n->zaz f m<=zaz f n:=by
  intro f m n;induction n with
  |zero=>intro h;rw[show m=0 by omega];exact xag _
  |succ n ih=>
   intro h;by_cases hm:m=n+1;·rw[hm];exact xag _
   ·rw[zaz];have:=ih (by omega);omega
 exact key _ _ _ h
def zfd{a:Nat}(hP:P.OK)(hI:GI P s)(h:a<=P.tot*s.D):a<2^eB:=by
 have h1:=D_small hP hI;have h2:P.tot*s.D<=100000*2^eD:=xcu hP.tot5 h1;have h3:100000*2^eD<=2^17*2^eD:=xau _ (by decide);have h4:2^17*2^eD<2^eB:=by rw[<-xez];exact xel (by decide) (by decide)
 omega
def D_lt(hP:P.OK)(hI:GI P s):s.D<2^eB:=xdu (D_small hP hI) (xel (by decide) (by decide))
def zbb(hP:P.OK)(hI:GI P s){a:Nat}(h:a<=P.tot*s.D):Bz eB (zaj a s.D):=zhj (zfd hP hI h) (D_lt hP hI) (by decide)
def k_le(hP:P.OK){g:Nat}(h:g<P.G):P.k g<=P.tot:=by rw[<-hP.total];exact zfi h
def knum_le(hP:P.OK)(hI:GI P s){g:Nat}(h:g<P.G):P.k g*s.num g<=P.tot*s.D:=xcu (k_le hP h) (hI.num g h)
def lie_le(hP:P.OK)(hI:GI P s){c:Nat}(h:c<P.n):s.lie P c<=P.tot*s.D:=by have h1:=zfi (f:=s.lie P) h;have h2:=zpg (s:=s) hP;have h3:=hI.cons;have h4:=xau s.D (mk_le hP);omega
def znm(hP:P.OK)(hI:GI P s){g:Nat}(h:g<P.G):Bz eB (zaj (s.num g) s.D):=zhj (xdu (hI.num g h) (D_lt hP hI)) (D_lt hP hI) (by decide)
def zin(hP:P.OK):Bz eB (P.q:Rat):=zhy (by have:=hP.q5;omega)
def d167_eq(hP:P.OK)(hI:GI P s)(hG:P.G<=1000000){k:KT}(h1:k.2.2.2.2.1=lst (zkb P s) P.G)(h2:k.2.2.2.2.2.1=lst (λi=>(s.st i:Int)) P.n)(h3:k.2.2.2.1=(P.q:Int)) :
  d167 k=some (lst (λi=>rr (zaj (s.vt P i) s.D)) P.n):=by
 have hn:=hP.n7;unfold d167;rw[h2,zad];refine zaa (λi=>(k,lst (λ_=>rr 0) i,(P.n:Int),(i:Int))) P.n rfl (λi hi=>?_) (b:=(k,lst (λ_=>rr 0) P.n)) ?_ ?_;·have hl:=zch (l:=lst (λ_=>rr 0) i) (d:=rr 0) (by rw[zad];omega);simp only[dlt hi,xab,show d93 0=some (rr 0)from zwt (n:=0) (by omega) (by omega),xaa,hl,wsx i,<-zcz]
 ·simp only[nlt (xag P.n),xaf]
 simp only[h1,zad];refine zaa (λm=>(k,lst (λc=>rr (zaj (s.lieU P m c) s.D)) P.n,lst (zkb P s) P.G,(P.G:Int),(m:Int))) P.G ?_ (λg hg=>?_) (b:=(k,lst (λc=>rr (zaj (s.lie P c) s.D)) P.n)) ?_ ?_;·simp only[GS.lieU,zaz,show zaj 0 s.D=0 by unfold zaj;rw[xfv];simp];rfl
 ·simp only[dlt hg,zbp,zad,xai,xab,tn,zaf (zkb P s) hg,zkb,zal,wsx g];by_cases ha:s.at_ g<(P.p g).length
  ·obtain⟨c,c1,c2⟩:=GS.on_ex hP hg ha;have c3:=GS.on_at c2;have hU:=lieU_le (P:=P) (s:=s) g c (by omega);have hL:=lie_le hP hI c1;have hk:=k_le hP hg;have ht:=hP.tot5;have hd:=knum_le hP hI hg;rw[dlt ha];simp only[xab,zbp,xai,tn,c3,dlt c1,zaf (λc=>rr (zaj (s.lieU P g c) s.D)) c1,zad];rw[zcm (by omega),xaa,zze (znm hP hI hg).sz2 (zhy (by omega)).sz2,xaa,zqj,zpp (zbb hP hI (by omega)).sz2 (zbb hP hI hd).sz2,xaa,zny hI.D0,zcl];have e:lst (upd (λc=>rr (zaj (s.lieU P g c) s.D)) c (rr (zaj (s.lieU P g c+P.k g*s.num g) s.D))) P.n=lst (λc=>rr (zaj (s.lieU P (g+1) c) s.D)) P.n:=zai λi hi=>by
    unfold upd GS.lieU;by_cases h:i=c;·subst h;rw[if_pos rfl,zaz,if_pos c2]
    ·rw[if_neg h,zaz,if_neg λh4=>h (GS.on_uniq h4 c2),xdl]
   rw[e]
  ·rw[nlt (by omega),xaf];have e:lst (λc=>rr (zaj (s.lieU P g c) s.D)) P.n=lst (λc=>rr (zaj (s.lieU P (g+1) c) s.D)) P.n:=zai λi hi=>by unfold GS.lieU;rw[zaz,if_neg λh4=>ha (GS.on_lt h4),xdl]
   rw[e]
 ·simp only[nlt (xag P.G),xaf];rfl
 have e2:=zpq (k:=k) h2 (by omega) 2;simp only[show d172 k 2=some (zaq (λi=>decide (s.st i=2)) P.n)from e2,xaa];obtain⟨L,hL⟩:∃L,zcy (λi=>decide (s.st i=2)) P.n=L:=⟨_,rfl⟩;have hb:(zaq (λi=>decide (s.st i=2)) P.n).length=L.length:=by rw[<-hL,zaq,xao]
 have he:L.length<=7:=by rw[<-hL,zcb];have:=zax (λi=>decide (s.st i=2)) P.n;omega
 rw[hb];refine zaa (λj=>(k,lst (zbz (λc=>rr (zaj (s.lie P c) s.D)) (L.take j) (rr (P.q:Rat))) P.n,zaq (λi=>decide (s.st i=2)) P.n,(L.length:Int),(j:Int))) L.length ?_ (λj hj=>?_) (b:=lst (zbz (λc=>rr (zaj (s.lie P c) s.D)) L (rr (P.q:Rat))) P.n) ?_ ?_;·rw[xcq,zeq];rfl
 ·have hc:j<(zcy (λi=>decide (s.st i=2)) P.n).length:=by rw[hL];exact hj
  have hg:=zdw hc;rw[hL]at hg;have hq:=hP.q5;simp only[dlt hj,zbp,hb,xai,xab,tn,zev hc,h3,zcm (show P.q<=9223372036854775807 by omega),xaa,zad,dlt hg.1,wsx j,zcl,zel,hL];rw[zaw L 0 hj]
 ·simp only[nlt (xag L.length),xaf,xaz]
 ·congr 1;refine zai λi hi=>?_;unfold zbz;rw[vt_eq hI];by_cases h:s.st i=2;·rw[if_pos (by rw[<-hL];exact zby.2 ⟨hi,xae h⟩),xae h,zyn hI (.inl h),if_pos rfl,xck];unfold GS.bar;rw[zhh hI.D0]
  ·rw[if_neg (by rw[<-hL];intro hm;exact h (xbc (zby.1 hm).2)),xah h];simp
end
def zxp{α:Type}(l:List α)(x:α){i:Nat}(h:i<l.length):(l.set i x).take (i+1)=l.take i++[x]:=by
 refine xhx λj=>?_;by_cases hj:j<i+1
 ·rw[xjg hj];by_cases h2:i=j;·subst h2;rw[List.getElem?_set_self h,xde (by rw[xax];omega),xax,xfm (by omega),xen];rfl
  ·rw[xjz h2,xfl (by rw[xax];omega),xjg (by omega)]
 ·rw[xdm (by rw[xax,xcd];omega),xdm (by rw[xbo,xax];simp;omega)]
def zgk(g:Int->Bool)(s:List Int){j:Nat}(h:j<s.length):(s.take (j+1)).filter g=(s.take j).filter g++(if g (s.getD j 0)then [s.getD j 0]else []):=by rw[zaw s 0 h,xgb];congr 1;rw[xer];cases hg:g (s.getD j 0)<;>rfl
def getD_of_drop{s t:List Int}{j:Nat}(h:s.drop j=t.drop j):s.getD j 0=t.getD j 0:=by have h1:=zit s j 0 0;have h2:=zit t j 0 0;rw[xdl]at h1 h2;rw[<-h1,<-h2,h]
def zql{s t:List Int}{j:Nat}(h:s.drop j=t.drop j):s.drop (j+1)=t.drop (j+1):=by rw[<-xje,<-xje,h]
def zpr{s:List Int}{f:Int->Option Bool}{g:Int->Bool}(hf:∀c∈s,f c=some (g c))(hs:s.length<=1000000):d171 s f=some (s.filter λc=>!g c):=by
 unfold d171;rw[d84_on hf (by omega)];have hr:=zgx g s;by_cases h:zag g s<s.length
 ·rw[if_pos h,xaa,zdf (((zag g s:Nat):Int)=-1),xaf];obtain⟨i0,hn⟩:∃i0,zag g s=i0:=⟨_,rfl⟩;have hh:=zfq g s h;have he:=zee g s;rw[hn]at h hh he;rw[hn,zmh (by omega)];refine zcs (Q:=λr=>r=some (s.filter λc=>!g c)) (λ(m:Nat) (st:(List Int)×(Int->Option Bool)×Int×Int)=>∃(s':List Int) (i:Nat),st=(s',f,(i:Int),((i0+1+m:Nat):Int))/\s'.length=s.length/\i<=i0+m/\i0+1+m<=s.length/\s'.take i=(s.take (i0+1+m)).filter (λc=>!g c)/\s'.drop (i0+1+m)=s.drop (i0+1+m)) (s.length-(i0+1)) ?_ ?_ ?_;·refine⟨s,i0,rfl,rfl,by omega,by omega,?_,rfl⟩;rw[zgk _ s h,hh,show(!true)=false from rfl];simp only[xbb,xcg,xbn];refine(xgn.2 λx hx=>?_).symm;obtain⟨k,hk,ho⟩:=xdi hx;rw[xax]at hk;have:=he k (by omega);rw[xad,xaj (by omega)]at this;rw[xgj]at ho;rw[<-ho];simpa using this
  ·rintro m st hm ⟨s',i,rfl,hl,hi,hmle,ht,hd⟩;have hj:i0+1+m<s.length:=by omega
   have hp:=getD_of_drop hd;have hb:s.getD (i0+1+m) 0∈s:=zbx hj;simp only[hl,dlt hj,zbp,xai,xab,tn,zal,hp,hf _ hb,xaa];rw[show i0+1+(m+1)=i0+1+m+1 by omega];cases hg:g (s.getD (i0+1+m) 0)with
   |true=>
    refine⟨_,by rw[xat,xaf,zmh (by omega)],s',i,rfl,hl,by omega,by omega,?_,zql hd⟩;rw[zgk _ s hj,hg,ht];simp
   |false=>
    refine⟨_,by simp only[xap,xab,dlt (show i<s.length by omega),wsx i,wsx (i0+1+m),xai],s'.set i (s.getD (i0+1+m) 0),i+1,rfl,by simpa using hl,by omega,by omega,?_,?_⟩;·rw[zxp _ _ (by omega),zgk _ s hj,hg,ht];simp
    ·rw[List.drop_set_of_lt (by omega)];exact zql hd
  ·rintro st ⟨s',i,rfl,hl,hi,hmle,ht,hd⟩;have e:i0+1+(s.length-(i0+1))=s.length:=by omega
   rw[e]at ht hd ⊢;rw[xaz]at ht;refine⟨(s',(i:Int)),by simp only[hl,nlt (xag s.length),xaf],?_⟩;have hq:i<=s'.length:=by omega
   have ha:(List.take i s'++List.replicate (s'.length-i) 0).length=s'.length:=by simp;omega
   have c1:zcr (i:Int) (s'.length:Int) s'.length=true:=by unfold zcr;simp only[xal,xak];omega
   have c2:zcr 0 (i:Int) s'.length=true:=by unfold zcr;simp only[xal,xak];omega
   simp only[c1,xab,tn,ha,c2];rw[List.take_append_of_le_length (by rw[xax];omega),List.take_take,Nat.min_self,ht]
 ·rw[if_neg h,xaa];have hc:∀x∈s,g x=false:=λx hx=>by
   cases hg:g x;·rfl
   ·exact absurd ((zfp g s).2 ⟨x,hx,hg⟩) h
  rw[xgn.2 λx hx=>by rw[hc x hx];rfl];rfl
def d170_eq {c:CT} {lots:List Int} {tot q:Int} {pc:List (List Int × (Int × (Int × Rt)))} {st:Nat->Nat} {n:Nat} {kp:List Rt} {filled:Nat} {rest:List (List Rt) × (Int × (Int × (Int × (Int × (List RD × List Int)))))}
    {v kk:List Rt} {qu ex su:Rt} {el ex2 ti:List Int} {p:Nat->Bool} (hn:n<=7) (hf:filled<=1000) (hel:el.length<=1000) :
    d170 (c,lots,tot,q,pc,lst (λi=>(st i:Int)) n,kp,(filled:Int),rest) (v,kk,qu,ex,su,el,ex2,ti) (zaq p n)
      =some ((c,lots,tot,q,pc,lst (λi=>((if p i then 1 else st i:Nat):Int)) n,kp,((filled+zbu p n:Nat):Int),rest),(v,kk,qu,ex,su,zcf (el++zaq p n),ex2,ti)):=by
  unfold d170;obtain⟨L,hL⟩:∃L,zcy p n=L:=⟨_,rfl⟩;have ha:(zaq p n).length=L.length:=by rw[<-hL,zaq,xao]
  have hc:zbu p n=L.length:=by rw[<-hL,zcb]
  have hk:L.length<=7:=by rw[<-hc];have:=zax p n;omega
  rw[ha];refine zaa (λj=>((c,lots,tot,q,pc,lst (λi=>((zbz st (L.take j) 1 i:Nat):Int)) n,kp,((filled+j:Nat):Int),rest),(v,kk,qu,ex,su,el++(zaq p n).take j,ex2,ti),zaq p n,(L.length:Int),(j:Int))) L.length ?_ (λj hj=>?_) (b:=((c,lots,tot,q,pc,lst (λi=>((zbz st L 1 i:Nat):Int)) n,kp,((filled+L.length:Nat):Int),rest),(v,kk,qu,ex,su,el++zaq p n,ex2,ti))) ?_ ?_;· rw[xcq,zeq,xcq,xbn];rfl
  · have he:j<(zcy p n).length:=by rw[hL];exact hj
    have hg:=zdw he;have hb:=zev he;rw[hL]at hg hb;have hh:(el++(zaq p n).take j).length+1<=4294967296:=by rw[xbo,xax];omega
    simp only[dlt hj,zbp,ha,xai,xab,tn,hb,zad,dlt hg.1,zch hh,wsx j,wsx (filled+j),zcl];have e:lst (upd (λi=>((zbz st (L.take j) 1 i:Nat):Int)) (L.getD j 0) 1) n=lst (λi=>((zbz st (L.take (j+1)) 1 i:Nat):Int)) n:=zai λi hi=>by rw[zaw L 0 hj,<-zel];unfold upd;split<;>rfl
    rw[e,zaw (zaq p n) 0 (by rw[ha];exact hj),hb,xbv];rfl
  · simp only[nlt (xag L.length),xaf,xaz];rw[<-ha,xaz]
  · have hd:d98 (el++zaq p n)=some (zcf (el++zaq p n)):=by unfold d98;rw[zcg (by rw[xbo];omega)];rfl
    simp only[hd,xaa,hc];have e:lst (λi=>((zbz st L 1 i:Nat):Int)) n=lst (λi=>((if p i then 1 else st i:Nat):Int)) n:=zai λi hi=>by
     unfold zbz;congr 1;by_cases h:p i=true;· rw[if_pos (by rw[<-hL];exact zby.2 ⟨hi,h⟩),if_pos h]
     · rw[if_neg (by rw[<-hL];exact λhm=>h (zby.1 hm).2),if_neg h]
    rw[e]
def zbv(p:Nat->Bool):∀n:Nat,(zaq p n).Pairwise (·< ·)
 | 0=>List.Pairwise.nil
 |n+1=>by
  rw[zeu,xdr];refine⟨zbv p n,by split<;>simp,λx hx y hy=>?_⟩;obtain⟨i,rfl,h1,_⟩:=zap.1 hx;split at hy;·simp at hy;subst hy;omega
  ·simp at hy
def zhs{l m:List Int}(hp:l.Perm m)(hs:m.Pairwise (·<=·)):zcf l=m:=by
 unfold zcf;have h1:=List.mergeSort_perm l λx y=>decide (x<=y);have h2:(l.mergeSort λx y=>decide (x<=y)).Pairwise (·<=·):=by have:=List.pairwise_mergeSort (le:=λx y:Int=>decide (x<=y)) (λa b c h1 h2=>xae (Int.le_trans (xbc h1) (xbc h2))) (λa b=>by simp only[xeg,xak];omega) l;exact this.imp λh=>xbc h
 exact(h1.trans hp).eq_of_pairwise (λa b _ _ h3 h4=>Int.le_antisymm h3 h4) h2 hs
def zox(p:Nat->Bool)(n:Nat):zcf (zaq p n)=zaq p n:=zhs (xft _) ((zbv p n).imp λh=>xja h)
def sel_perm{p q:Nat->Bool}(h:∀i,p i=true->q i=false):∀n:Nat,(zaq p n++zaq q n).Perm (zaq (λi=>p i||q i) n)
 | 0=>xft _
 |n+1=>by
  have ih:=sel_perm h n;rw[zeu,zeu,zeu];cases hp:p n
  ·simp only[xbb,xcg,xbn,xbz];cases hq:q n;·simp only[xbb,xcg,xbn];exact ih
   ·simp only[if_true];rw[<-xbv];exact ih.append_right _
  ·rw[h n hp];simp only[xbb,xcg,xbn,xby,if_true];refine List.Perm.trans ?_ (ih.append_right [(n:Int)]);rw[xbv,xbv];exact List.Perm.append_left _ xib
def znf{p q:Nat->Bool}(h:∀i,p i=true->q i=false)(n:Nat):zcf (zaq p n++zaq q n)=zaq (λi=>p i||q i) n:=
 zhs (sel_perm h n) ((zbv _ n).imp λh=>xja h)
def zkc(ρ:Int->Rat)(l:List Int):List Int:=l.filter λi=>l.all λk=>decide (ρ i<=ρ k)
def sgR(least:Bool)(r:Int->Rat)(c:Int):Rat:=if least then r c else-r c
def extr_ext0(least:Bool)(r:Int->Rat)(l:List Int):zjq least r l=zkc (sgR least r) l:=by
 unfold zjq zkc sgR;refine xek λi _=>?_;congr 1;funext k;cases least;·simp only[xbb,xcg];exact xdd.2 ⟨λh=>by grind,λh=>by grind⟩
 ·rfl
def zoe{ρ:Int->Rat}{l:List Int}{x:Int}:x∈zkc ρ l↔x∈l/\∀k∈l,ρ x<=ρ k:=by unfold zkc;rw[xfw,xbl];simp only[xak]
def zth{ρ:Int->Rat}{l:List Int}(h:l≠ []):zkc ρ l≠ []:=by obtain⟨i,h1,h2⟩:=zhv ρ h;exact xfp (zoe.2 ⟨h1,h2⟩)
def zyz(ρ:Int->Rat):zkc ρ []=[]:=rfl
def ztg(ρ:Int->Rat){l:List Int}(x:Int)(hl:l≠ []):zkc ρ (l++[x])=if ρ x<ρ ((zkc ρ l).headD 0)then [x]else if ρ x=ρ ((zkc ρ l).headD 0)then zkc ρ l++[x]else zkc ρ l:=by
 have hy:=zgi (zth (ρ:=ρ) hl);generalize(zkc ρ l).headD 0=y at hy ⊢;obtain⟨h1,h2⟩:=zoe.1 hy;have e:zkc ρ (l++[x])=l.filter (λi=>(l.all λk=>decide (ρ i<=ρ k))&&decide (ρ i<=ρ x))++if(l.all λk=>decide (ρ x<=ρ k))then [x]else []:=by
  unfold zkc;rw[xgb];congr 1;·refine xek λi _=>?_;rw[List.all_append];simp
  ·rw[xer,List.all_append];have:ρ x<=ρ x:=xhl;simp[this]
 rw[e];by_cases c1:ρ x<ρ y
 ·rw[if_pos c1];have a1:l.filter (λi=>(l.all λk=>decide (ρ i<=ρ k))&&decide (ρ i<=ρ x))=[]:=by refine xgu.2 λi hi hc=>?_;simp only[xal,xak]at hc;have:=h2 i hi;grind
  have a2:(l.all λk=>decide (ρ x<=ρ k))=true:=xbl.2 λk hk=>xae (by have:=h2 k hk;grind);rw[a1,a2];rfl
 ·rw[if_neg c1];have a1:l.filter (λi=>(l.all λk=>decide (ρ i<=ρ k))&&decide (ρ i<=ρ x))=zkc ρ l:=by
   unfold zkc;refine xek λi hi=>?_;cases hall:(l.all λk=>decide (ρ i<=ρ k));·rfl
   ·have:=xbc (xbl.1 hall y h1);rw[xbu];exact xae (by grind)
  rw[a1];by_cases c2:ρ x=ρ y;·rw[if_pos c2];have a2:(l.all λk=>decide (ρ x<=ρ k))=true:=xbl.2 λk hk=>xae (by have:=h2 k hk;grind);rw[a2];rfl
  ·rw[if_neg c2];have a2:(l.all λk=>decide (ρ x<=ρ k))=false:=by rw[List.all_eq_false];exact⟨y,h1,by simp only[xak];grind⟩
   rw[a2];simp
def ordQ(least:Bool)(a b:Rat):Int:=if least then zrm a b else 0-zrm a b
def ordQ_lt(least:Bool)(r:Int->Rat)(x y:Int):decide (ordQ least (r x) (r y)<0)=decide (sgR least r x<sgR least r y):=by
 refine xdd.2 ?_;unfold ordQ sgR zrm;cases least<;>simp only[xbb,xcg,if_true]
 ·by_cases h1:r x<r y
  ·rw[if_pos h1];constructor;·intro h;omega
   ·intro h;grind
  ·rw[if_neg h1];by_cases h2:r x=r y
   ·rw[if_pos h2];constructor;·intro h;omega
    ·intro h;grind
   ·rw[if_neg h2];constructor;·intro _;grind
    ·intro _;omega
 ·by_cases h1:r x<r y
  ·rw[if_pos h1];constructor;·intro h;exact h1
   ·intro h;omega
  ·rw[if_neg h1];constructor;·intro h;split at h<;>omega
   ·intro h;exact absurd h h1
def ordQ_eq(least:Bool)(r:Int->Rat)(x y:Int):decide (ordQ least (r x) (r y)=0)=decide (sgR least r x=sgR least r y):=by
 refine xdd.2 ?_;unfold ordQ sgR zrm;cases least<;>simp only[xbb,xcg,if_true]
 ·by_cases h1:r x<r y
  ·rw[if_pos h1];constructor;·intro h;omega
   ·intro h;grind
  ·rw[if_neg h1];by_cases h2:r x=r y
   ·rw[if_pos h2];constructor;·intro h;grind
    ·intro h;omega
   ·rw[if_neg h2];constructor;·intro _;omega
    ·intro _;grind
 ·by_cases h1:r x<r y
  ·rw[if_pos h1];constructor;·intro h;omega
   ·intro h;grind
  ·rw[if_neg h1];constructor
   ·intro h;split at h;·assumption
    ·omega
   ·intro h;rw[if_pos h]
def cmpQ_bounds(a b:Rat):-1<=zrm a b/\zrm a b<=1:=by unfold zrm;(repeat' split)<;>omega
def zho(v:Int):∀l:List Int,zag (λx=>decide (v=x)) l=l.idxOf v
 | []=>rfl
 |x::l=>by
  unfold zag;rw[List.idxOf_cons,zho v l];by_cases h:v=x;·subst h;simp
  ·have:(x == v)=false:=by simp;exact λe=>h e.symm
   rw[this];simp[h]
def d210_eq{lots:List Int}(hl:lots.length<=1000){a b:Int}(ha:a∈lots)(hb:b∈lots):d210 a b lots=some ((zan lots a:Int)-(zan lots b:Int)):=by unfold d210;have h1:=xjf.2 ha;have h2:=xjf.2 hb;rw[zty a (by omega),zty b (by omega),zho,zho,if_pos h1,if_pos h2];simp only[xaa];unfold zan;rw[zbq (by omega) (by omega)]
def d211_eq{x:List Int}{cmp:Int->Int->Option Int}{g:Int->Int->Int}(hx:x≠ [])(hl:x.length<=1000)(hc:∀a∈x,∀b∈x,cmp a b=some (g a b)):d211 x cmp=some (x.tail.foldl (λm c=>if 0<g c m then c else m) (x.headD 0)):=by
 have hp:=xcr.2 hx;unfold d211;rw[zdf (((x.length:Int)<1)),xaf,show(decide (0<=0)&&decide ((0:Int)<(x.length:Int)))=true by rw[zdt ((0:Int)<(x.length:Int))];rfl,xab];have ha:∀i,(x.tail.take i).foldl (λm c=>if 0<g c m then c else m) (x.headD 0)∈x:=λi=>by
  cases x with
  |nil=>exact absurd rfl hx
  |cons y x=>
   simp only[xjb,xgi];rcases zla (λm c=>if 0<g c m then c else m) (λa b=>by split<;>simp) (x.take i) y with h|h
   ·rw[h];simp
   ·exact xan _ (xca h)
 refine zaa (λi=>(x,cmp,(x.tail.take i).foldl (λm c=>if 0<g c m then c else m) (x.headD 0),((i+1:Nat):Int))) (x.length-1) ?_ (λi hi=>?_) (b:=x.tail.foldl (λm c=>if 0<g c m then c else m) (x.headD 0)) ?_ rfl
 ·rw[xcq,xgr];cases x with
  |nil=>exact absurd rfl hx
  |cons y x=>rfl
 ·have hb:i+1<x.length:=by omega
  have hd:x.getD (i+1) 0∈x:=zbx hb;have ht:x.tail.getD i 0=x.getD (i+1) 0:=by
   cases x with
   |nil=>exact absurd rfl hx
   |cons y x=>rfl
  have hs:x.tail.take (i+1)=x.tail.take i++[x.getD (i+1) 0]:=by rw[zaw x.tail 0 (by rw[xif];omega),ht]
  simp only[dlt hb,zbp,xai,xab,tn,zal,hc _ hd _ (ha i),xaa,wsx (i+1),hs,xej,xfd,xgr];generalize(x.tail.take i).foldl (λm c=>if 0<g c m then c else m) (x.headD 0)=m;by_cases h:0<g (x.getD (i+1) 0) m;·rw[xae h,xab,if_pos h]
  ·rw[xah h,xaf,if_neg h]
 ·have e:x.length-1+1=x.length:=by omega
  rw[e];simp only[nlt (xag x.length),xaf];rw[xbg (by rw[xif];omega)]
def d212_eq{x:List Int}{cmp:Int->Int->Option Int}{g:Int->Int->Int}(hx:x≠ [])(hl:x.length<=1000)(hc:∀a∈x,∀b∈x,cmp a b=some (g a b)):d212 x cmp=some (x.tail.foldl (λm c=>if g c m<0 then c else m) (x.headD 0)):=by
 have hp:=xcr.2 hx;unfold d212;rw[zdf (((x.length:Int)<1)),xaf,show(decide (0<=0)&&decide ((0:Int)<(x.length:Int)))=true by rw[zdt ((0:Int)<(x.length:Int))];rfl,xab];have ha:∀i,(x.tail.take i).foldl (λm c=>if g c m<0 then c else m) (x.headD 0)∈x:=λi=>by
  cases x with
  |nil=>exact absurd rfl hx
  |cons y x=>
   simp only[xjb,xgi];rcases zla (λm c=>if g c m<0 then c else m) (λa b=>by split<;>simp) (x.take i) y with h|h
   ·rw[h];simp
   ·exact xan _ (xca h)
 refine zaa (λi=>(x,cmp,(x.tail.take i).foldl (λm c=>if g c m<0 then c else m) (x.headD 0),((i+1:Nat):Int))) (x.length-1) ?_ (λi hi=>?_) (b:=x.tail.foldl (λm c=>if g c m<0 then c else m) (x.headD 0)) ?_ rfl
 ·rw[xcq,xgr];cases x with
  |nil=>exact absurd rfl hx
  |cons y x=>rfl
 ·have hb:i+1<x.length:=by omega
  have hd:x.getD (i+1) 0∈x:=zbx hb;have ht:x.tail.getD i 0=x.getD (i+1) 0:=by
   cases x with
   |nil=>exact absurd rfl hx
   |cons y x=>rfl
  have hs:x.tail.take (i+1)=x.tail.take i++[x.getD (i+1) 0]:=by rw[zaw x.tail 0 (by rw[xif];omega),ht]
  simp only[dlt hb,zbp,xai,xab,tn,zal,hc _ hd _ (ha i),xaa,wsx (i+1),hs,xej,xfd,xgr];generalize(x.tail.take i).foldl (λm c=>if g c m<0 then c else m) (x.headD 0)=m;by_cases h:g (x.getD (i+1) 0) m<0;·rw[xae h,xab,if_pos h]
  ·rw[xah h,xaf,if_neg h]
 ·have e:x.length-1+1=x.length:=by omega
  rw[e];simp only[nlt (xag x.length),xaf];rw[xbg (by rw[xif];omega)]
structure LotsOK(n:Nat)(lots:List Int):Prop where
 n1:1<=n
 n7:n<=7
 len:lots.length=n
 within:∀c∈lots,∃i:Nat,c=(i:Int)/\i<n
 nodup:lots.Nodup
def LotsOK.mem{n:Nat}{lots:List Int}(h:LotsOK n lots){i:Nat}(hi:i<n):(i:Int)∈lots:=by
 refine xgf λhni=>?_;have:=znn (n:=n) ((i:Int)::lots) (xfb.2 ⟨hni,h.nodup⟩) (λx hx=>by
  rcases xar.1 hx with rfl|hx
  ·omega
  ·obtain⟨j,rfl,hj⟩:=h.within x hx;omega)
 rw[xbd,h.len]at this;omega
def d208_eq{n:Nat}{ties:Int}{tied lots:List Int}(h1:1<=ties)(h3:ties<=3)(hl:LotsOK n lots)(ht:tied≠ [])(hts:tied.Pairwise (·< ·))(htb:∀c∈tied,∃i:Nat,c=(i:Int)/\i<n)(htl:tied.length<=1000):d208 ties tied lots=some true:=by
 have hg:=hl.n1;have hf:=hl.n7;have hp:=xcr.2 ht;unfold d208;rw[zal];simp only[hl.len,zdf (ties<1),zdf (3<ties),zdf ((n:Int)<1),zdf (7<(n:Int)),zdf ((tied.length:Int)=0),xap,xab,xaf];refine zaa (λi=>(tied,(n:Int),lst (λv=>decide ((v:Int)∈lots.take i)) 7,lots,(n:Int),(i:Int))) n ?_ (λi hi=>?_) (b:=.inl (tied,(n:Int))) ?_ ?_;·simp only[xcq,xdj,xdc];rfl
 ·have hb:i<lots.length:=by rw[hl.len];exact hi
  obtain⟨c,hc,he⟩:=hl.within _ (zbx hb);have ha:decide ((c:Int)∈lots.take i)=false:=xah λhm=>by have:=hl.nodup.sublist (xhc (i+1) lots);rw[zaw lots 0 hb,hc,xdh]at this;exact this.2.2 _ hm _ (by simp) rfl
  simp only[dlt hi,hl.len,zbp,xai,xab,tn,zal,hc,zdf ((c:Int)<0),zdf ((n:Int)<=(c:Int)),xap,show decide ((c:Int)<7)=true from xae (by omega),zaf (λv=>decide ((v:Int)∈lots.take i)) (show c<7 by omega),ha,xaf,zcl,wsx i];have e:lst (upd (λv=>decide ((v:Int)∈lots.take i)) c true) 7=lst (λv=>decide ((v:Int)∈lots.take (i+1))) 7:=zai λv hv=>by
   rw[zaw lots 0 hb,hc];unfold upd;by_cases hvc:v=c;·subst hvc;simp
   ·rw[if_neg hvc];refine xdd.2 ?_;rw[xbp,xba];exact⟨.inl,λhm=>hm.resolve_right λe=>hvc (xda.1 e)⟩
  rw[e]
 ·simp only[nlt (xag n),xaf]
 ·simp only;refine zaa (λi=>(tied,(n:Int),tied,(tied.length:Int),(i:Int))) tied.length rfl (λi hi=>?_) (b:=.inl ()) ?_ rfl
  ·obtain⟨c,hc,he⟩:=htb _ (zbx hi);simp only[dlt hi,zbp,xai,xab,tn,zal,hc,zdf ((c:Int)<0),zdf ((n:Int)<=(c:Int)),xap,wsx i];cases i with
   |zero=>rfl
   |succ i=>
    have hd:tied.getD i 0<tied.getD (i+1) 0:=by rw[xad,xaj (by omega),xad,xaj hi];exact xex.1 hts i (i+1) (by omega) hi (by omega)
    rw[hc]at hd;simp only[show decide ((0:Int)<((i+1:Nat):Int))=true from xae (by omega),xab,zur (show i<9223372036854775807 by omega),zbp,dlt (show i<tied.length by omega),xai,tn,zdf ((c:Int)<=tied.getD i 0),xaf]
  ·simp only[nlt (xag tied.length),xaf]
def RndOK(n:Nat)(r:List Rat):Prop:=r.length=n/\∀q∈r,Bz eB q
def zck{r:List Rat}{c:Nat}(h:c<r.length):(r.map rr).getD c (false,[],[])=rr (r.getD c 0):=by rw[xad,xci,xaj h,xad,xaj h];rfl
def zba{α:Type}{l:List α}{d:α}{i:Nat}(h:i<l.length):l.getD i d∈l:=by rw[xad,xaj h];exact xbf h
def RndOK.bz{n:Nat}{r:List Rat}(h:RndOK n r){c:Nat}(hc:c<n):Bz eB (zam r (c:Int)):=h.2 _ (zba (by rw[h.1];exact hc))
def d262_eq{n:Nat}{r:List Rat}(h:RndOK n r){c:Nat}(hc:c<n):d262 (r.map rr) (c:Int)=some (rr (zam r (c:Int))):=by
 have ha:c<r.length:=by rw[h.1];exact hc
 unfold d262;rw[xao,dlt ha];simp only[xab,zbp,xai,tn,zck ha];rfl
def w_ord(least:Bool)(a b:Rat):(bif !least then w (0-zrm a b)else zrm a b)=ordQ least a b:=by
 have:=cmpQ_bounds a b;unfold ordQ;cases least;·rw[xap,xab,zbq (by omega) (by omega)];rfl
 ·rfl
def zis(l:List Int):l.getD 0 0=l.headD 0:=by cases l<;>rfl
def zrk(ρ:Int->Rat)(l:List Int):(zkc ρ l).length<=l.length:=xid _ _
def d209_eq{n:Nat}{r:List Rat}(h:RndOK n r){l:List Int}(hl:∀c∈l,∃i:Nat,c=(i:Int)/\i<n)(hll:l.length<=1000)(least:Bool):d209 l (r.map rr) least=some (zjq least (zam r) l):=by
 rw[extr_ext0];unfold d209;refine zaa (λi=>(r.map rr,least,zkc (sgR least (zam r)) (l.take i),l,(l.length:Int),(i:Int))) l.length rfl (λi hi=>?_) (b:=zkc (sgR least (zam r)) l) ?_ rfl
 ·obtain⟨c,hc,hg⟩:=hl _ (zbx hi);have hn:=zrk (sgR least (zam r)) (l.take i);rw[xax]at hn;simp only[dlt hi,zbp,xai,xab,tn,zal,hc,wsx i];rw[zaw l 0 hi,hc];by_cases hi0:l.take i=[]
  ·rw[hi0,zyz];have e:zkc (sgR least (zam r)) ([]++[(c:Int)])=[(c:Int)]:=by have:sgR least (zam r) (c:Int)<=sgR least (zam r) (c:Int):=xhl;simp[zkc,xer,this]
   rw[e];simp only[show decide ((0:Int)<(([]:List Int).length:Int))=false from rfl,xaf,show decide ((-1:Int)<=0)=true from rfl,xab,zch (l:=([]:List Int)) (d:=(c:Int)) (by simp)];rfl
  ·have hh:=zth (ρ:=sgR least (zam r)) hi0;have hm:=xcr.2 hh;obtain⟨y,hy⟩:∃y,(zkc (sgR least (zam r)) (l.take i)).headD 0=y:=⟨_,rfl⟩;have hr:y∈l:=by have:=zgi hh;rw[hy]at this;exact xca (zoe.1 this).1
   obtain⟨d,rfl,hj⟩:=hl _ hr;rw[ztg _ _ hi0,hy];generalize zkc (sgR least (zam r)) (l.take i)=out at *;have ha:=ordQ_lt least (zam r) (c:Int) (d:Int);have hd:=ordQ_eq least (zam r) (c:Int) (d:Int);have hq:(decide (0<=0)&&decide ((0:Int)<(out.length:Int)))=true:=by rw[zdt ((0:Int)<(out.length:Int))];rfl
   have hk:decide ((0:Int)<(out.length:Int))=true:=xae (by omega);have hf:zcr 0 0 out.length=true:=by unfold zcr;simp only[xal,xak];omega
   have hb:=w_ord least (zam r (c:Int)) (zam r (d:Int));rw[hq];simp only[hk,xab,zis,hy,d262_eq h hg,d262_eq h hj,xaa,zmu (h.bz hg).sz2 (h.bz hj).sz2,hf,xcq];have hp:decide ((([]:List Int).length:Int)+(([(c:Int)]:List Int).length:Int)<=LIM)=true:=zch (l:=([]:List Int)) (d:=(c:Int)) (by simp);have he:=zch (l:=out) (d:=(c:Int)) (by omega);have key:∀o:Int,o=ordQ least (zam r (c:Int)) (zam r (d:Int))->(bif decide (o<0)then bif decide (o<=0)then bif decide ((([]:List Int).length:Int)+(([(c:Int)]:List Int).length:Int)<=LIM)then(some (Sum.inl (r.map rr,least,([]:List Int)++[(c:Int)],l,(l.length:Int),((i+1:Nat):Int))):Option ((List Rt×Bool×List Int×List Int×Int×Int)⊕List Int))else none else some (Sum.inl (r.map rr,least,([]:List Int),l,(l.length:Int),((i+1:Nat):Int)))else bif decide (o<=0)then bif decide ((out.length:Int)+(([(c:Int)]:List Int).length:Int)<=LIM)then some (Sum.inl (r.map rr,least,out++[(c:Int)],l,(l.length:Int),((i+1:Nat):Int)))else none else some (Sum.inl (r.map rr,least,out,l,(l.length:Int),((i+1:Nat):Int))))=some (.inl (r.map rr,least,if sgR least (zam r) (c:Int)<sgR least (zam r) (d:Int)then [(c:Int)]else if sgR least (zam r) (c:Int)=sgR least (zam r) (d:Int)then out++[(c:Int)]else out,l,(l.length:Int),((i+1:Nat):Int))):=by
    intro o ho;rw[<-ho]at ha hd;rw[hp,he];by_cases c1:o<0;·rw[xae c1]at ha;rw[if_pos (xbc ha.symm),xae c1,zdt (o<=0)];rfl
    ·rw[xah c1]at ha;rw[if_neg (xev ha.symm),xah c1];by_cases c2:o=0;·rw[xae c2]at hd;rw[if_pos (xbc hd.symm),zdt (o<=0)];rfl
     ·rw[xah c2]at hd;rw[if_neg (xev hd.symm),zdf (o<=0)];rfl
   cases least;·rw[xap,xab]at hb ⊢;exact key _ hb
   ·rw[xat,xaf]at hb ⊢;exact key _ hb
 ·simp only[nlt (xag l.length),xaf,xaz]
def zva:∀{least:Bool} {rs:List (List Rat)} {l:List Int},l.length<=1->zmv least rs l=l
 |_,[],_,_=>rfl
 |least,r::rs,l,h=>by show zmv least rs (if 1<l.length then zjq least (zam r) l else l)=l;rw[if_neg (by omega)];exact zva h
def tieL_snoc(least:Bool)(rs:List (List Rat))(r:List Rat)(l:List Int):zmv least (rs++[r]) l=if 1<(zmv least rs l).length then zjq least (zam r) (zmv least rs l)else zmv least rs l:=by unfold zmv;rw[xej];rfl
def tieL_append(least:Bool)(rs rs':List (List Rat))(l:List Int):zmv least (rs++rs') l=zmv least rs' (zmv least rs l):=by unfold zmv;rw[xej]
def extr_len(least:Bool)(r:Int->Rat)(l:List Int):(zjq least r l).length<=l.length:=xid _ _
def zxm:∀(least:Bool) (rs:List (List Rat)) (l:List Int),(zmv least rs l).length<=l.length
 |_,[],_=>xag _
 |least,r::rs,l=>by
  show(zmv least rs (if 1<l.length then zjq least (zam r) l else l)).length<=_;refine xay (zxm least rs _) ?_;split;·exact extr_len _ _ _
  ·exact xag _
def d150_eq{n:Nat}{ties:Int}{E:List (List Rat)}{tied lots:List Int}{least:Bool}(h1:1<=ties)(h3:ties<=3)(hl:LotsOK n lots)(hE:∀r∈E,RndOK n r)(hEl:E.length<=1000000)(ht:tied≠ [])(hts:tied.Pairwise (·< ·))(htb:∀c∈tied,∃i:Nat,c=(i:Int)/\i<n)(htl:tied.length<=1000) :
  ∃b,d150 ties (E.map (List.map rr)) tied lots least=some (zvc ties E tied lots least,b,E.map (List.map rr)):=by
 have hs:d78 tied=some tied:=by unfold d78;rw[zcg (by omega)];rfl
 unfold d150;rw[d208_eq h1 h3 hl ht hts htb htl];simp only[xaa,xat,xaf,hs];have he:∀left:List Int,left=zmv least (zau ties E) tied->∃b,(bif (decide ((left.length:Int)=1))then bif (decide (0<=0)&&decide (0<(left.length:Int)))then some ((List.getD left 0 0),false,E.map (List.map rr))else none else bif least then (d211 left (λa a_1=>d210 a a_1 lots)).bind λr_3=>some (r_3,true,E.map (List.map rr))else (d212 left (λa_2 a_3=>d210 a_2 a_3 lots)).bind λr_4=>some (r_4,true,E.map (List.map rr)))=some (zvc ties E tied lots least,b,E.map (List.map rr)):=by
  intro left hd;have ho:left≠ []:=by rw[hd];exact tieL_ne ht
  have hj:left.length<=tied.length:=by rw[hd];exact zxm _ _ _
  have hk:∀a∈left,a∈lots:=λa ha=>by rw[hd]at ha;obtain⟨i,rfl,hi⟩:=htb _ (znb ha);exact hl.mem hi
  have hw:=hl.len;have hv:=hl.n7;unfold zvc;simp only[<-hd];by_cases hone:left.length=1;·refine⟨false,?_⟩;rw[if_pos hone,hone,zis];rfl
  ·refine⟨true,?_⟩;rw[if_neg hone,zdf ((left.length:Int)=1),xaf];have hc:∀a∈left,∀b∈left,d210 a b lots=some ((zan lots a:Int)-(zan lots b:Int)):=λa ha b hb=>d210_eq (by omega) (hk a ha) (hk b hb);cases least
   ·rw[xaf,d212_eq ho (by omega) hc,xaa];unfold zpw;simp only[xbb,xcg];congr 3;funext m c;by_cases h:zan lots c<zan lots m;·rw[if_pos h,if_pos (by omega)]
    ·rw[if_neg h,if_neg (by omega)]
   ·rw[xab,d211_eq ho (by omega) hc,xaa];unfold zpw;simp only[if_true];congr 3;funext m c;by_cases h:zan lots m<zan lots c;·rw[if_pos h,if_pos (by omega)]
    ·rw[if_neg h,if_neg (by omega)]
 refine zfs (Q:=λr=>∃b,r=some (zvc ties E tied lots least,b,E.map (List.map rr))) (λ(M:Nat) (st:Int×(List (List Rt))×Bool×(List Int)×(List Int)×Int)=>∃i:Nat,st=(ties,E.map (List.map rr),least,lots,zmv least ((zau ties E).take i) tied,(i:Int))/\i+M=E.length) E.length ⟨0,by rw[xcq];rfl,by omega⟩ ?_;rintro M st ⟨i,rfl,hM⟩;have hf:∀c∈zmv least ((zau ties E).take i) tied,∃j:Nat,c=(j:Int)/\j<n:=λc hc=>htb c (znb hc);have hj:=zxm least ((zau ties E).take i) tied;obtain⟨left,hd⟩:∃left,zmv least ((zau ties E).take i) tied=left:=⟨_,rfl⟩;rw[hd]at hf hj;have hp:(E.map (List.map rr)).length=E.length:=xao ..;simp only[hd,hp,zal];by_cases c3:ties=3
 ·have hr:zau ties E=[]:=by unfold zau;rw[if_pos c3]
  have hq:left=zmv least (zau ties E) tied:=by rw[<-hd,hr,List.take_nil]
  have hn:(!decide (ties=3))=false:=by rw[xae c3];rfl
  refine .inr ⟨(E.map (List.map rr),least,lots,left),?_,he left hq⟩;rw[hn];simp only[xaf];cases decide ((i:Int)<(E.length:Int))<;>cases decide (1<(left.length:Int))<;>rfl
 ·have hn:(!decide (ties=3))=true:=by rw[xah c3];rfl
  have hu:(zau ties E).length=E.length:=by
   unfold zau;rw[if_neg c3];split;·exact List.length_reverse
   ·rfl
  rw[hn];rcases xdf M with h0|h0
  ·have hq:left=zmv least (zau ties E) tied:=by rw[<-hd,xbg (by omega)]
   refine .inr ⟨(E.map (List.map rr),least,lots,left),?_,he left hq⟩;simp only[nlt (show E.length<=i by omega),xaf]
  ·have hh:i<E.length:=by omega
   by_cases hl1:1<left.length
   ·have hg:decide ((1:Int)<(left.length:Int))=true:=xae (by omega);have key:∀(r:List Rat) (z:List Rt),r∈E->(zau ties E).getD i []=r->z=r.map rr->d209 left z least=some (zmv least ((zau ties E).take (i+1)) tied):=by rintro r z hr hri rfl;rw[d209_eq (hE r hr) hf (by omega),zaw (zau ties E) [] (by omega),tieL_snoc,hd,hri,if_pos hl1]
    refine .inl ⟨(ties,E.map (List.map rr),least,lots,zmv least ((zau ties E).take (i+1)) tied,((i+1:Nat):Int)),M-1,?_,by omega,i+1,rfl,by omega⟩;simp only[dlt hh,hg,xab,zbp,xai,tn,wsx i];by_cases c1:ties=1
    ·have i1:w (w ((E.length:Int)-1)-(i:Int))=((E.length-1-i:Nat):Int):=by rw[zbq (n:=(E.length:Int)-1) (by omega) (by omega),zbq (by omega) (by omega)];omega
     have hm:(zau ties E).getD i []=E.getD (E.length-1-i) []:=by unfold zau;rw[if_neg c3,if_pos c1];rw[xad,List.getElem?_reverse hh,xad]
     have hz:(E.map (List.map rr)).getD (E.length-1-i) []=(E.getD (E.length-1-i) []).map rr:=by rw[xad,xci,xaj (by omega),xad,xaj (by omega)];rfl
     simp only[xae c1,xab,i1,zbp,dlt (show E.length-1-i<E.length by omega),xai,tn];rw[key _ _ (zba (by omega)) hm hz];rfl
    ·have hm:(zau ties E).getD i []=E.getD i []:=by unfold zau;rw[if_neg c3,if_neg c1]
     have hz:(E.map (List.map rr)).getD i []=(E.getD i []).map rr:=by rw[xad,xci,xaj hh,xad,xaj hh];rfl
     simp only[xah c1,xaf];rw[key _ _ (zba (by omega)) hm hz];rfl
   ·have hg:decide ((1:Int)<(left.length:Int))=false:=xah (by omega);have hq:left=zmv least (zau ties E) tied:=by have e:=tieL_append least ((zau ties E).take i) ((zau ties E).drop i) tied;rw[xcp,hd,zva (l:=left) (by omega)]at e;exact e.symm
    refine .inr ⟨(E.map (List.map rr),least,lots,left),?_,he left hq⟩;simp only[dlt hh,hg,xab,xaf]
section
set_option maxHeartbeats 1000000 in
def d232_eq{c:CT}{lots:List Int}{tot q:Int}{pc:List (List Int×(Int×(Int×Rt)))}{stl:List Int}{kp:List Rt}{filled:Int}{E:List (List Rat)}{rest:Int×(Int×(Int×(Int×(List RD×List Int))))}
  {n:Nat} {v:Nat->Rat} {kk:List Rt} {qu ex su:Rt} {el ex2 ti cls:List Int} {ties:Int} {least:Bool} (hties:c.2.2.2.2.2.2.1=ties) (h1:1<=ties) (h3:ties<=3) (hl:LotsOK n lots) (hE:∀r∈E,RndOK n r) (hEl:E.length<=1000000)
  (hv:∀i,i<n->Bz eB (v i)) (hcn:cls≠ []) (hcs:cls.Pairwise (·< ·)) (hcb:∀x∈cls,∃i:Nat,x=(i:Int)/\i<n) (hcl:cls.length<=1000) :
  d232 (c,lots,tot,q,pc,stl,kp,filled,E.map (List.map rr),rest) (lst (λi=>rr (v i)) n,kk,qu,ex,su,el,ex2,ti) cls least
   =some (if(zjq least (λx=>v x.toNat) cls).length=1 then(zjq least (λx=>v x.toNat) cls).headD 0 else zvc ties E (zjq least (λx=>v x.toNat) cls) lots least,(c,lots,tot,q,pc,stl,kp,filled,E.map (List.map rr),rest),(lst (λi=>rr (v i)) n,kk,qu,ex,su,el,ex2,if(zjq least (λx=>v x.toNat) cls).length=1 then ti else zjq least (λx=>v x.toNat) cls)):=by
 unfold d232;obtain⟨K,hK⟩:∃K:KT,(c,lots,tot,q,pc,stl,kp,filled,E.map (List.map rr),rest)=K:=⟨_,rfl⟩;obtain⟨R,hR⟩:∃R:RD,(lst (λi=>rr (v i)) n,kk,qu,ex,su,el,ex2,ti)=R:=⟨_,rfl⟩;have hm:R.1=lst (λi=>rr (v i)) n:=by rw[<-hR]
 rw[hK,hR];refine zaa (λi=>(K,R,least,zkc (sgR least (λx=>v x.toNat)) (cls.take i),cls,(cls.length:Int),(i:Int))) cls.length rfl (λi hi=>?_) (b:=(K,R,least,zkc (sgR least (λx=>v x.toNat)) cls)) ?_ ?_
 ·obtain⟨c,hc,hcn⟩:=hcb _ (zbx hi);have hp:=zrk (sgR least (λx=>v x.toNat)) (cls.take i);rw[xax]at hp;simp only[dlt hi,zbp,xai,xab,tn,zal,hc,wsx i];rw[zaw cls 0 hi,hc];by_cases hi0:cls.take i=[]
  ·rw[hi0,zyz];have e:zkc (sgR least (λx=>v x.toNat)) ([]++[(c:Int)])=[(c:Int)]:=by have:sgR least (λx=>v x.toNat) (c:Int)<=sgR least (λx=>v x.toNat) (c:Int):=xhl;simp[zkc,xer,this]
   rw[e];rfl
  ·have hh:=zth (ρ:=sgR least (λx=>v x.toNat)) hi0;have hn:=xcr.2 hh;obtain⟨y,hy⟩:∃y,(zkc (sgR least (λx=>v x.toNat)) (cls.take i)).headD 0=y:=⟨_,rfl⟩;have hs:y∈cls:=by have:=zgi hh;rw[hy]at this;exact xca (zoe.1 this).1
   obtain⟨d,rfl,hg⟩:=hcb _ hs;rw[ztg _ _ hi0,hy];generalize zkc (sgR least (λx=>v x.toNat)) (cls.take i)=out at *;have ha:ordQ least (v c) (v d)<0↔sgR least (λx=>v x.toNat) (c:Int)<sgR least (λx=>v x.toNat) (d:Int):=xdd.1 (ordQ_lt least (λx=>v x.toNat) (c:Int) (d:Int));have hd:ordQ least (v c) (v d)=0↔sgR least (λx=>v x.toNat) (c:Int)=sgR least (λx=>v x.toNat) (d:Int):=xdd.1 (ordQ_eq least (λx=>v x.toNat) (c:Int) (d:Int));have hq:(decide (0<=0)&&decide ((0:Int)<(out.length:Int)))=true:=by rw[zdt ((0:Int)<(out.length:Int))];rfl
   have hj:decide ((0:Int)<(out.length:Int))=true:=xae (by omega);have hb:=w_ord least (v c) (v d);rw[hq];have hf:=zch (l:=out) (d:=(c:Int)) (by omega);simp only[hj,xab,zis,hy,zbp,tn,hm,zad,dlt hcn,dlt hg,xai,zaf (λi=>rr (v i)) hcn,zaf (λi=>rr (v i)) hg,zmu (hv c hcn).sz2 (hv d hg).sz2,xaa,hf];have key:∀o:Int,o=ordQ least (v c) (v d)->(bif decide (o<0)then
     (some (Sum.inl (K,R,least,[(c:Int)],cls,(cls.length:Int),((i+1:Nat):Int))):Option ((KT×RD×Bool×List Int×List Int×Int×Int)⊕(KT×RD×Bool×List Int)))else bif decide (o=0)then some (Sum.inl (K,R,least,out++[(c:Int)],cls,(cls.length:Int),((i+1:Nat):Int)))else some (Sum.inl (K,R,least,out,cls,(cls.length:Int),((i+1:Nat):Int))))=some (.inl (K,R,least,if sgR least (λx=>v x.toNat) (c:Int)<sgR least (λx=>v x.toNat) (d:Int)then [(c:Int)]else if sgR least (λx=>v x.toNat) (c:Int)=sgR least (λx=>v x.toNat) (d:Int)then out++[(c:Int)]else out,cls,(cls.length:Int),((i+1:Nat):Int))):=by
    intro o ho;rw[<-ho]at ha hd;by_cases c1:o<0;·rw[if_pos (ha.1 c1),xae c1];rfl
    ·rw[if_neg λh=>c1 (ha.2 h),xah c1];by_cases c2:o=0;·rw[if_pos (hd.1 c2),xae c2];rfl
     ·rw[if_neg λh=>c2 (hd.2 h),xah c2];rfl
   cases least;·rw[xap,xab]at hb ⊢;exact key _ hb
   ·rw[xat,xaf]at hb ⊢;exact key _ hb
 ·simp only[nlt (xag cls.length),xaf,xaz]
 ·rw[<-extr_ext0];have he:zjq least (λx=>v x.toNat) cls≠ []:=extr_ne hcn;have ht:=extr_len least (λx=>v x.toNat) cls;have hr:(zjq least (λx=>v x.toNat) cls).Pairwise (·< ·):=hcs.sublist List.filter_sublist;have hk:∀x∈zjq least (λx=>v x.toNat) cls,∃i:Nat,x=(i:Int)/\i<n:=λx hx=>hcb x (zoc hx);generalize zjq least (λx=>v x.toNat) cls=tied at *;by_cases hone:tied.length=1;·simp only[if_pos hone];rw[hone,zis,<-hR];rfl
  ·simp only[if_neg hone];rw[zdf ((tied.length:Int)=1),xaf];obtain⟨b,hb⟩:=d150_eq (least:=least) h1 h3 hl hE hEl he hr hk (by omega);simp only[<-hK,<-hR,hties,hb,xaa]
def zjo{a b c d:Nat}(hb:0<b)(hd:0<d):zaj a b*zaj c d=zaj (a*c) (b*d):=by
 unfold zaj;have h1:(b:Rat)≠0:=by
  have:(0:Rat)<(b:Rat):=by exact_mod_cast hb
  intro e;rw[e]at this;exact absurd this (by decide)
 have h2:(d:Rat)≠0:=by
  have:(0:Rat)<(d:Rat):=by exact_mod_cast hd
  intro e;rw[e]at this;exact absurd this (by decide)
 rw[xjr,xjr];grind
def zsy{a b c:Nat}(hb:0<b)(hc:0<c):zaj (a*c) (b*c)=zaj a b:=by
 rw[<-zjo hb hc];have:zaj c c=1:=by have:=zhh (q:=1) hc;rw[xji]at this;exact this
 rw[this,Rat.mul_one]
def nxt_congr{p:List Int}{st st':Nat->Nat}(h:∀i,st i=0↔st' i=0)(k:Nat):nxt p st k=nxt p st' k:=by unfold nxt;congr 3;funext c;exact xdd.2 (not_congr (h _))
def upd_upd{α:Type}(f:Nat->α)(i:Nat)(x y:α):upd (upd f i x) i y=upd f i y:=by funext j;unfold upd;split<;>rfl
variable {P:GP} {s:GS}
set_option maxHeartbeats 1000000 in
def d234_eq(hP:P.OK)(hI:GI P s)(hG:P.G<=1000000){c:CT}{lots:List Int}{tot q:Int}{kp:List Rt}{filled:Int}{rest:List (List Rt)×(Int×(Int×(Int×(Int×(List RD×List Int)))))}
  {st st':Nat->Nat} {keep:Nat->Rat} {x a b:Nat} (hst:∀i,st i=0↔st' i=0) (hb:0<b) (hab:Bz eB (zaj a b)) :
  d234 (c,lots,tot,q,lst (zkb P s) P.G,lst (λi=>(st i:Int)) P.n,kp,filled,rest) (x:Int) (rr (zaj a b))
   =some (c,lots,tot,q,lst (zkb P (s.move P st' keep x a b)) P.G,lst (λi=>(st i:Int)) P.n,kp,filled,rest):=by
 unfold d234;simp only[zad];refine zaa (λg=>((c,lots,tot,q,lst (λj=>if j<g then zkb P (s.move P st' keep x a b) j else zkb P s j) P.G,lst (λi=>(st i:Int)) P.n,kp,filled,rest),(x:Int),rr (zaj a b),(P.G:Int),(g:Int))) P.G ?_ (λg hg=>?_) (b:=(c,lots,tot,q,lst (zkb P (s.move P st' keep x a b)) P.G,lst (λi=>(st i:Int)) P.n,kp,filled,rest)) ?_ rfl;·rfl
 ·have hf:(λj=>if j<g then zkb P (s.move P st' keep x a b) j else zkb P s j) g=zkb P s g:=by simp
  have hc:upd (λj=>if j<g then zkb P (s.move P st' keep x a b) j else zkb P s j) g (zkb P (s.move P st' keep x a b) g)=λj=>if j<g+1 then zkb P (s.move P st' keep x a b) j else zkb P s j:=by
   funext j;unfold upd;by_cases h:j=g;·subst h;rw[if_pos rfl,if_pos (by omega)]
   ·rw[if_neg h];show(if j<g then zkb P (s.move P st' keep x a b) j else zkb P s j)=_;by_cases h2:j<g;·rw[if_pos h2,if_pos (by omega)]
    ·rw[if_neg h2,if_neg (by omega)]
  have hj:=hP.plen g hg;generalize(λj=>if j<g then zkb P (s.move P st' keep x a b) j else zkb P s j)=F at hf hc ⊢;have hw:w ((g:Int)+1)=((g+1:Nat):Int):=by rw[zbq (by omega) (by omega)];omega
  have stay:s.on P g x=false->lst F P.G=lst (λj=>if j<g+1 then zkb P (s.move P st' keep x a b) j else zkb P s j) P.G:=λh=>by
   rw[<-hc];refine zai λi hi=>?_;unfold upd;by_cases hig:i=g
   ·subst hig;rw[if_pos rfl,hf];unfold zkb;have e1:(s.move P st' keep x a b).at_ i=s.at_ i:=by show(if s.on P i x then _ else s.at_ i)=_;rw[h];rfl
    have e2:(s.move P st' keep x a b).num i=s.num i*b:=by show(if s.on P i x then _ else s.num i*b)=_;rw[h];rfl
    have e3:(s.move P st' keep x a b).D=s.D*b:=rfl;rw[e1,e2,e3,zsy hI.D0 hb]
   ·rw[if_neg hig]
  simp only[dlt hg,zbp,zad,xai,xab,tn,zal,zaf F hg,hf,zkb,xam,hw];by_cases ha:s.at_ g<(P.p g).length
  ·obtain⟨d,d1,d2⟩:=GS.on_ex hP hg ha;have d3:=GS.on_at d2;rw[show decide (((P.p g).length:Int)<=(s.at_ g:Int))=false from xah (by omega)];simp only[xap,xab,dlt ha,zbp,xai,d3,zfc,tn];by_cases hdx:d=x
   ·subst hdx;simp only[xbh,xat,xaf];rw[zze (znm hP hI hg).sz2 hab.sz2,xaa,zjo hI.D0 hb];simp only[zcl,zaf (upd F g _) hg,zce,upd_upd,wsx (s.at_ g)];have ho:=nxt_ge (P.p g) st (s.at_ g+1);have hl:=nxt_le st (show s.at_ g+1<=(P.p g).length by omega);refine zaa (λm=>((c,lots,tot,q,lst (upd F g (P.p g,(P.k g:Int),((s.at_ g+1+m:Nat):Int),rr (zaj (s.num g*a) (s.D*b)))) P.G,lst (λi=>(st i:Int)) P.n,kp,filled,rest),(d:Int),rr (zaj a b),(g:Int),(P.G:Int),(g:Int))) (nxt (P.p g) st (s.at_ g+1)-(s.at_ g+1)) ?_ (λm hm=>?_) (b:=((c,lots,tot,q,lst (upd F g (P.p g,(P.k g:Int),((nxt (P.p g) st (s.at_ g+1):Nat):Int),rr (zaj (s.num g*a) (s.D*b)))) P.G,lst (λi=>(st i:Int)) P.n,kp,filled,rest),(d:Int),rr (zaj a b),(P.G:Int),(g:Int))) ?_ ?_;·rfl
    ·have he:s.at_ g+1+m<(P.p g).length:=by omega
     obtain⟨e,e1,e2⟩:=hP.prefs g hg _ (zbx he);have hn:=nxt_before (p:=P.p g) (st:=st) (k:=s.at_ g+1) (i:=s.at_ g+1+m) (by omega) (by omega);rw[e1,xam]at hn;have hh:decide ((st e:Int)=0)=false:=xah (by omega);simp only[zaf (upd F g _) hg,zce,dlt he,zbp,xai,xab,tn,e1,zad,dlt e2,zaf (λi=>(st i:Int)) e2,hh,xap,zcl,upd_upd,wsx (s.at_ g+1+m)];rfl
    ·obtain⟨N,hN⟩:∃N,nxt (P.p g) st (s.at_ g+1)=N:=⟨_,rfl⟩;rw[hN]at ho hl ⊢;rw[show s.at_ g+1+(N-(s.at_ g+1))=N by omega];by_cases he:N<(P.p g).length;·obtain⟨e,e1,e2⟩:=hP.prefs g hg _ (zbx he);have hk:=nxt_at (p:=P.p g) (st:=st) (k:=s.at_ g+1) (by rw[hN];exact he);rw[hN,e1,xam]at hk;have hh:decide ((st e:Int)=0)=true:=xae (by omega);simp only[zaf (upd F g _) hg,zce,dlt he,zbp,xai,xab,xaf,tn,e1,zad,dlt e2,zaf (λi=>(st i:Int)) e2,hh,xat]
     ·simp only[zaf (upd F g _) hg,zce,tn,nlt (show(P.p g).length<=N by omega),xaf]
    ·have e:(P.p g,(P.k g:Int),((nxt (P.p g) st (s.at_ g+1):Nat):Int),rr (zaj (s.num g*a) (s.D*b)))=zkb P (s.move P st' keep d a b) g:=by
      unfold zkb;have e1:(s.move P st' keep d a b).at_ g=nxt (P.p g) st (s.at_ g+1):=by show(if s.on P g d then _ else s.at_ g)=_;rw[d2,nxt_congr hst];rfl
      have e2:(s.move P st' keep d a b).num g=s.num g*a:=by show(if s.on P g d then s.num g*a else _)=_;rw[d2];rfl
      have e3:(s.move P st' keep d a b).D=s.D*b:=rfl;rw[e1,e2,e3]
     rw[e,hc];simp only[hw];rfl
   ·have hd:s.on P g x=false:=by
     cases h:s.on P g x;·rfl
     ·exact absurd (GS.on_uniq d2 h) hdx
    simp only[xah hdx,xap,xab];rw[stay hd];rfl
  ·have hd:s.on P g x=false:=by
    cases h:s.on P g x;·rfl
    ·exact absurd (GS.on_lt h) ha
   rw[show decide (((P.p g).length:Int)<=(s.at_ g:Int))=true from xae (by omega)];simp only[xat,xaf,xab];rw[stay hd];rfl
 ·have e:lst (λj=>if j<P.G then zkb P (s.move P st' keep x a b) j else zkb P s j) P.G=lst (zkb P (s.move P st' keep x a b)) P.G:=zai λi hi=>if_pos hi;simp only[nlt (xag P.G),xaf,e]
end
end Go.Proofs.YtamgmpngdmnadaaGreat
