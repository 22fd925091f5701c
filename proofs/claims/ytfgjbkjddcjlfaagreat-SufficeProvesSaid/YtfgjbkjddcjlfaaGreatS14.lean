/- Part 14 of what stands below the statement. -/
import Derived.Test.YtfgjbkjddcjlfaaGreatS13
set_option linter.defProp false
open Go Go.Proofs Go.X
namespace Go.Proofs.YtfgjbkjddcjlfaaGreat
open Tryz
set_option linter.unusedVariables false
set_option maxRecDepth 100000
noncomputable section
abbrev uc5:=(List (Bool×(List Int×List Int))×(List (Bool×(List Int×List Int))×((Bool×(List Int×List Int))×((Bool×(List Int×List Int))×((Bool×(List Int×List Int))×(List Int×(List Int×List Int)))))))
abbrev uc3:=(Int×(Int×(Int×(Int×(List uc5×List Int)))))
abbrev uc2:=(uc3×Int)
abbrev uc4:=(uc5×Int)
abbrev uc8:=(List (Bool×(List Int×List Int)))
abbrev uc9:=(List (List Int×Int))
abbrev uc10:=(List Int)
abbrev uc7:=(List Int×(List uc10×(Int×(Int×(Int×(Int×(Int×(Int×Int))))))))
abbrev uc1:=(uc7×(List (List Int×Int)×(List Int×(Int×(List Int×(List Int×(Int×(List uc8×(Int×(Int×uc3))))))))))
abbrev uc0:=(uc1×uc5)
abbrev uc6:=(uc7×(List (List Int×Int)×(List Int×(List Bool×List uc8))))
def d83(k:uc1)(r:uc5)(candidates:List Int):Option uc0:=
 (zad (β:=uc0) (fun((a,b,e,g,c):uc1×uc5×uc10×Int×Int)=>
 bif (decide (c<g))then
 bif (decide (0≤c)&&decide (c<(e.length:Int)))then
 bif (decide (0≤(e.getD c.toNat 0))&&decide ((e.getD c.toNat 0)<(a.2.2.2.2.1.length:Int)))then
 bif (decide ((b.2.2.2.2.2.1.length:Int)+(([(e.getD c.toNat 0)]:List Int).length:Int)≤LIM))then
 some (Sum.inl ((a.1,a.2.1,a.2.2.1,a.2.2.2.1,(List.set a.2.2.2.2.1 (Int.toNat (e.getD c.toNat 0)) 1),a.2.2.2.2.2.1,(w (a.2.2.2.2.2.2.1+1)),a.2.2.2.2.2.2.2),(b.1,b.2.1,b.2.2.1,b.2.2.2.1,b.2.2.2.2.1,(b.2.2.2.2.2.1++[(e.getD c.toNat 0)]),b.2.2.2.2.2.2),e,g,(w (c+1))))
 else none
 else none
 else none
 else
 some (Sum.inr (a,b))) (k,r,candidates,(candidates.length:Int),0)).bind fun((h,f):uc1×uc5)=>
 (d125 f.2.2.2.2.2.1).bind fun i=>
 some (h,(f.1,f.2.1,f.2.2.1,f.2.2.2.1,f.2.2.2.2.1,i,f.2.2.2.2.2.2))
def E83:=uqy 83 ⟨[(y71,(.io umab)),(y135,(.io umac)),(y23,.bw)],[]⟩ d83 func83 call83 [.fn E125] (.seq (uqs (.block (.loop [ujal,ujap,ujcf,(9,uqa),ujbb] [(.brk 0,[ujal,ujap])] upah))) uqr)
def d129(digits:Int):Option Int:=
 letJ (fun((b,c):Int×Bool)=>
 bif c then
 some 0
 else
 (d43 (w (Int.tdiv b 2))).bind fun r=>
 some r) fun a=>
 bif !(decide (digits<1))then
 a (digits,(decide (6<digits)))
 else
 a (digits,true)
def E129:=uqy 129 ⟨[(y2,.sh)],[(y2,.sh)]⟩ d129 func129 call129 [.fn E43] (uqs (.seq (.join uqr [(0,uqa),(8,uqc)] upaa) upac))
def d86(k:uc1)(surplus:Int)(rounds:Int):Option Bool:=
 letJ (fun((a,c,e):uc1×Int×Bool)=>
 bif e then
 some true
 else
 bif (decide (0≤(w ((a.2.2.2.2.2.2.2.2.2.2.2.2.2.2.1.length:Int)-1))))then
 bif (decide (0≤(w ((a.2.2.2.2.2.2.2.2.2.2.2.2.2.2.1.length:Int)-1)))&&decide ((w ((a.2.2.2.2.2.2.2.2.2.2.2.2.2.2.1.length:Int)-1))<(a.2.2.2.2.2.2.2.2.2.2.2.2.2.2.1.length:Int)))then
 bif (decide ((((((((((a.2.2.2.2.2.2.2.2.2.2.2.2.2.2.1.getD (Int.toNat (w ((a.2.2.2.2.2.2.2.2.2.2.2.2.2.2.1.length:Int)-1))) ([],[],(false,[],[]),(false,[],[]),(false,[],[]),[],[],[])).2).2).2).2).2).2).1).length:Int)=0))then
 some (decide (a.2.2.2.2.2.2.2.2.2.1≤c))
 else
 some false
 else none
 else
 some false) fun b=>
 (d129 k.1.2.2.2.2.2.1).bind fun r=>
 bif !(decide (surplus<r))then
 b (k,surplus,(decide (60≤(w (rounds-k.2.2.2.2.2.2.2.2.1)))))
 else
 b (k,surplus,true)
def E86:=uqy 86 ⟨[(y71,.bw),(y2,.sh),(y2,.sh)],[(y4,.sh)]⟩ d86 func86 call86 [.fn E129] (uqs (.seq (.join uqr [(0,.v y71 .bw),(1,uqa),(24,uqc)] upaa) upai))
def d130(c:Int)(p1:List Int)(p2:Int)(p3:Int):Option Bool:=
 bif (decide (0≤c)&&decide (c<(p1.length:Int)))then
 some (decide ((w (p2+p3))<(p1.getD c.toNat 0)))
 else none
def E130:=uqy 130 ⟨[(y2,.bw),((.ptr y23),.bw),(y224,.bw),(y224,.bw)],[(y4,.sh)]⟩ d130 func130 call130 [] upai
def d87(p0:uc1)(p1:uc5)(p2:List Int)(p3:Int):Option uc0:=
 (d85 p0 0).bind fun r=>
 bif (decide (0≤0)&&decide (0<(r.length:Int)))then
 bif (decide (0≤(r.getD 0 0))&&decide ((r.getD 0 0)<(p2.length:Int)))then
 (zad (β:=(uc1×uc5×uc10×Int×uc10×Int)) (fun((m,n,j,o,g,l,p,e):uc1×uc5×uc10×Int×uc10×Int×Int×Int)=>
 bif (decide (e<p))then
 bif (decide (0≤e)&&decide (e<(g.length:Int)))then
 bif (decide (0≤(g.getD e.toNat 0))&&decide ((g.getD e.toNat 0)<(j.length:Int)))then
 some (Sum.inl (m,n,j,o,g,(bif (decide ((j.getD (Int.toNat (g.getD e.toNat 0)) 0)<l))then(j.getD (Int.toNat (g.getD e.toNat 0)) 0)else l),p,(w (e+1))))
 else none
 else none
 else
 some (Sum.inr (m,n,j,o,g,l))) (p0,p1,p2,p3,r,(p2.getD (Int.toNat (r.getD 0 0)) 0),(r.length:Int),0)).bind fun((b,f,t,u,v,x):uc1×uc5×uc10×Int×uc10×Int)=>
 (d100 v (fun a=>d130 a t x u)).bind fun k=>
 bif (decide (0≤0)&&decide (0<(k.length:Int)))then
 letJ (fun((c,h,i):uc1×uc5×Int)=>
 bif (decide (0≤i)&&decide (i<(c.2.2.2.2.1.length:Int)))then
 bif (decide (0≤i)&&decide (i<(c.2.2.2.2.2.1.length:Int)))then
 some ((c.1,c.2.1,c.2.2.1,c.2.2.2.1,(List.set c.2.2.2.2.1 i.toNat 2),(List.set c.2.2.2.2.2.1 i.toNat 0),c.2.2.2.2.2.2),(h.1,h.2.1,h.2.2.1,h.2.2.2.1,h.2.2.2.2.1,h.2.2.2.2.2.1,[i],h.2.2.2.2.2.2.2))
 else none
 else none) fun q=>
 bif (decide (1<(k.length:Int)))then
 (d110 b.1.2.2.2.2.2.2.1 b.2.2.2.2.2.2.2.1 k b.2.2.1 true).bind fun s=>
 q ((b.1,b.2.1,b.2.2.1,b.2.2.2.1,b.2.2.2.2.1,b.2.2.2.2.2.1,b.2.2.2.2.2.2.1,s.2.2,b.2.2.2.2.2.2.2.2),(f.1,f.2.1,f.2.2.1,f.2.2.2.1,f.2.2.2.2.1,f.2.2.2.2.2.1,f.2.2.2.2.2.2.1,k),s.1)
 else
 q (b,f,(k.getD 0 0))
 else none
 else none
 else none
def E87:=uqy 87 ⟨[(y71,(.io umab)),(y135,(.io umac)),(y23,.bw),(y2,.sh)],[]⟩ d87 func87 call87 [.fn E85,.fn E100,.fn E130,.fn E110] (uqs (uqs (uqs (.seq (uqs (.block (.loop [ujal,ujap,(6,.v (.ptr y23) umai),(7,.v y224 umaf),(8,.v y23 umad),(9,.v y224 umaf),(22,.view 8 []),(23,uqa),(24,uqa)] [(.brk 0,[ujal,ujap,(6,.v (.ptr y23) umai),(7,.v y224 umaf),(8,.v y23 umad),(9,.v y224 umaf)])] upad))) (uqs (uqs (.join (uqs (.cond (.seq (.reg [(12,[])] []) upbb) .nil)) [ujal,ujap,ujbh] (uqs (.seq (.reg [(1,[0,1,1,1,1,1,1,0])] []) uqr)))))))))
def d88(k:uc1)(votes:List Int)(quota:Int):Option uc1:=
 (d85 k 1).bind fun r=>
 (zad (β:=uc1) (fun((b,e,f,c,g,a):uc1×uc10×Int×uc10×Int×Int)=>
 bif (decide (a<g))then
 letJ (fun((j,l,m,n,o,p):uc1×uc10×Int×uc10×Int×Int)=>
 some (Sum.inl (j,l,m,n,o,(w (p+1))))) fun h=>
 bif (decide (0≤a)&&decide (a<(c.length:Int)))then
 bif (decide (0≤(c.getD a.toNat 0))&&decide ((c.getD a.toNat 0)<(e.length:Int)))then
 bif (decide (0<(e.getD (Int.toNat (c.getD a.toNat 0)) 0)))then
 bif (decide (0≤(c.getD a.toNat 0))&&decide ((c.getD a.toNat 0)<(b.2.2.2.2.2.1.length:Int)))then
 (d124 (w ((b.2.2.2.2.2.1.getD (Int.toNat (c.getD a.toNat 0)) 0)*f)) b.2.2.2.1).bind fun q=>
 bif (decide (0≤(c.getD a.toNat 0))&&decide ((c.getD a.toNat 0)<(e.length:Int)))then
 (d124 (w (q*b.2.2.2.1)) (e.getD (Int.toNat (c.getD a.toNat 0)) 0)).bind fun i=>
 bif (decide (0≤(c.getD a.toNat 0))&&decide ((c.getD a.toNat 0)<(b.2.2.2.2.2.1.length:Int)))then
 h ((b.1,b.2.1,b.2.2.1,b.2.2.2.1,b.2.2.2.2.1,(List.set b.2.2.2.2.2.1 (Int.toNat (c.getD a.toNat 0)) (bif (decide (i<b.2.2.2.1))then i else b.2.2.2.1)),b.2.2.2.2.2.2),e,f,c,g,a)
 else none
 else none
 else none
 else
 h (b,e,f,c,g,a)
 else none
 else none
 else
 some (Sum.inr b)) (k,votes,quota,r,(r.length:Int),0)).bind fun(s:uc1)=>
 some s
def E88:=uqy 88 ⟨[(y71,(.io umab)),(y23,.bw),(y2,.sh)],[]⟩ d88 func88 call88 [.fn E85,.fn E124] (uqs (.block (.loop [ujal,ujaa,(2,uqa),ujay,ujbb,ujau] [(.brk 0,[ujal])] (uqs (.seq upab (.join upaz [ujal,ujaa,(2,uqa),ujay,ujbb,ujau] uqr))))))
def d45(p0:uc1):Option (Bool×uc1):=
 (d80 p0.1.2.2.2.2.2.1 p0.2.2.2.2.2.1 p0.2.1).bind fun r=>
 (zad (β:=(uc1×uc10×Int×Int)) (fun((x,y,z,aa,q,ab,k):uc1×uc10×Int×Int×uc10×Int×Int)=>
 bif (decide (k<ab))then
 bif (decide (0≤k)&&decide (k<(q.length:Int)))then
 some (Sum.inl (x,y,z,(w (aa+(q.getD k.toNat 0))),q,ab,(w (k+1))))
 else none
 else
 some (Sum.inr (x,y,z,aa))) (p0,r.1,r.2.1,0,r.1,(r.1.length:Int),0)).bind fun((e,s,ay,t):uc1×uc10×Int×Int)=>
 bif (!decide ((w (e.1.2.2.2.1+1))=0))then
 (d81 e s).bind fun az=>
 (d81 e e.2.2.2.2.2.1).bind fun ba=>
 (d82 (w ((w (Int.tdiv t (w (e.1.2.2.2.1+1))))+1)) e.2.2.2.1).bind fun bb=>
 (d82 ay e.2.2.2.1).bind fun bc=>
 (d84 e s (w ((w (Int.tdiv t (w (e.1.2.2.2.1+1))))+1))).bind fun be=>
 (d83 e (az,ba,bb,bc,(false,[],[]),[],[],[]) be).bind fun u=>
 (d85 u.1 1).bind fun ac=>
 (zad (β:=(uc1×uc10×Int×uc5×Int)) (fun((ae,l,m,af,ag,h,ah,g):uc1×uc10×Int×uc5×Int×uc10×Int×Int)=>
 bif (decide (g<ah))then
 bif (decide (0≤g)&&decide (g<(h.length:Int)))then
 bif (decide (0≤(h.getD g.toNat 0))&&decide ((h.getD g.toNat 0)<(l.length:Int)))then
 some (Sum.inl (ae,l,m,af,(w (ag+(bif (decide (0<(w ((l.getD (Int.toNat (h.getD g.toNat 0)) 0)-m))))then(w ((l.getD (Int.toNat (h.getD g.toNat 0)) 0)-m))else 0))),h,ah,(w (g+1))))
 else none
 else none
 else
 some (Sum.inr (ae,l,m,af,ag))) (u.1,s,(w ((w (Int.tdiv t (w (e.1.2.2.2.1+1))))+1)),u.2,0,ac,(ac.length:Int),0)).bind fun((a,ai,aj,b,i):uc1×uc10×Int×uc5×Int)=>
 (d82 i a.2.2.2.1).bind fun n=>
 letJ (fun((f,o,ak,bf,al):uc1×uc5×Int×Int×Bool)=>
 letJ (fun((c,j,bg,bh):uc1×uc5×Int×Bool)=>
 bif (decide ((c.2.2.2.2.2.2.2.1.length:Int)+(([j.1]:List uc8).length:Int)≤LIM))then
 bif (decide ((c.2.2.2.2.2.2.2.2.2.2.2.2.2.2.1.length:Int)+(([j]:List uc5).length:Int)≤LIM))then
 bif (decide ((c.2.2.2.2.2.2.2.2.2.2.2.2.2.2.2.length:Int)+(j.2.2.2.2.2.1.length:Int)≤LIM))then
 some (!bh,(c.1,c.2.1,c.2.2.1,c.2.2.2.1,c.2.2.2.2.1,c.2.2.2.2.2.1,c.2.2.2.2.2.2.1,(c.2.2.2.2.2.2.2.1++[j.1]),c.2.2.2.2.2.2.2.2.1,bg,c.2.2.2.2.2.2.2.2.2.2.1,c.2.2.2.2.2.2.2.2.2.2.2.1,c.2.2.2.2.2.2.2.2.2.2.2.2.1,c.2.2.2.2.2.2.2.2.2.2.2.2.2.1,(c.2.2.2.2.2.2.2.2.2.2.2.2.2.2.1++[j]),(c.2.2.2.2.2.2.2.2.2.2.2.2.2.2.2++j.2.2.2.2.2.1)))
 else none
 else none
 else none) fun am=>
 bif (decide (0<(w ((o.2.2.2.2.2.1.length:Int)+(o.2.2.2.2.2.2.1.length:Int)))))then
 am ((f.1,f.2.1,f.2.2.1,f.2.2.2.1,f.2.2.2.2.1,f.2.2.2.2.2.1,f.2.2.2.2.2.2.1,f.2.2.2.2.2.2.2.1,bf,f.2.2.2.2.2.2.2.2.2),o,ak,al)
 else
 am (f,o,ak,al)) fun p=>
 bif (decide (a.2.2.2.2.2.2.1=a.1.2.2.2.1))then
 p (a,(b.1,b.2.1,b.2.2.1,b.2.2.2.1,n,b.2.2.2.2.2),i,(w ((a.2.2.2.2.2.2.2.2.2.2.2.2.2.2.1.length:Int)+1)),(decide (a.2.2.2.2.2.2.1=a.1.2.2.2.1)))
 else
 (d85 a 0).bind fun bi=>
 bif (decide ((w (a.2.2.2.2.2.2.1+(bi.length:Int)))≤a.1.2.2.2.1))then
 (d85 a 0).bind fun bj=>
 (d83 a (b.1,b.2.1,b.2.2.1,b.2.2.2.1,n,b.2.2.2.2.2) bj).bind fun an=>
 p (an.1,an.2,i,(w ((a.2.2.2.2.2.2.2.2.2.2.2.2.2.2.1.length:Int)+1)),true)
 else
 letJ (fun((ao,ap,bk,aq,v,ar,au,bl):uc1×uc10×Int×uc5×Int×Int×Bool×Bool)=>
 bif bl then
 (d87 ao aq ap v).bind fun av=>
 p (av.1,av.2,v,ar,au)
 else
 (d88 ao ap bk).bind fun bm=>
 p (bm,aq,v,ar,au)) fun ax=>
 bif (decide ((b.2.2.2.2.2.1.length:Int)=0))then
 (d86 a i (w ((a.2.2.2.2.2.2.2.2.2.2.2.2.2.2.1.length:Int)+1))).bind fun bn=>
 ax (a,ai,aj,(b.1,b.2.1,b.2.2.1,b.2.2.2.1,n,b.2.2.2.2.2),i,(w ((a.2.2.2.2.2.2.2.2.2.2.2.2.2.2.1.length:Int)+1)),(decide (a.2.2.2.2.2.2.1=a.1.2.2.2.1)),bn)
 else
 ax (a,ai,aj,(b.1,b.2.1,b.2.2.1,b.2.2.2.1,n,b.2.2.2.2.2),i,(w ((a.2.2.2.2.2.2.2.2.2.2.2.2.2.2.1.length:Int)+1)),(decide (a.2.2.2.2.2.2.1=a.1.2.2.2.1)),false)
 else none
def E45:=uqy 45 ⟨[(y71,(.io umab))],[(y4,.sh)]⟩ d45 func45 call45 [.fn E80,.fn E81,.fn E82,.fn E84,.fn E83,.fn E85,.fn E86,.fn E87,.fn E88] (uqs (.seq (.reg [] (uqk 14 [{fl:=1}])) (uqs (.seq (uqs (.block (.loop [ujal,ujch,(4,uqa),(6,uqa),(34,.v y23 .sh),(35,uqa),(36,uqa)] [(.brk 0,[ujal,ujch,(4,uqa),(6,uqa)])] upad))) (uqs (.seq (.reg [] (uqk 21 [{frz:=[(55,[]),(61,[])],fl:=7}])) (.seq (.reg [(10,[0,1,1,1,1,1,1,0]),(10,[0,1,1,1,1,1,1,1])] []) (uqs (.seq (uqs (.block (.loop [ujal,ujch,(9,uqa),ujbt,ujau,(82,.v y23 umad),(83,uqa),(84,uqa)] [(.brk 2,[ujal,ujch,(9,uqa),ujbt,ujau])] upad))) (uqs (uqs (uqs (.join (.block (uqs (.cond .nil (uqs (.cond upay (.join uqr [ujal,ujch,(9,uqa),ujbt,ujau,(14,uqa),(15,uqc),(147,uqc)] (.cond uqr uqr))))))) [ujal,ujbt,ujau,(14,uqa),(15,uqc)] (.join upae [ujal,ujbt,ujau,(15,uqc)] (uqs (uqs (.seq (.reg [(10,[0,1,1,1,1,1,0])] []) upai)))))))))))))))))
def d16(c:uc7)(gs:List (List Int×Int))(lots:List Int):Option uc2:=
 (d42 2 c gs lots).bind fun r=>
 bif !(decide (r=0))then
 some ((0,0,0,0,[],[]),r)
 else
 (d43 c.2.2.2.2.2.1).bind fun b=>
 bif (decide ((c.2.1.length:Int)=(c.2.1.length:Int))&&(decide (0≤(c.2.1.length:Int))&&decide ((c.2.1.length:Int)≤LIM)))then
 (d44 [b] (c.2.1.length:Int)).bind fun f=>
 (zad (β:=(uc3×uc1)) (fun((e,k):uc3×uc1)=>
 (d45 k).bind fun a=>
 bif a.1 then
 some (Sum.inl (e,a.2))
 else
 some (Sum.inr (e,a.2))) ((0,0,0,0,[],[]),(c,gs,lots,b,(List.replicate (Int.toNat (c.2.1.length:Int)) 0),f,0,[],0,0,2,c.2.2.2.1,c.2.2.2.2.2.1,(c.2.1.length:Int),[],[]))).bind fun((h,g):uc3×uc1)=>
 some (g.2.2.2.2.2.2.2.2.2.2,0)
 else none
def E16:=uqy 16 ⟨[(y26,.sh),(y29,.sh),(y23,.sh)],[(y41,.sh),(y2,.sh)]⟩ d16 func16 call16 [.fn E42,.fn E43,.fn E44,.fn E45] (uqs (.seq (uqs upag) (uqs (.seq (.reg [] (uqk 13 [{fl:=1500304099},{fl:=1000007079}])) (uqs (.seq (.block (.loop [ujak,(10,.v y71 umab)] [(.brk 0,[ujak,(10,.v y71 umab)])] (.seq upak (.block .nil)))) (.seq (.reg [(10,[0,1,1,1,1,1,1,1,1,1,1,1,1,1,1,0]),(10,[0,1,1,1,1,1,1,1,1,1,1,1,1,1,1,1])] []) .nil)))))))
def d51(c:uc7)(gs:List (List Int×Int))(lots:List Int):Option uc6:=
 bif (decide ((c.2.1.length:Int)=(c.2.1.length:Int))&&(decide (0≤(c.2.1.length:Int))&&decide ((c.2.1.length:Int)≤LIM)))then
 (zad (β:=(uc9×uc10×uc7×(List Bool))) (fun((b,e,f,remain,g,a):uc9×uc10×uc7×(List Bool)×Int×Int)=>
 bif (decide (a<g))then
 bif (decide (0≤a)&&decide (a<(remain.length:Int)))then
 some (Sum.inl (b,e,f,(List.set remain a.toNat true),g,(w (a+1))))
 else none
 else
 some (Sum.inr (b,e,f,remain))) (gs,lots,c,(List.replicate (Int.toNat (c.2.1.length:Int)) false),((List.replicate (Int.toNat (c.2.1.length:Int)) false).length:Int),0)).bind fun((h,i,j,k):uc9×uc10×uc7×(List Bool))=>
 some (j,h,i,k,[])
 else none
def E51:=uqy 51 ⟨[(y26,.sh),(y29,.sh),(y23,.sh)],[(y91,umae)]⟩ d51 func51 call51 [] (.seq (.reg [] [{},{fl:=2}]) (uqs (.seq (uqs (.block (.loop [ujbw,(2,.v y23 .sh),(3,.v (.ptr y26) umaf),ujam,(14,uqa),(15,uqa)] [(.brk 0,[ujbw,(2,.v y23 .sh),(3,.v (.ptr y26) umaf),ujam])] upad))) (.seq (.reg [] [{},{},{},{fl:=1},{fl:=1000004079}]) .nil))))
def d108(remain:List Bool)(i:Int):Option Bool:=
 bif (decide (i<(remain.length:Int)))then
 bif (decide (0≤i)&&decide (i<(remain.length:Int)))then
 some (remain.getD i.toNat false)
 else none
 else
 some false
def E108:=uqy 108 ⟨[(y95,.bw),(y2,.sh)],[(y4,.sh)]⟩ d108 func108 call108 [] upai
def d107(p:Int)(p1:List Bool):Option Bool:=
 (d108 p1 p).bind fun r=>
 some r
def E107:=uqy 107 ⟨[(y2,.bw),((.ptr y95),.bw)],[(y4,.sh)]⟩ d107 func107 call107 [.fn E108] upai
def d52(gs:List (List Int×Int))(remain:List Bool):Option (uc10×Int):=
 letJ (fun((j,f,exhausted,m):uc9×(List Bool)×Int×Bool)=>
 bif m then
 some ([],0)
 else
 bif (decide ((f.length:Int)=(f.length:Int))&&(decide (0≤(f.length:Int))&&decide ((f.length:Int)≤LIM)))then
 (zad (β:=(uc10×Int)) (fun((g,votes,h,c,i,b):(List Bool)×uc10×Int×uc9×Int×Int)=>
 bif (decide (b<i))then
 letJ (fun((n,o,p,q,s,t):(List Bool)×uc10×Int×uc9×Int×Int)=>
 some (Sum.inl (n,o,p,q,s,(w (t+1))))) fun k=>
 bif (decide (0≤b)&&decide (b<(c.length:Int)))then
 (d55 ((c.getD b.toNat ([],0)).1) (fun a=>d107 a g)).bind fun e=>
 bif (decide (e<0))then
 k (g,votes,(w (h+((c.getD b.toNat ([],0)).2))),c,i,b)
 else
 bif (decide (0≤e)&&decide (e<(((c.getD b.toNat ([],0)).1).length:Int)))then
 bif (decide (0≤(List.getD ((c.getD b.toNat ([],0)).1) e.toNat 0))&&decide ((List.getD ((c.getD b.toNat ([],0)).1) e.toNat 0)<(votes.length:Int)))then
 bif (decide (0≤(List.getD ((c.getD b.toNat ([],0)).1) e.toNat 0))&&decide ((List.getD ((c.getD b.toNat ([],0)).1) e.toNat 0)<(votes.length:Int)))then
 k (g,(List.set votes (Int.toNat (List.getD ((c.getD b.toNat ([],0)).1) e.toNat 0)) (w ((votes.getD (Int.toNat (List.getD ((c.getD b.toNat ([],0)).1) e.toNat 0)) 0)+((c.getD b.toNat ([],0)).2)))),h,c,i,b)
 else none
 else none
 else none
 else none
 else
 some (Sum.inr (votes,h))) (f,(List.replicate (Int.toNat (f.length:Int)) 0),exhausted,j,(j.length:Int),0)).bind fun((u,v):uc10×Int)=>
 some (u,v)
 else none) fun l=>
 (d89 gs).bind fun r=>
 bif !(!r)then
 l (gs,remain,0,(decide (7<(remain.length:Int))))
 else
 l (gs,remain,0,true)
def E52:=uqy 52 ⟨[(y29,.bw),(y95,.bw)],[(y23,.sh),(y2,.sh)]⟩ d52 func52 call52 [.fn E89,.fn E55,.fn E107] (.post (uqs (.seq (.join uqr [ujaw,(3,.v (.ptr y95) umai),(5,uqa),(16,uqc)] upaa) (uqs (.seq (uqs (.block (.loop ulaf [(.brk 0,[(4,.v y23 umad),(5,uqa)])] (uqs (.seq upab (.join (.block (uqs (uqs (uqs (.cond uqr uqr))))) ulaf uqr)))))) upac)))) [(4,[])])
def d109(l:List Int):Option uc8:=
 (zad (β:=uc8) (fun((out,b,c,a):uc8×uc10×Int×Int)=>
 bif (decide (a<c))then
 bif (decide (0≤a)&&decide (a<(b.length:Int)))then
 (d49 (b.getD a.toNat 0)).bind fun r=>
 bif (decide ((out.length:Int)+(([r]:List (Bool×(List Int×List Int))).length:Int)≤LIM))then
 some (Sum.inl ((out++[r]),b,c,(w (a+1))))
 else none
 else none
 else
 some (Sum.inr out)) ([],l,(l.length:Int),0)).bind fun(e:List (Bool×(List Int×List Int)))=>
 some e
def E109:=uqy 109 ⟨[(y23,.bw)],[(y79,umak)]⟩ d109 func109 call109 [.fn E49] (uqs (.seq upaf (.seq (uqs (.block (.loop [ujaf,(6,.v y23 .bw),(7,uqa),(8,uqa)] [(.brk 0,[ujaf])] upad))) upac)))
def d53(k:uc6)(votes:List Int)(exhausted:Int):Option uc4:=
 (zad (β:=(uc6×uc10×Int×uc5×Int)) (fun((i,j,l,r,sum,f,m,b):uc6×uc10×Int×uc5×Int×uc10×Int×Int)=>
 bif (decide (b<m))then
 bif (decide (0≤b)&&decide (b<(f.length:Int)))then
 some (Sum.inl (i,j,l,r,(w (sum+(f.getD b.toNat 0))),f,m,(w (b+1))))
 else none
 else
 some (Sum.inr (i,j,l,r,sum))) (k,votes,exhausted,([],[],(false,[],[]),(false,[],[]),(false,[],[]),[],[],[]),0,votes,(votes.length:Int),0)).bind fun((n,s,t,ag,o):uc6×uc10×Int×uc5×Int)=>
 (d109 s).bind fun u=>
 (d49 (w ((w (Int.tdiv o 2))+1))).bind fun v=>
 (d49 t).bind fun x=>
 (d49 0).bind fun y=>
 (zad (β:=uc4) (fun((g,quota,c,h,a):uc5×Int×(List Bool)×Int×Int)=>
 bif (decide (a<h))then
 bif (decide (0≤a)&&decide (a<(c.length:Int)))then
 letJ (fun((e,z,keep,aa,ab,ac):uc5×Int×Int×(List Bool)×Int×Int)=>
 (d49 keep).bind fun p=>
 bif (decide ((e.2.1.length:Int)+(([p]:List (Bool×(List Int×List Int))).length:Int)≤LIM))then
 some (Sum.inl ((e.1,(e.2.1++[p]),e.2.2),z,aa,ab,(w (ac+1))))
 else none) fun q=>
 bif (c.getD a.toNat false)then
 q (g,quota,1,c,h,a)
 else
 q (g,quota,0,c,h,a)
 else none
 else
 some (Sum.inr (g,quota))) ((u,[],v,x,y,[],[],[]),(w ((w (Int.tdiv o 2))+1)),n.2.2.2.1,(n.2.2.2.1.length:Int),0)).bind fun((ae,af):uc5×Int)=>
 some (ae,af)
def E53:=uqy 53 ⟨[(y91,.bw),(y23,.bw),(y2,.sh)],[(y99,.sh),(y2,.sh)]⟩ d53 func53 call53 [.fn E109,.fn E49] (uqs (uqs (.seq (uqs (.block (.loop [(0,.v y91 .bw),ujaa,(2,uqa),(6,.v y135 umaf),(8,uqa),(14,.v y23 .bw),(15,uqa),(16,uqa)] [(.brk 0,[(0,.v y91 .bw),ujaa,(2,uqa),(6,.v y135 umaf),(8,uqa)])] upad))) (uqs (.seq (.reg [] (uqk 7 [{frz:=[(28,[])],fl:=89}])) (.seq (uqs (.block (.loop [ujar,(7,uqa),(38,.v y95 .bw),(39,uqa),(40,uqa)] [(.brk 2,[ujar,(7,uqa)])] (uqs (.seq upab (.seq (.block (uqs (uqs (.join upae [ujar,(7,uqa),ujbh,(38,.v y95 .bw),(39,uqa),(40,uqa)] uqr)))) uqr)))))) (.seq (.reg [(6,[0,1,0])] []) .nil)))))))
def d54(k:uc6):Option uc10:=
 (zad (β:=uc10) (fun((out,b,c,a):uc10×(List Bool)×Int×Int)=>
 bif (decide (a<c))then
 letJ (fun((f,g,h,i):uc10×(List Bool)×Int×Int)=>
 some (Sum.inl (f,g,h,(w (i+1))))) fun e=>
 bif (decide (0≤a)&&decide (a<(b.length:Int)))then
 bif (b.getD a.toNat false)then
 bif (decide ((out.length:Int)+(([a]:List Int).length:Int)≤LIM))then
 e ((out++[a]),b,c,a)
 else none
 else
 e (out,b,c,a)
 else none
 else
 some (Sum.inr out)) ([],k.2.2.2.1,(k.2.2.2.1.length:Int),0)).bind fun(j:List Int)=>
 some j
def E54:=uqy 54 ⟨[(y91,.bw)],[(y23,umad)]⟩ d54 func54 call54 [] (uqs (.seq upaf (.seq (uqs (.block (.loop [ujat,(9,.v y95 .bw),ujbb,ujau] [(.brk 0,[ujat])] (uqs (.seq upab (.join upaz [ujat,(9,.v y95 .bw),ujbb,ujau] uqr)))))) upac)))
def d56(c:Int)(p1:List Int)(p2:Int):Option Bool:=
 bif (decide (0≤c)&&decide (c<(p1.length:Int)))then
 some (decide (p2≤(p1.getD c.toNat 0)))
 else none
def E56:=uqy 56 ⟨[(y2,.bw),((.ptr y23),.bw),(y224,.bw)],[(y4,.sh)]⟩ d56 func56 call56 [] upai
def d57(p0:uc6)(p1:List Int):Option (Int×uc10×uc6):=
 (d54 p0).bind fun r=>
 (zad (β:=(uc6×uc10×uc10)) (fun((m,f,b,c,n,a):uc6×uc10×uc10×uc10×Int×Int)=>
 bif (decide (a<n))then
 letJ (fun((aa,ab,ac,ae,af,ag):uc6×uc10×uc10×uc10×Int×Int)=>
 some (Sum.inl (aa,ab,ac,ae,af,(w (ag+1))))) fun o=>
 bif (decide (0≤a)&&decide (a<(c.length:Int)))then
 letJ (fun((p,g,h,j,q,s,t,ah):uc6×uc10×uc10×Int×uc10×Int×Int×Bool)=>
 bif ah then
 o (p,g,[j],q,s,t)
 else
 bif (decide (0≤j)&&decide (j<(g.length:Int)))then
 bif (decide (0≤0)&&decide (0<(h.length:Int)))then
 bif (decide (0≤(h.getD 0 0))&&decide ((h.getD 0 0)<(g.length:Int)))then
 bif (decide ((g.getD j.toNat 0)=(g.getD (Int.toNat (h.getD 0 0)) 0)))then
 bif (decide ((h.length:Int)+(([j]:List Int).length:Int)≤LIM))then
 o (p,g,(h++[j]),q,s,t)
 else none
 else
 o (p,g,h,q,s,t)
 else none
 else none
 else none) fun u=>
 bif !(decide ((b.length:Int)=0))then
 bif (decide (0≤(c.getD a.toNat 0))&&decide ((c.getD a.toNat 0)<(f.length:Int)))then
 bif (decide (0≤0)&&decide (0<(b.length:Int)))then
 bif (decide (0≤(b.getD 0 0))&&decide ((b.getD 0 0)<(f.length:Int)))then
 u (m,f,b,(c.getD a.toNat 0),c,n,a,(decide ((f.getD (Int.toNat (c.getD a.toNat 0)) 0)<(f.getD (Int.toNat (b.getD 0 0)) 0))))
 else none
 else none
 else none
 else
 u (m,f,b,(c.getD a.toNat 0),c,n,a,true)
 else none
 else
 some (Sum.inr (m,f,b))) (p0,p1,[],r,(r.length:Int),0)).bind fun((e,v,k):uc6×uc10×uc10)=>
 bif (decide (0≤0)&&decide (0<(k.length:Int)))then
 letJ (fun((i,ai,l,aj):uc6×uc10×Int×uc10)=>
 bif (decide (0≤l)&&decide (l<(i.2.2.2.1.length:Int)))then
 (d109 ai).bind fun x=>
 bif (decide ((i.2.2.2.2.length:Int)+(([x]:List uc8).length:Int)≤LIM))then
 some (l,aj,(i.1,i.2.1,i.2.2.1,(List.set i.2.2.2.1 l.toNat false),(i.2.2.2.2++[x])))
 else none
 else none) fun y=>
 bif (decide (1<(k.length:Int)))then
 (d110 e.1.2.2.2.2.2.2.1 e.2.2.2.2 k e.2.2.1 true).bind fun z=>
 y ((e.1,e.2.1,e.2.2.1,e.2.2.2.1,z.2.2),v,z.1,k)
 else
 y (e,v,(k.getD 0 0),[])
 else none
def E57:=uqy 57 ⟨[(y91,(.io umae)),(y23,.sh)],[(y2,.sh),(y23,umad)]⟩ d57 func57 call57 [.fn E54,.fn E110,.fn E109] (.seq (.reg [] [{},{fl:=2}]) (.seq (uqs (.block (.loop [ujcd,ujax,ujah,ujay,ujbb,ujau] [(.brk 0,[ujcd,ujax,ujah])] (uqs (.seq upab (.join (.block (uqs (.block (.join uqr [ujcd,ujax,ujah,(7,uqa),ujay,ujbb,ujau,(15,uqc)] (.cond uqr upae))))) [ujcd,ujax,ujah,ujay,ujbb,ujau] uqr)))))) (uqs (.join (uqs (.cond upbb upaf)) [ujcd,ujax,(4,uqa),ujah] (uqs (.seq (.reg [] (uqk 7 [{frz:=[(87,[])]}])) upac))))))
def d18(p0:uc7)(p1:List (List Int×Int))(p2:List Int):Option uc2:=
 (d42 1 p0 p1 p2).bind fun r=>
 bif !(decide (r=0))then
 some ((0,0,0,0,[],[]),r)
 else
 (d51 p0 p1 p2).bind fun p=>
 (zad (β:=uc2) (fun((k,m,f,n):uc9×uc3×uc6×uc3)=>
 (d52 k f.2.2.2.1).bind fun g=>
 (d53 f g.1 g.2).bind fun l=>
 (d54 f).bind fun j=>
 (d55 j (fun a=>d56 a g.1 l.2)).bind fun q=>
 letJ (fun((s,t,u,c,v,b,h,e):uc9×uc3×uc6×uc3×uc10×uc5×uc10×Int)=>
 bif (decide (0≤e))then
 bif (decide (0≤e)&&decide (e<(h.length:Int)))then
 bif (decide ((c.2.2.2.2.1.length:Int)+(([(b.1,b.2.1,b.2.2.1,b.2.2.2.1,b.2.2.2.2.1,[(h.getD e.toNat 0)],b.2.2.2.2.2.2)]:List uc5).length:Int)≤LIM))then
 bif (decide (0≤e)&&decide (e<(h.length:Int)))then
 some (Sum.inr ((c.1,c.2.1,c.2.2.1,c.2.2.2.1,(c.2.2.2.2.1++[(b.1,b.2.1,b.2.2.1,b.2.2.2.1,b.2.2.2.2.1,[(h.getD e.toNat 0)],b.2.2.2.2.2.2)]),[(h.getD e.toNat 0)]),0))
 else none
 else none
 else none
 else
 (d57 u v).bind fun i=>
 bif (decide ((c.2.2.2.2.1.length:Int)+(([(b.1,b.2.1,b.2.2.1,b.2.2.2.1,b.2.2.2.2.1,b.2.2.2.2.2.1,[i.1],i.2.1)]:List uc5).length:Int)≤LIM))then
 some (Sum.inl (s,t,i.2.2,(c.1,c.2.1,c.2.2.1,c.2.2.2.1,(c.2.2.2.2.1++[(b.1,b.2.1,b.2.2.1,b.2.2.2.1,b.2.2.2.2.1,b.2.2.2.2.2.1,[i.1],i.2.1)]),c.2.2.2.2.2)))
 else none) fun o=>
 bif (decide ((j.length:Int)=1))then
 o (k,m,f,n,g.1,l.1,j,0)
 else
 o (k,m,f,n,g.1,l.1,j,q)) (p1,(0,0,0,0,[],[]),p,(1,1,0,(p0.2.1.length:Int),[],[]))).bind fun((x,y):uc3×Int)=>
 some (x,y)
def E18:=uqy 18 ⟨[(y26,.sh),(y29,.sh),(y23,.sh)],[(y41,.sh),(y2,.sh)]⟩ d18 func18 call18 [.fn E42,.fn E51,.fn E52,.fn E53,.fn E54,.fn E55,.fn E56,.fn E57] (.post (uqs (.seq (uqs (uqs (.cond (.seq (.reg [] [{fl:=103}]) .nil) .nil))) (uqs (.seq (.reg [] [{},{},{},{fl:=103}]) (.block (.loop [ujbw,ujak,(9,.v y91 umae),ujaz] [(.ret,[(6,.v (.ptr y41) (.own 0 (.pr .sh (.pr .sh umaj)))),(7,uqa)])] (.block (.seq upaw (.seq upau (uqs (uqs (.join upae [ujbw,ujak,(9,.v y91 umae),ujaz,(11,.v (.ptr y23) umaf),(13,.v y135 umaf),(15,.v y23 umad),(16,uqa)] (.seq (uqs (.cond (uqs (.seq (.reg [(13,[0,1,1,1,1,1,0])] []) (uqs (.seq (.reg [(10,[0,1,1,1,1,0]),(10,[0,1,1,1,1,1])] []) .nil)))) .nil)) (.seq upas (.seq (.reg [(18,[])] []) (.reg [(13,[0,1,1,1,1,1,1,0])] [])))))))))))))))) [(6,[0])])
end
end Go.Proofs.YtfgjbkjddcjlfaaGreat
