/- Part 13 of what stands below the statement. -/
import Derived.Test.YtfgjbkjddcjlfaaGreatS12
set_option linter.defProp false
open Go Go.Proofs Go.X
namespace Go.Proofs.YtfgjbkjddcjlfaaGreat
open Tryz
set_option linter.unusedVariables false
set_option maxRecDepth 100000
noncomputable section
abbrev ub11:=(Bool×(List Int×List Int))
abbrev ub6:=(List ub11×(List ub11×(ub11×(ub11×(ub11×(List Int×(List Int×List Int)))))))
abbrev ub5:=(Int×(Int×(Int×(Int×(List ub6×List Int)))))
abbrev ub8:=(List Int×(Int×(Int×ub11)))
abbrev ub10:=(List ub11)
abbrev ub9:=(List ub10)
abbrev ub13:=(List Int×Int)
abbrev ub12:=(List ub13)
abbrev ub14:=(List Int)
abbrev ub7:=(List Int×(List ub14×(Int×(Int×(Int×(Int×(Int×(Int×Int))))))))
abbrev ub3:=(ub7×(List Int×(Int×(Int×(List ub8×(List Int×(List ub11×(Int×(List ub10×ub5)))))))))
abbrev ub0:=(ub5×ub3)
abbrev ub1:=(ub3×ub6)
abbrev ub2:=(ub3×ub10)
abbrev ub4:=(ub7×(List ub13×(List Int×(Int×(List Int×(List Int×(Int×(List ub10×(Int×(Int×ub5))))))))))
abbrev ub15:=Int×ub12×ub14×ub7×Int×Bool×Bool
abbrev ub16:=Int×ub14×ub14×Int×Int
def d121(n:Int)(prefs:List Int):Option Bool:=
 (zad (β:=Unit⊕Bool) (fun((c,seen,b,e,a):Int×(List Bool)×ub14×Int×Int)=>
   bif (decide (a<e))then
    bif (decide (0≤a)&&decide (a<(b.length:Int)))then
     letJ (fun((g,h,p,i,j,k,l):Int×(List Bool)×Int×ub14×Int×Int×Bool)=>
       bif l then
        some (Sum.inr (Sum.inr false))
       else
        bif (decide (0≤p)&&decide (p<7))then
         some (Sum.inl (g,(List.set h p.toNat true),i,j,(w (k+1))))
        else none) fun f=>
     bif !(decide ((b.getD a.toNat 0)<0))then
      bif !(decide (c≤(b.getD a.toNat 0)))then
       bif (decide (0≤(b.getD a.toNat 0))&&decide ((b.getD a.toNat 0)<7))then
        f (c,seen,(b.getD a.toNat 0),b,e,a,(seen.getD (Int.toNat (b.getD a.toNat 0)) false))
       else none
      else
       f (c,seen,(b.getD a.toNat 0),b,e,a,true)
     else
      f (c,seen,(b.getD a.toNat 0),b,e,a,true)
    else none
   else
    some (Sum.inr (Sum.inl ()))) (n,[false,false,false,false,false,false,false],prefs,(prefs.length:Int),0)).bind fun
 |Sum.inl _=>
  some true
 |Sum.inr m=>
  some m
def E121:=uqy 121 ⟨[(y2,.sh),(y23,.bw)],[(y4,.sh)]⟩ d121 func121 call121 [] (uqs (uqs (.seq (uqs (.block (.loop [(0,uqa),(5,.v (.ptr y188) umaf),ujcf,(9,uqa),ujbb] uxaa (uqs (.seq upab (.seq (.block (uqs (.seq (.join uqr [(0,uqa),(5,.v (.ptr y188) umaf),(7,uqa),ujcf,(9,uqa),ujbb,(25,uqc)] upaa) uqr))) uqr)))))) upac)))
def d119(x:Int):Option Bool:=
 some (!(decide (x=x)))
def E119:=uqy 119 ⟨[(y2,.sh)],[(y4,.sh)]⟩ d119 func119 call119 [] upai
def d71(x:Int)(y:Int):Option Int:=
 (d119 x).bind fun r=>
 (d119 y).bind fun a=>
 bif r then
 bif a then
 some 0
 else
 some (-1)
 else
 bif a then
 some 1
 else
 bif (decide (x<y))then
 some (-1)
 else
 bif (decide (y<x))then
 some 1
 else
 some 0
def E71:=uqy 71 ⟨[(y2,.sh),(y2,.sh)],[(y2,.sh)]⟩ d71 func71 call71 [.fn E119] (uqs (uqs (uqs (.seq (uqs (.cond upao .nil)) (.seq upag (.seq upag upao))))))
def d68(s1:List Int)(s2:List Int):Option Int:=
 (zad (β:=(ub14×ub14)⊕Int) (fun((e,b,c,f,a):ub14×ub14×ub14×Int×Int)=>
   bif (decide (a<f))then
    bif (decide (0≤a)&&decide (a<(c.length:Int)))then
     bif (decide ((b.length:Int)≤a))then
      some (Sum.inr (Sum.inr 1))
     else
      bif (decide (0≤a)&&decide (a<(b.length:Int)))then
       (d71 (c.getD a.toNat 0) (b.getD a.toNat 0)).bind fun r=>
       bif !(decide (r=0))then
        some (Sum.inr (Sum.inr r))
       else
        some (Sum.inl (e,b,c,f,(w (a+1))))
      else none
    else none
   else
    some (Sum.inr (Sum.inl (e,b)))) (s1,s2,s1,(s1.length:Int),0)).bind fun
 |Sum.inl (g,h)=>
  bif (decide ((g.length:Int)<(h.length:Int)))then
   some (-1)
  else
   some 0
 |Sum.inr i=>
  some i
def sg68:Sig:=⟨[(y23,.bw),(y23,.bw)],[(y2,.sh)]⟩
def sim68:Sim prog 68 sg68 d68:=uqz func68 (zfw rfl) call68 (by kernel_rfl) (by kernel_rfl) [.fn E71] (uqs (.seq (uqs (.block (.loop [ujai,ujaa,(9,.v y23 .bw),ujbb,ujau] [(.brk 0,[ujai,ujaa]),(.ret,[(4,uqa)])] (uqs (.seq upab (.seq (.block (uqs (.seq upag (uqs (uqs upag))))) uqr)))))) upao)) fun xs=>by kernel_rfl
def E68:FnE prog:=⟨68,sg68,d68,sim68⟩
def d77(n:Int)(gs:List ub13):Option Bool:=
 (zad (β:=Unit⊕Bool) (fun((c,h,total,b,e,a):Int×ub12×Int×ub12×Int×Int)=>
   bif (decide (a<e))then
    bif (decide (0≤a)&&decide (a<(b.length:Int)))then
     letJ (fun((k,f,l,i,g,m,o,p,s):Int×ub12×Int×Int×ub13×ub12×Int×Int×Bool)=>
       bif s then
        some (Sum.inr (Sum.inr false))
       else
        letJ (fun((t,u,v,x,y,z,aa,ab):Int×ub12×Int×ub13×ub12×Int×Int×Bool)=>
          bif ab then
           some (Sum.inr (Sum.inr false))
          else
           some (Sum.inl (t,u,(w (v+x.2)),y,z,(w (aa+1))))) fun q=>
        bif (decide (0<i))then
         bif (decide (0≤(w (i-1)))&&decide ((w (i-1))<(f.length:Int)))then
          (d68 ((f.getD (Int.toNat (w (i-1))) ([],0)).1) g.1).bind fun ac=>
          q (k,f,l,g,m,o,p,(decide (0≤ac)))
         else none
        else
         q (k,f,l,g,m,o,p,false)) fun j=>
     bif !(decide ((b.getD a.toNat ([],0)).2<1))then
      bif !(decide ((w (100000-total))<(b.getD a.toNat ([],0)).2))then
       (d121 c ((b.getD a.toNat ([],0)).1)).bind fun r=>
       j (c,h,total,a,(b.getD a.toNat ([],0)),b,e,a,!r)
      else
       j (c,h,total,a,(b.getD a.toNat ([],0)),b,e,a,true)
     else
      j (c,h,total,a,(b.getD a.toNat ([],0)),b,e,a,true)
    else none
   else
    some (Sum.inr (Sum.inl ()))) (n,gs,0,gs,(gs.length:Int),0)).bind fun
 |Sum.inl _=>
  some true
 |Sum.inr ae=>
  some ae
def E77:=uqy 77 ⟨[(y2,.sh),(y29,.bw)],[(y4,.sh)]⟩ d77 func77 call77 [.fn E121,.fn E68] (uqs (uqs (.seq (uqs (.block (.loop [(0,uqa),ujad,(5,uqa),(8,.v y29 .bw),(9,uqa),ujbb] uxaa (uqs (.seq upab (.seq (.block (uqs (.seq (.join uqr [(0,uqa),ujad,(5,uqa),(6,uqa),(7,.v (.ptr y88) umai),(8,.v y29 .bw),(9,uqa),ujbb,(31,uqc)] upaa) (.seq (.join uqr [(0,uqa),ujad,(5,uqa),(7,.v (.ptr y88) umai),(8,.v y29 .bw),(9,uqa),ujbb,(45,uqc)] upaa) uqr)))) uqr)))))) upac)))
def d78(l:List Int)(n:Int):Option Bool:=
 bif (decide ((l.length:Int)=n))then
 (d121 n l).bind fun r=>
 some r
 else
 some false
def E78:=uqy 78 ⟨[(y23,.bw),(y2,.sh)],[(y4,.sh)]⟩ d78 func78 call78 [.fn E121] upai
def d42(p0:Int)(p1:ub7)(p2:List ub13)(p3:List Int):Option Int:=
 letJ (fun((a,j,k,c,l,m):Int×ub12×ub14×ub7×Int×Bool)=>
 letJ (fun((y,z,aa,ab,e,ac,aq):ub15)=>
 bif aq then
 some 5
 else
 letJ (fun((ar,au,ae,av):ub12×ub14×Int×Bool)=>
 bif av then
 some 4
 else
 (d77 ae ar).bind fun r=>
 bif !r then
 some 8
 else
 (d78 au ae).bind fun ax=>
 bif !ax then
 some 13
 else
 some 0) fun b=>
 letJ (fun((af,n,o,f,p,ag,ah):ub15)=>
 bif ah then
 b (n,o,p,ah)
 else
 letJ (fun((ay,q,s,t,u,ai,aj):ub15)=>
 bif aj then
 b (q,s,u,aj)
 else
 letJ (fun((g,h,ak,i,al,am):ub12×ub14×ub7×Int×Bool×Bool)=>
 bif am then
 b (g,h,i,am)
 else
 bif !al then
 b (g,h,i,!al)
 else
 bif !(decide (ak.2.2.2.2.2.2.1<1))then
 b (g,h,i,(decide (3<ak.2.2.2.2.2.2.1)))
 else
 b (g,h,i,true)) fun an=>
 bif (decide (ay=1))then
 an (q,s,t,u,ai,!(decide (t.2.2.2.1=1)))
 else
 an (q,s,t,u,ai,false)) fun ao=>
 bif !(decide (f.2.2.2.1<1))then
 ao (af,n,o,f,p,ag,(decide (5<f.2.2.2.1)))
 else
 ao (af,n,o,f,p,ag,true)) fun ap=>
 bif !(decide (e<1))then
 ap (y,z,aa,ab,e,ac,(decide (7<e)))
 else
 ap (y,z,aa,ab,e,ac,true)) fun v=>
 bif !(decide (a<1))then
 bif !(decide (3<a))then
 v (a,j,k,c,l,m,!(decide (c.2.2.1=a)))
 else
 v (a,j,k,c,l,m,true)
 else
 v (a,j,k,c,l,m,true)) fun x=>
 bif (decide (p0=2))then
 bif (decide (1≤p1.2.2.2.2.2.1))then
 x (p0,p2,p3,p1,(p1.2.1.length:Int),(decide (p1.2.2.2.2.2.1≤6)))
 else
 x (p0,p2,p3,p1,(p1.2.1.length:Int),false)
 else
 x (p0,p2,p3,p1,(p1.2.1.length:Int),(decide (p1.2.2.2.2.2.1=0)))
def E42:=uqy 42 ⟨[(y2,.sh),(y26,.bw),(y29,.bw),(y23,.bw)],[(y2,.sh)]⟩ d42 func42 call42 [.fn E77,.fn E78] (uqs (uqs (uqs (.join upae ulax (.seq (.block (.join uqr [(0,uqa),ujao,ujbc,ujaq,(9,uqa),(10,uqc),(27,uqc)] (.cond upac (.join (.join uqr ulao (.cond .nil (.join uqr ulao (.cond .nil (.join uqr [ujao,ujbc,ujaq,(9,uqa),(10,uqc),(40,uqc)] (.cond .nil (uqs (.cond .nil uqr)))))))) [ujao,ujbc,(9,uqa),(40,uqc)] (.cond upac upav))))) upac)))))
def d89(gs:List ub13):Option Bool:=
 (d77 7 gs).bind fun r=>
 some r
def E89:=uqy 89 ⟨[(y29,.bw)],[(y4,.sh)]⟩ d89 func89 call89 [.fn E77] upai
def d90(l:List ub13)(number:(ub13→Option Int)):Option Int:=
 (zad (β:=Int) (fun((c,n,b,e,a):(ub13→Option Int)×Int×ub12×Int×Int)=>
 bif (decide (a<e))then
 bif (decide (0≤a)&&decide (a<(b.length:Int)))then
 (c (b.getD a.toNat ([],0))).bind fun r=>
 some (Sum.inl (c,(w (n+r)),b,e,(w (a+1))))
 else none
 else
 some (Sum.inr n)) (number,0,l,(l.length:Int),0)).bind fun(f:Int)=>
 some f
def E90:=uqy 90 ⟨[(y29,.bw),(y141,.bw)],[(y2,.sh)]⟩ d90 func90 call90 [] (uqs (uqs (.seq (uqs (.block (.loop [(1,.v y141 .bw),(5,uqa),(8,.v y29 .bw),(9,uqa),ujbb] [(.brk 0,[(5,uqa)])] upad))) upac)))
def d91(g:ub13):Option Int:=
 some g.2
def E91:=uqy 91 ⟨[(y88,.bw)],[(y2,.sh)]⟩ d91 func91 call91 [] upai
def d46(gs:List ub13):Option Int:=
 (d89 gs).bind fun r=>
 bif !r then
 some 0
 else
 (d90 gs (fun a=>d91 a)).bind fun b=>
 some b
def E46:=uqy 46 ⟨[(y29,.bw)],[(y2,.sh)]⟩ d46 func46 call46 [.fn E89,.fn E90,.fn E91] upba
def d92(g:ub13):Option Int:=
 bif (decide ((g.1.length:Int)=0))then
 some 0
 else
 some g.2
def E92:=uqy 92 ⟨[(y88,.bw)],[(y2,.sh)]⟩ d92 func92 call92 [] upba
def d48(gs:List ub13):Option Int:=
 (d89 gs).bind fun r=>
 bif !r then
 some 0
 else
 (d90 gs (fun a=>d92 a)).bind fun b=>
 some b
def E48:=uqy 48 ⟨[(y29,.bw)],[(y2,.sh)]⟩ d48 func48 call48 [.fn E89,.fn E90,.fn E92] upba
def d47(ballots:Int)(seats:Int):Option Int:=
 letJ (fun((c,b,e):Int×Int×Bool)=>
 bif e then
 some 0
 else
 bif (!decide ((w (b+1))=0))then
 some (w ((w (Int.tdiv c (w (b+1))))+1))
 else none) fun a=>
 bif !(decide (ballots<0))then
 bif !(decide (100000<ballots))then
 bif !(decide (seats<1))then
 a (ballots,seats,(decide (5<seats)))
 else
 a (ballots,seats,true)
 else
 a (ballots,seats,true)
 else
 a (ballots,seats,true)
def E47:=uqy 47 ⟨[(y2,.sh),(y2,.sh)],[(y2,.sh)]⟩ d47 func47 call47 [] (uqs (.seq (.join uqr [(0,uqa),(1,uqa),(18,uqc)] upaa) upac))
def d101(k:ub3)(standing:Int):Option ub14:=
 (zad (β:=ub14) (fun((c,out,b,e,a):ub16)=>
 bif (decide (a<e))then
 letJ (fun((g,h,i,j,l):ub16)=>
 some (Sum.inl (g,h,i,j,(w (l+1))))) fun f=>
 bif (decide (0≤a)&&decide (a<(b.length:Int)))then
 bif (decide ((b.getD a.toNat 0)=c))then
 bif (decide ((out.length:Int)+(([a]:List Int).length:Int)≤LIM))then
 f (c,(out++[a]),b,e,a)
 else none
 else
 f (c,out,b,e,a)
 else none
 else
 some (Sum.inr out)) (standing,[],k.2.2.2.2.2.1,(k.2.2.2.2.2.1.length:Int),0)).bind fun(m:List Int)=>
 some m
def E101:=uqy 101 ⟨[(y76,.bw),(y2,.sh)],[(y23,umad)]⟩ d101 func101 call101 [] upaj
def d96(p0:ub3):Option ub10:=
 (zad (β:=ub2) (fun((l,g,m,n):ub3×ub10×Int×Int)=>
 bif (decide (n<m))then
 (d49 0).bind fun r=>
 bif (decide ((g.length:Int)+(([r]:List ub11).length:Int)≤LIM))then
 some (Sum.inl (l,(g++[r]),m,(w (n+1))))
 else none
 else
 some (Sum.inr (l,g))) (p0,[],(p0.2.2.2.2.2.1.length:Int),0)).bind fun((h,u):ub3×ub10)=>
 (zad (β:=ub2) (fun((i,e,b,j,a):ub3×ub10×(List ub8)×Int×Int)=>
 bif (decide (a<j))then
 letJ (fun((v,x,y,z,aa):ub3×ub10×(List ub8)×Int×Int)=>
 some (Sum.inl (v,x,y,z,(w (aa+1))))) fun o=>
 bif (decide (0≤a)&&decide (a<(b.length:Int)))then
 bif (decide ((((b.getD a.toNat ([],0,0,false,[],[])).2).2).1<(((b.getD a.toNat ([],0,0,false,[],[])).1).length:Int)))then
 bif (decide (0≤(((b.getD a.toNat ([],0,0,false,[],[])).2).2).1)&&decide ((((b.getD a.toNat ([],0,0,false,[],[])).2).2).1<(((b.getD a.toNat ([],0,0,false,[],[])).1).length:Int)))then
 bif (decide (0≤(List.getD ((b.getD a.toNat ([],0,0,false,[],[])).1) (Int.toNat ((((b.getD a.toNat ([],0,0,false,[],[])).2).2).1)) 0))&&decide ((List.getD ((b.getD a.toNat ([],0,0,false,[],[])).1) (Int.toNat ((((b.getD a.toNat ([],0,0,false,[],[])).2).2).1)) 0)<(e.length:Int)))then
 (d49 (((b.getD a.toNat ([],0,0,false,[],[])).2).1)).bind fun ab=>
 (d136 ((((b.getD a.toNat ([],0,0,false,[],[])).2).2).2) ab).bind fun ac=>
 (d104 (e.getD (Int.toNat (List.getD ((b.getD a.toNat ([],0,0,false,[],[])).1) (Int.toNat ((((b.getD a.toNat ([],0,0,false,[],[])).2).2).1)) 0)) (false,[],[])) ac).bind fun ae=>
 bif (decide (0≤(List.getD ((b.getD a.toNat ([],0,0,false,[],[])).1) (Int.toNat ((((b.getD a.toNat ([],0,0,false,[],[])).2).2).1)) 0))&&decide ((List.getD ((b.getD a.toNat ([],0,0,false,[],[])).1) (Int.toNat ((((b.getD a.toNat ([],0,0,false,[],[])).2).2).1)) 0)<(e.length:Int)))then
 o (i,(List.set e (Int.toNat (List.getD ((b.getD a.toNat ([],0,0,false,[],[])).1) (Int.toNat ((((b.getD a.toNat ([],0,0,false,[],[])).2).2).1)) 0)) ae),b,j,a)
 else none
 else none
 else none
 else
 o (i,e,b,j,a)
 else none
 else
 some (Sum.inr (i,e))) (h,u,h.2.2.2.2.1,(h.2.2.2.2.1.length:Int),0)).bind fun((p,af):ub3×ub10)=>
 (d101 p 2).bind fun q=>
 (zad (β:=ub10) (fun((s,k,f,t,c):ub3×ub10×ub14×Int×Int)=>
 bif (decide (c<t))then
 bif (decide (0≤c)&&decide (c<(f.length:Int)))then
 (d49 s.2.2.2.1).bind fun ag=>
 bif (decide (0≤(f.getD c.toNat 0))&&decide ((f.getD c.toNat 0)<(k.length:Int)))then
 some (Sum.inl (s,(List.set k (Int.toNat (f.getD c.toNat 0)) ag),f,t,(w (c+1))))
 else none
 else none
 else
 some (Sum.inr k)) (p,af,q,(q.length:Int),0)).bind fun(ah:List ub11)=>
 some ah
def E96:=uqy 96 ⟨[(y76,.bw)],[(y79,umak)]⟩ d96 func96 call96 [.fn E49,.fn E136,.fn E104,.fn E101] (uqs (.seq upaf (.seq (uqs (.block (.loop [ujcg,ujaf,ujbh,(14,uqa)] [(.brk 0,[ujcg,ujaf])] upbd))) (.seq (uqs (.block (.loop ulal [(.brk 2,[ujcg,ujaf])] (uqs (.seq upab (.join (.block (uqs (uqs (.cond upay .nil)))) ulal uqr)))))) (.seq (uqs (.block (.loop [ujcg,ujaf,(58,.v y23 umad),(59,uqa),(60,uqa)] [(.brk 4,[ujaf])] upad))) upac)))))
def d97(l:List ub11):Option ub10:=
 (zad (β:=ub10) (fun((out,b,c,a):ub10×ub10×Int×Int)=>
 bif (decide (a<c))then
 bif (decide (0≤a)&&decide (a<(b.length:Int)))then
 (d137 (((b.getD a.toNat (false,[],[])).2).1)).bind fun r=>
 (d137 (((b.getD a.toNat (false,[],[])).2).2)).bind fun e=>
 bif (decide ((out.length:Int)+(([((b.getD a.toNat (false,[],[])).1,r,e)]:List ub11).length:Int)≤LIM))then
 some (Sum.inl ((out++[((b.getD a.toNat (false,[],[])).1,r,e)]),b,c,(w (a+1))))
 else none
 else none
 else
 some (Sum.inr out)) ([],l,(l.length:Int),0)).bind fun(f:List ub11)=>
 some f
def E97:=uqy 97 ⟨[(y79,.bw)],[(y79,umak)]⟩ d97 func97 call97 [.fn E137] (uqs (.seq upaf (.seq (uqs (.block (.loop [ujaf,(6,.v y79 .bw),(7,uqa),(8,uqa)] [(.brk 0,[ujaf])] (uqs (.seq upab (.seq (.block (uqs (.reg [] (uqk 9 [{frz:=[(17,[]),(20,[])]}])))) uqr)))))) upac)))
def d102(c:Int)(p1:ub6):Option Bool:=
 bif (decide (0≤c)&&decide (c<(p1.1.length:Int)))then
 (d103 (p1.1.getD c.toNat (false,[],[])) p1.2.2.1).bind fun r=>
 some (decide (r<0))
 else none
def E102:=uqy 102 ⟨[(y2,.bw),(y135,.bw)],[(y4,.sh)]⟩ d102 func102 call102 [.fn E103] upai
def d55(s:List Int)(f:(Int→Option Bool)):Option Int:=
 (zad (β:=Unit⊕Int) (fun((b,c,e,a):ub14×(Int→Option Bool)×Int×Int)=>
   bif (decide (a<e))then
    bif (decide (0≤a)&&decide (a<(b.length:Int)))then
     (c (b.getD a.toNat 0)).bind fun r=>
     bif r then
      some (Sum.inr (Sum.inr a))
     else
      some (Sum.inl (b,c,e,(w (a+1))))
    else none
   else
    some (Sum.inr (Sum.inl ()))) (s,f,(s.length:Int),0)).bind fun
 |Sum.inl _=>
  some (-1)
 |Sum.inr g=>
  some g
def E55:=uqy 55 ⟨[(y23,.bw),(y104,.bw)],[(y2,.sh)]⟩ d55 func55 call55 [] (uqs (.seq (uqs (.block (.loop [ujai,(1,.v y104 .bw),(7,uqa),(8,uqa)] uxab upal))) upac))
def d100(s:List Int)(del:(Int→Option Bool)):Option ub14:=
 (d55 s del).bind fun r=>
 bif (decide (r=(-1)))then
 some s
 else
 (zad (β:=(ub14×Int)) (fun((a,f,i,b):ub14×(Int→Option Bool)×Int×Int)=>
 bif (decide (b<(a.length:Int)))then
 letJ (fun((h,j,k,l):ub14×(Int→Option Bool)×Int×Int)=>
 some (Sum.inl (h,j,k,(w (l+1))))) fun g=>
 bif (decide (0≤b)&&decide (b<(a.length:Int)))then
 (f (a.getD b.toNat 0)).bind fun m=>
 bif !m then
 bif (decide (0≤i)&&decide (i<(a.length:Int)))then
 g ((List.set a i.toNat (a.getD b.toNat 0)),f,(w (i+1)),b)
 else none
 else
 g (a,f,i,b)
 else none
 else
 some (Sum.inr (a,i))) (s,del,r,(w (r+1)))).bind fun((e,c):ub14×Int)=>
 bif (zbs c (e.length:Int) e.length)then
 bif (zbs 0 c (List.take c.toNat e++List.replicate (e.length-c.toNat) 0).length)then
 some (List.take c.toNat (List.take c.toNat e++List.replicate (e.length-c.toNat) 0))
 else none
 else none
def E100:=uqy 100 ⟨[(y23,(.give umad)),(y104,.bw)],[(y23,umad)]⟩ d100 func100 call100 [.fn E55] (uqs (uqs (.seq upag (.seq (uqs (.block (.loop ulaz [(.brk 0,[ujbf,(5,uqa)])] (.seq upak (.join (.block (uqs (uqs (.cond upay .nil)))) ulaz uqr))))) upai))))
def d99(k:ub3)(r:ub6)(candidates:List Int):Option ub1:=
 (zad (β:=ub1) (fun((a,b,e,g,c):ub3×ub6×ub14×Int×Int)=>
 bif (decide (c<g))then
 bif (decide (0≤c)&&decide (c<(e.length:Int)))then
 bif (decide (0≤(e.getD c.toNat 0))&&decide ((e.getD c.toNat 0)<(a.2.2.2.2.2.1.length:Int)))then
 bif (decide ((b.2.2.2.2.2.1.length:Int)+(([(e.getD c.toNat 0)]:List Int).length:Int)≤LIM))then
 some (Sum.inl ((a.1,a.2.1,a.2.2.1,a.2.2.2.1,a.2.2.2.2.1,(List.set a.2.2.2.2.2.1 (Int.toNat (e.getD c.toNat 0)) 1),a.2.2.2.2.2.2.1,(w (a.2.2.2.2.2.2.2.1+1)),a.2.2.2.2.2.2.2.2),(b.1,b.2.1,b.2.2.1,b.2.2.2.1,b.2.2.2.2.1,(b.2.2.2.2.2.1++[(e.getD c.toNat 0)]),b.2.2.2.2.2.2),e,g,(w (c+1))))
 else none
 else none
 else none
 else
 some (Sum.inr (a,b))) (k,r,candidates,(candidates.length:Int),0)).bind fun((h,f):ub3×ub6)=>
 (d125 f.2.2.2.2.2.1).bind fun i=>
 some (h,(f.1,f.2.1,f.2.2.1,f.2.2.2.1,f.2.2.2.2.1,i,f.2.2.2.2.2.2))
def E99:=uqy 99 ⟨[(y76,(.io umaa)),(y135,(.io umac)),(y23,.bw)],[]⟩ d99 func99 call99 [.fn E125] (.seq (uqs (.block (.loop [ujag,ujap,ujcf,(9,uqa),ujbb] [(.brk 0,[ujag,ujap])] upah))) uqr)
def d144(p0:Int)(p1:List Int)(p2:List Int):Option Bool:=
 letJ (fun((s,r,t,u):ub14×ub14×Int×Bool)=>
   bif u then
    some false
   else
    (zad (β:=(ub14×Int)⊕Bool) (fun((k,g,l,c,m,a):ub14×Int×(List Bool)×ub14×Int×Int)=>
      bif (decide (a<m))then
       bif (decide (0≤a)&&decide (a<(c.length:Int)))then
        letJ (fun((v,x,y,o,z,aa,ab,ac):ub14×Int×(List Bool)×Int×ub14×Int×Int×Bool)=>
          bif ac then
           some (Sum.inr (Sum.inr false))
          else
           bif (decide (0≤o)&&decide (o<7))then
            some (Sum.inl (v,x,(List.set y o.toNat true),z,aa,(w (ab+1))))
           else none) fun p=>
        bif !(decide ((c.getD a.toNat 0)<0))then
         bif !(decide (g≤(c.getD a.toNat 0)))then
          bif (decide (0≤(c.getD a.toNat 0))&&decide ((c.getD a.toNat 0)<7))then
           p (k,g,l,(c.getD a.toNat 0),c,m,a,(l.getD (Int.toNat (c.getD a.toNat 0)) false))
          else none
         else
          p (k,g,l,(c.getD a.toNat 0),c,m,a,true)
        else
         p (k,g,l,(c.getD a.toNat 0),c,m,a,true)
       else none
      else
       some (Sum.inr (Sum.inl (k,g)))) (s,t,[false,false,false,false,false,false,false],r,(r.length:Int),0)).bind fun
    |Sum.inl (q,ae)=>
     (zad (β:=Unit⊕Bool) (fun((f,h,e,i,b):ub14×Int×ub14×Int×Int)=>
       bif (decide (b<i))then
        bif (decide (0≤b)&&decide (b<(e.length:Int)))then
         letJ (fun((af,ag,ah,ai,aj,ak):ub14×Int×ub14×Int×Int×Bool)=>
           bif ak then
            some (Sum.inr (Sum.inr false))
           else
            some (Sum.inl (af,ag,ah,ai,(w (aj+1))))) fun n=>
         bif !(decide ((e.getD b.toNat 0)<0))then
          bif !(decide (h≤(e.getD b.toNat 0)))then
           bif (decide (0<b))then
            bif (decide (0≤(w (b-1)))&&decide ((w (b-1))<(f.length:Int)))then
             n (f,h,e,i,b,(decide ((e.getD b.toNat 0)≤(f.getD (Int.toNat (w (b-1))) 0))))
            else none
           else
            n (f,h,e,i,b,false)
          else
           n (f,h,e,i,b,true)
         else
          n (f,h,e,i,b,true)
        else none
       else
        some (Sum.inr (Sum.inl ()))) (q,ae,q,(q.length:Int),0)).bind fun
     |Sum.inl _=>
      some true
     |Sum.inr al=>
      some al
    |Sum.inr am=>
     some am) fun j=>
 bif !(decide (p0<1))then
  bif !(decide (3<p0))then
   bif !(decide ((p2.length:Int)<1))then
    bif !(decide (7<(p2.length:Int)))then
     j (p1,p2,(p2.length:Int),(decide ((p1.length:Int)=0)))
    else
     j (p1,p2,(p2.length:Int),true)
   else
    j (p1,p2,(p2.length:Int),true)
  else
   j (p1,p2,(p2.length:Int),true)
 else
  j (p1,p2,(p2.length:Int),true)
def E144:=uqy 144 ⟨[(y2,.sh),(y23,.bw),(y23,.bw)],[(y4,.sh)]⟩ d144 func144 call144 [] (uqs (uqs (.seq (.join uqr [ujaa,ujav,(7,uqa),(33,uqc)] upaa) (uqs (.seq (uqs (.block (.loop [ujaa,(7,uqa),(8,.v (.ptr y188) umaf),(34,.v y23 .bw),(35,uqa),(36,uqa)] [(.brk 0,[ujaa,(7,uqa)]),(.ret,ular)] (uqs (.seq upab (.seq (.block (uqs (.seq (.join uqr [ujaa,(7,uqa),(8,.v (.ptr y188) umaf),ujbb,(34,.v y23 .bw),(35,uqa),(36,uqa),(51,uqc)] upaa) uqr))) uqr)))))) (.seq (uqs (.block (.loop [ujaa,(7,uqa),(55,.v y23 .bw),(56,uqa),(57,uqa)] [(.brk 2,[]),(.ret,ular)] (uqs (.seq upab (.seq (.block (uqs (.join uqr [ujaa,(7,uqa),(55,.v y23 .bw),(56,uqa),(57,uqa),(81,uqc)] upaa))) uqr)))))) upac))))))
def d172(round:List ub11)(candidate:Int):Option ub11:=
 bif (decide (candidate<(round.length:Int)))then
 bif (decide (0≤candidate)&&decide (candidate<(round.length:Int)))then
 some (round.getD candidate.toNat (false,[],[]))
 else none
 else
 (d49 0).bind fun r=>
 some r
def E172:=uqy 172 ⟨[(y79,.sh),(y2,.sh)],[(y85,.sh)]⟩ d172 func172 call172 [.fn E49] upba
def d146(candidates:List Int)(round:List ub11)(least:Bool):Option ub14:=
 (zad (β:=ub14) (fun((e,f,out,b,g,a):ub10×Bool×ub14×ub14×Int×Int)=>
 bif (decide (a<g))then
 letJ (fun((aa,ab,ac,ae,af,ag):ub10×Bool×ub14×ub14×Int×Int)=>
 some (Sum.inl (aa,ab,ac,ae,af,(w (ag+1))))) fun k=>
 bif (decide (0≤a)&&decide (a<(b.length:Int)))then
 letJ (fun((l,m,h,n,ah,o,p,q):ub10×Bool×ub14×Int×Int×ub14×Int×Int)=>
 bif (decide (ah≤0))then
 bif (decide ((h.length:Int)+(([n]:List Int).length:Int)≤LIM))then
 k (l,m,(h++[n]),o,p,q)
 else none
 else
 k (l,m,h,o,p,q)) fun i=>
 bif (decide (0<(out.length:Int)))then
 (d172 e (b.getD a.toNat 0)).bind fun r=>
 bif (decide (0≤0)&&decide (0<(out.length:Int)))then
 (d172 e (out.getD 0 0)).bind fun ai=>
 (d103 r ai).bind fun s=>
 letJ (fun((t,u,j,c,order,v,x,y):ub10×Bool×ub14×Int×Int×ub14×Int×Int)=>
 bif (decide (order<0))then
 bif (zbs 0 0 j.length)then
 i (t,u,(List.take 0 j),c,order,v,x,y)
 else none
 else
 i (t,u,j,c,order,v,x,y)) fun z=>
 bif !f then
 z (e,f,out,(b.getD a.toNat 0),(w (0-s)),b,g,a)
 else
 z (e,f,out,(b.getD a.toNat 0),s,b,g,a)
 else none
 else
 i (e,f,out,(b.getD a.toNat 0),(-1),b,g,a)
 else none
 else
 some (Sum.inr out)) (round,least,[],candidates,(candidates.length:Int),0)).bind fun(aj:List Int)=>
 some aj
def E146:=uqy 146 ⟨[(y23,.bw),(y79,.sh),(y4,.sh)],[(y23,umad)]⟩ d146 func146 call146 [.fn E172,.fn E103] (uqs (.seq upaf (.seq (uqs (.block (.loop ulag [(.brk 0,[(7,.v y23 umad)])] (uqs (.seq upab (.join (.block (uqs (uqs (.join (uqs (.cond (uqs (.join upae ulae upae)) .nil)) ulae upae)))) ulag uqr)))))) upac)))
def d65(s:List Int)(v:Int):Option Int:=
 (zad (β:=Unit⊕Int) (fun((b,c,e,a):ub14×Int×Int×Int)=>
   bif (decide (a<e))then
    bif (decide (0≤a)&&decide (a<(b.length:Int)))then
     bif (decide (c=(b.getD a.toNat 0)))then
      some (Sum.inr (Sum.inr a))
     else
      some (Sum.inl (b,c,e,(w (a+1))))
    else none
   else
    some (Sum.inr (Sum.inl ()))) (s,v,(s.length:Int),0)).bind fun
 |Sum.inl _=>
  some (-1)
 |Sum.inr f=>
  some f
def E65:=uqy 65 ⟨[(y23,.bw),(y2,.sh)],[(y2,.sh)]⟩ d65 func65 call65 [] (uqs (.seq (uqs (.block (.loop [ujai,(1,uqa),(7,uqa),(8,uqa)] uxab upal))) upac))
def d147(a:Int)(b:Int)(p2:List Int):Option Int:=
 (d65 p2 a).bind fun r=>
 (d65 p2 b).bind fun c=>
 some (w (r-c))
def E147:=uqy 147 ⟨[(y2,.bw),(y2,.bw),((.ptr y23),.bw)],[(y2,.sh)]⟩ d147 func147 call147 [.fn E65] upai
def d148(x:List Int)(cmp:(Int→Int→Option Int)):Option Int:=
 bif (decide ((x.length:Int)<1))then
 none
 else
 bif (decide (0≤0)&&decide (0<(x.length:Int)))then
 (zad (β:=Int) (fun((a,b,m,i):ub14×(Int→Int→Option Int)×Int×Int)=>
 bif (decide (i<(a.length:Int)))then
 letJ (fun((e,f,g,h):ub14×(Int→Int→Option Int)×Int×Int)=>
 some (Sum.inl (e,f,g,(w (h+1))))) fun c=>
 bif (decide (0≤i)&&decide (i<(a.length:Int)))then
 (b (a.getD i.toNat 0) m).bind fun r=>
 bif (decide (0<r))then
 bif (decide (0≤i)&&decide (i<(a.length:Int)))then
 c (a,b,(a.getD i.toNat 0),i)
 else none
 else
 c (a,b,m,i)
 else none
 else
 some (Sum.inr m)) (x,cmp,(x.getD 0 0),1)).bind fun(j:Int)=>
 some j
 else none
def E148:=uqy 148 ⟨[(y23,.bw),(y24,.bw)],[(y2,.sh)]⟩ d148 func148 call148 [] upam
def d149(x:List Int)(cmp:(Int→Int→Option Int)):Option Int:=
 bif (decide ((x.length:Int)<1))then
 none
 else
 bif (decide (0≤0)&&decide (0<(x.length:Int)))then
 (zad (β:=Int) (fun((a,b,m,i):ub14×(Int→Int→Option Int)×Int×Int)=>
 bif (decide (i<(a.length:Int)))then
 letJ (fun((e,f,g,h):ub14×(Int→Int→Option Int)×Int×Int)=>
 some (Sum.inl (e,f,g,(w (h+1))))) fun c=>
 bif (decide (0≤i)&&decide (i<(a.length:Int)))then
 (b (a.getD i.toNat 0) m).bind fun r=>
 bif (decide (r<0))then
 bif (decide (0≤i)&&decide (i<(a.length:Int)))then
 c (a,b,(a.getD i.toNat 0),i)
 else none
 else
 c (a,b,m,i)
 else none
 else
 some (Sum.inr m)) (x,cmp,(x.getD 0 0),1)).bind fun(j:Int)=>
 some j
 else none
def E149:=uqy 149 ⟨[(y23,.bw),(y24,.bw)],[(y2,.sh)]⟩ d149 func149 call149 [] upam
def d110(p0:Int)(p1:List ub10)(p2:List Int)(p3:List Int)(p4:Bool):Option (Int×Bool×ub9):=
 (d144 p0 p2 p3).bind fun r=>
 bif !r then
 some ((-1),false,p1)
 else
 (d145 p2).bind fun v=>
 (zad (β:=(ub9×Bool×ub14×ub14)) (fun((f,g,j,k,h,i):Int×ub9×Bool×ub14×ub14×Int)=>
 letJ (fun((l,b,m,n,o,c,x):Int×ub9×Bool×ub14×ub14×Int×Bool)=>
 bif x then
 bif (decide (0≤c)&&decide (c<(b.length:Int)))then
 letJ (fun((y,z,s,aa,ab,ac,ae):Int×ub9×Bool×ub14×ub14×Int×ub10)=>
 (d146 ab ae s).bind fun af=>
 some (Sum.inl (y,z,s,aa,af,(w (ac+1))))) fun t=>
 bif (decide (l=1))then
 bif (decide (0≤(w ((w ((b.length:Int)-1))-c)))&&decide ((w ((w ((b.length:Int)-1))-c))<(b.length:Int)))then
 t (l,b,m,n,o,c,(b.getD (Int.toNat (w ((w ((b.length:Int)-1))-c))) []))
 else none
 else
 t (l,b,m,n,o,c,(b.getD c.toNat []))
 else none
 else
 some (Sum.inr (b,m,n,o))) fun p=>
 bif (decide (i<(g.length:Int)))then
 bif (decide (1<(h.length:Int)))then
 p (f,g,j,k,h,i,!(decide (f=3)))
 else
 p (f,g,j,k,h,i,false)
 else
 p (f,g,j,k,h,i,false)) (p0,p1,p4,p3,v,0)).bind fun((q,ag,u,e):ub9×Bool×ub14×ub14)=>
 bif (decide ((e.length:Int)=1))then
 bif (decide (0≤0)&&decide (0<(e.length:Int)))then
 some ((e.getD 0 0),false,q)
 else none
 else
 bif ag then
 (d148 e (fun a ah=>d147 a ah u)).bind fun ai=>
 some (ai,true,q)
 else
 (d149 e (fun aj ak=>d147 aj ak u)).bind fun al=>
 some (al,true,q)
def E110:=uqy 110 ⟨[(y2,.sh),(y73,(.io umal)),(y23,.bw),(y23,.bw),(y4,.sh)],[(y2,.sh),(y4,.sh)]⟩ d110 func110 call110 [.fn E144,.fn E145,.fn E146,.fn E148,.fn E147,.fn E149] (uqs (.seq upag (uqs (.seq (uqs (.block (.loop [(0,uqa),(1,.v y73 umal),(4,uqc),ujbo,(12,.v y23 umad),ujbh] [(.brk 0,[(1,.v y73 umal),(4,uqc),ujbo,(12,.v y23 umad)])] (.seq (.join uqr [(0,uqa),(1,.v y73 umal),(4,uqc),ujbo,(12,.v y23 umad),ujbh,(35,uqc)] upab) (.seq (.block (uqs (.join upae [(0,uqa),(1,.v y73 umal),(4,uqc),ujbo,(12,.v y23 umad),ujbh,(14,.v y79 .sh)] uqr))) uqr))))) (.seq upag upba)))))
def d141(p0:ub3)(p1:ub6)(p2:List Int)(p3:Bool):Option (Int×ub3×ub6):=
 (zad (β:=(ub3×ub6×Bool×ub14)) (fun((j,f,h,e,c,k,b):ub3×ub6×Bool×ub14×ub14×Int×Int)=>
 bif (decide (b<k))then
 letJ (fun((z,aa,ab,ac,ae,af,ag):ub3×ub6×Bool×ub14×ub14×Int×Int)=>
 some (Sum.inl (z,aa,ab,ac,ae,af,(w (ag+1))))) fun l=>
 bif (decide (0≤b)&&decide (b<(c.length:Int)))then
 letJ (fun((m,n,o,p,q,x,s,t,u):ub3×ub6×Bool×ub14×Int×Int×ub14×Int×Int)=>
 bif (decide (x<0))then
 l (m,n,o,[q],s,t,u)
 else
 bif (decide (x=0))then
 bif (decide ((p.length:Int)+(([q]:List Int).length:Int)≤LIM))then
 l (m,n,o,(p++[q]),s,t,u)
 else none
 else
 l (m,n,o,p,s,t,u)) fun v=>
 bif (decide (0<(e.length:Int)))then
 bif (decide (0≤(c.getD b.toNat 0))&&decide ((c.getD b.toNat 0)<(f.1.length:Int)))then
 bif (decide (0≤0)&&decide (0<(e.length:Int)))then
 bif (decide (0≤(e.getD 0 0))&&decide ((e.getD 0 0)<(f.1.length:Int)))then
 (d103 (f.1.getD (Int.toNat (c.getD b.toNat 0)) (false,[],[])) (f.1.getD (Int.toNat (e.getD 0 0)) (false,[],[]))).bind fun r=>
 bif !h then
 v (j,f,h,e,(c.getD b.toNat 0),(w (0-r)),c,k,b)
 else
 v (j,f,h,e,(c.getD b.toNat 0),r,c,k,b)
 else none
 else none
 else none
 else
 v (j,f,h,e,(c.getD b.toNat 0),(-1),c,k,b)
 else none
 else
 some (Sum.inr (j,f,h,e))) (p0,p1,p3,[],p2,(p2.length:Int),0)).bind fun((a,g,ah,i):ub3×ub6×Bool×ub14)=>
 bif (decide ((i.length:Int)=1))then
 bif (decide (0≤0)&&decide (0<(i.length:Int)))then
 some ((i.getD 0 0),a,g)
 else none
 else
 (d110 a.1.2.2.2.2.2.2.1 a.2.2.2.2.2.2.2.2.1 i a.2.1 ah).bind fun y=>
 some (y.1,(a.1,a.2.1,a.2.2.1,a.2.2.2.1,a.2.2.2.2.1,a.2.2.2.2.2.1,a.2.2.2.2.2.2.1,a.2.2.2.2.2.2.2.1,y.2.2,a.2.2.2.2.2.2.2.2.2),(g.1,g.2.1,g.2.2.1,g.2.2.2.1,g.2.2.2.2.1,g.2.2.2.2.2.1,g.2.2.2.2.2.2.1,i))
def E141:=uqy 141 ⟨[(y76,(.io umaa)),(y135,(.io umac)),(y23,.sh),(y4,.sh)],[(y2,.sh)]⟩ d141 func141 call141 [.fn E103,.fn E110] (uqs (.seq upaf (.seq (uqs (.block (.loop ulak [(.brk 0,[ujag,ujap,(3,uqc),ujay])] (uqs (.seq upab (.join (.block (uqs (uqs (.join (uqs (.cond (uqs upae) .nil)) [ujag,ujap,(3,uqc),ujay,ujau,ujcc,(15,.v y23 .sh),(16,uqa),(17,uqa)] (.block (uqs (.cond uqr upae))))))) ulak uqr)))))) (.seq upag (.seq (.reg [(9,[])] []) (.seq (.reg [] (uqk 16 [{fl:=1}])) upac))))))
def d143(p0:ub3)(p1:Int)(p2:ub11):Option ub3:=
 (zad (β:=ub3) (fun((e,g,j,h,c):ub3×Int×ub11×Int×Int)=>
 bif (decide (c<h))then
 letJ (fun((aa,ab,ac,ae,af):ub3×Int×ub11×Int×Int)=>
 some (Sum.inl (aa,ab,ac,ae,(w (af+1))))) fun k=>
 bif (decide (0≤c)&&decide (c<(e.2.2.2.2.1.length:Int)))then
 letJ (fun((a,l,i,t7x,m,n,ag):ub3×Int×ub11×Int×Int×Int×Bool)=>
 bif ag then
 k (a,l,i,m,n)
 else
 (d136 ((((a.2.2.2.2.1.getD t7x.toNat ([],0,0,false,[],[])).2).2).2) i).bind fun r=>
 (zad (β:=(ub3×Int×ub11×Int×Int)) (fun((b,o,p,t7x_1,q,s):ub3×Int×ub11×Int×Int×Int)=>
 letJ (fun((f,t,u,t7x_2,v,x,ah):ub3×Int×ub11×Int×Int×Int×Bool)=>
 bif ah then
 some (Sum.inl ((f.1,f.2.1,f.2.2.1,f.2.2.2.1,(List.set f.2.2.2.2.1 t7x_2.toNat ((f.2.2.2.2.1.getD t7x_2.toNat ([],0,0,false,[],[])).1,((f.2.2.2.2.1.getD t7x_2.toNat ([],0,0,false,[],[])).2).1,(w (((((f.2.2.2.2.1.getD t7x_2.toNat ([],0,0,false,[],[])).2).2).1)+1)),(((f.2.2.2.2.1.getD t7x_2.toNat ([],0,0,false,[],[])).2).2).2)),f.2.2.2.2.2),t,u,((t7x_2.toNat:Nat):Int),v,x))
 else
 some (Sum.inr (f,t,u,v,x))) fun y=>
 bif (decide ((((b.2.2.2.2.1.getD t7x_1.toNat ([],0,0,false,[],[])).2).2).1<(((b.2.2.2.2.1.getD t7x_1.toNat ([],0,0,false,[],[])).1).length:Int)))then
 bif (decide (0≤(((b.2.2.2.2.1.getD t7x_1.toNat ([],0,0,false,[],[])).2).2).1)&&decide ((((b.2.2.2.2.1.getD t7x_1.toNat ([],0,0,false,[],[])).2).2).1<(((b.2.2.2.2.1.getD t7x_1.toNat ([],0,0,false,[],[])).1).length:Int)))then
 bif (decide (0≤(List.getD ((b.2.2.2.2.1.getD t7x_1.toNat ([],0,0,false,[],[])).1) (Int.toNat ((((b.2.2.2.2.1.getD t7x_1.toNat ([],0,0,false,[],[])).2).2).1)) 0))&&decide ((List.getD ((b.2.2.2.2.1.getD t7x_1.toNat ([],0,0,false,[],[])).1) (Int.toNat ((((b.2.2.2.2.1.getD t7x_1.toNat ([],0,0,false,[],[])).2).2).1)) 0)<(b.2.2.2.2.2.1.length:Int)))then
 y (b,o,p,((t7x_1.toNat:Nat):Int),q,s,!(decide ((b.2.2.2.2.2.1.getD (Int.toNat (List.getD ((b.2.2.2.2.1.getD t7x_1.toNat ([],0,0,false,[],[])).1) (Int.toNat ((((b.2.2.2.2.1.getD t7x_1.toNat ([],0,0,false,[],[])).2).2).1)) 0)) 0)=0)))
 else none
 else none
 else
 y (b,o,p,((t7x_1.toNat:Nat):Int),q,s,false)) ((a.1,a.2.1,a.2.2.1,a.2.2.2.1,(List.set (List.set a.2.2.2.2.1 t7x.toNat ((a.2.2.2.2.1.getD t7x.toNat ([],0,0,false,[],[])).1,((a.2.2.2.2.1.getD t7x.toNat ([],0,0,false,[],[])).2).1,(((a.2.2.2.2.1.getD t7x.toNat ([],0,0,false,[],[])).2).2).1,r)) t7x.toNat ((List.getD (List.set a.2.2.2.2.1 t7x.toNat ((a.2.2.2.2.1.getD t7x.toNat ([],0,0,false,[],[])).1,((a.2.2.2.2.1.getD t7x.toNat ([],0,0,false,[],[])).2).1,(((a.2.2.2.2.1.getD t7x.toNat ([],0,0,false,[],[])).2).2).1,r)) t7x.toNat ([],0,0,false,[],[])).1,((List.getD (List.set a.2.2.2.2.1 t7x.toNat ((a.2.2.2.2.1.getD t7x.toNat ([],0,0,false,[],[])).1,((a.2.2.2.2.1.getD t7x.toNat ([],0,0,false,[],[])).2).1,(((a.2.2.2.2.1.getD t7x.toNat ([],0,0,false,[],[])).2).2).1,r)) t7x.toNat ([],0,0,false,[],[])).2).1,(w (((((List.getD (List.set a.2.2.2.2.1 t7x.toNat ((a.2.2.2.2.1.getD t7x.toNat ([],0,0,false,[],[])).1,((a.2.2.2.2.1.getD t7x.toNat ([],0,0,false,[],[])).2).1,(((a.2.2.2.2.1.getD t7x.toNat ([],0,0,false,[],[])).2).2).1,r)) t7x.toNat ([],0,0,false,[],[])).2).2).1)+1)),(((List.getD (List.set a.2.2.2.2.1 t7x.toNat ((a.2.2.2.2.1.getD t7x.toNat ([],0,0,false,[],[])).1,((a.2.2.2.2.1.getD t7x.toNat ([],0,0,false,[],[])).2).1,(((a.2.2.2.2.1.getD t7x.toNat ([],0,0,false,[],[])).2).2).1,r)) t7x.toNat ([],0,0,false,[],[])).2).2).2)),a.2.2.2.2.2),l,i,((t7x.toNat:Nat):Int),m,n)).bind fun((ai,aj,ak,al,am):ub3×Int×ub11×Int×Int)=>
 k (ai,aj,ak,al,am)) fun z=>
 bif !(decide ((((e.2.2.2.2.1.getD c.toNat ([],0,0,false,[],[])).1).length:Int)≤(((e.2.2.2.2.1.getD c.toNat ([],0,0,false,[],[])).2).2).1))then
 bif (decide (0≤(((e.2.2.2.2.1.getD c.toNat ([],0,0,false,[],[])).2).2).1)&&decide ((((e.2.2.2.2.1.getD c.toNat ([],0,0,false,[],[])).2).2).1<(((e.2.2.2.2.1.getD c.toNat ([],0,0,false,[],[])).1).length:Int)))then
 z (e,g,j,((c.toNat:Nat):Int),h,c,!(decide ((List.getD ((e.2.2.2.2.1.getD c.toNat ([],0,0,false,[],[])).1) (Int.toNat ((((e.2.2.2.2.1.getD c.toNat ([],0,0,false,[],[])).2).2).1)) 0)=g)))
 else none
 else
 z (e,g,j,((c.toNat:Nat):Int),h,c,true)
 else none
 else
 some (Sum.inr e)) (p0,p1,p2,(p0.2.2.2.2.1.length:Int),0)).bind fun(an:ub3)=>
 some an
def E143:=uqy 143 ⟨[(y76,(.io umaa)),(y2,.sh),(y85,.sh)],[]⟩ d143 func143 call143 [.fn E136] (uqs (uqs (.block (.loop ulaa [(.brk 0,[ujag])] (uqs (.seq upab (.join (.block (uqs (uqs (.seq (.join uqr [ujag,(1,uqa),ujbp,ujby,ujcc,ujbh,(45,uqc)] upab) (uqs (uqs (.block (.loop [ujag,(1,uqa),ujbp,ujby,ujcc,ujbh] [(.brk 2,ulaa)] (.seq (.join uqr [ujag,(1,uqa),ujbp,ujby,ujcc,ujbh,(90,uqc)] upab) (.block uqr)))))))))) ulaa uqr)))))))
def d105(k:ub3)(r:ub6):Option ub1:=
 (d101 k 1).bind fun e=>
 (d141 k r e false).bind fun a=>
 bif (decide (0≤a.1)&&decide (a.1<(a.2.2.1.length:Int)))then
 (d49 a.2.1.2.2.2.1).bind fun f=>
 (d98 (a.2.2.1.getD a.1.toNat (false,[],[])) f).bind fun g=>
 bif (decide (0≤a.1)&&decide (a.1<(a.2.2.1.length:Int)))then
 (d142 g (a.2.2.1.getD a.1.toNat (false,[],[]))).bind fun c=>
 (d143 a.2.1 a.1 c.1).bind fun b=>
 bif (decide (0≤a.1)&&decide (a.1<(b.2.2.2.2.2.1.length:Int)))then
 bif (decide (0≤a.1)&&decide (a.1<(b.2.2.2.2.2.2.1.length:Int)))then
 some ((b.1,b.2.1,b.2.2.1,b.2.2.2.1,b.2.2.2.2.1,(List.set b.2.2.2.2.2.1 a.1.toNat 2),(List.set b.2.2.2.2.2.2.1 a.1.toNat c.1),b.2.2.2.2.2.2.2),a.2.2)
 else none
 else none
 else none
 else none
def E105:=uqy 105 ⟨[(y76,(.io umaa)),(y135,(.io umac))],[]⟩ d105 func105 call105 [.fn E101,.fn E141,.fn E49,.fn E98,.fn E142,.fn E143] (.seq (.reg [] [{},{},{},{},{frz:=[(11,[])]}]) (uqs (.seq (.reg [] (uqk 9 [{fl:=1}])) (uqs upay))))
def d106(k:ub3)(r:ub6):Option ub1:=
 (d101 k 0).bind fun b=>
 (d141 k r b true).bind fun a=>
 bif (decide (0≤a.1)&&decide (a.1<(a.2.1.2.2.2.2.2.1.length:Int)))then
 (d49 0).bind fun c=>
 bif (decide (0≤a.1)&&decide (a.1<(a.2.1.2.2.2.2.2.2.1.length:Int)))then
 (d49 1).bind fun e=>
 (d143 (a.2.1.1,a.2.1.2.1,a.2.1.2.2.1,a.2.1.2.2.2.1,a.2.1.2.2.2.2.1,(List.set a.2.1.2.2.2.2.2.1 a.1.toNat 3),(List.set a.2.1.2.2.2.2.2.2.1 a.1.toNat c),a.2.1.2.2.2.2.2.2.2) a.1 e).bind fun f=>
 some (f,(a.2.2.1,a.2.2.2.1,a.2.2.2.2.1,a.2.2.2.2.2.1,a.2.2.2.2.2.2.1,a.2.2.2.2.2.2.2.1,[a.1],a.2.2.2.2.2.2.2.2.2))
 else none
 else none
def E106:=uqy 106 ⟨[(y76,(.io umaa)),(y135,(.io umac))],[]⟩ d106 func106 call106 [.fn E101,.fn E141,.fn E49,.fn E143] (.seq (.reg [] [{},{},{},{},{frz:=[(8,[])]}]) (uqs (.seq (.reg [(1,[0,1,1,1,1,1,1,0])] []) upay)))
def d50(p0:ub3):Option (Bool×ub3):=
 (d96 p0).bind fun r=>
 (d97 p0.2.2.2.2.2.2.1).bind fun aa=>
 (d49 p0.2.2.2.1).bind fun ab=>
 (d49 p0.2.2.1).bind fun ac=>
 (zad (β:=ub1) (fun((o,h,n,p,j):ub3×ub6×ub10×Int×Int)=>
 bif (decide (j<p))then
 bif (decide (0≤j)&&decide (j<(n.length:Int)))then
 (d98 h.2.2.2.1 (n.getD j.toNat (false,[],[]))).bind fun ae=>
 some (Sum.inl (o,(h.1,h.2.1,h.2.2.1,ae,h.2.2.2.2),n,p,(w (j+1))))
 else none
 else
 some (Sum.inr (o,h))) (p0,(r,aa,ab,ac,(false,[],[]),[],[],[]),r,(r.length:Int),0)).bind fun((q,s):ub3×ub6)=>
 (d101 q 0).bind fun af=>
 (d100 af (fun a=>d102 a s)).bind fun ag=>
 (d99 q s ag).bind fun f=>
 (d49 0).bind fun ah=>
 (d101 f.1 1).bind fun t=>
 (zad (β:=ub1) (fun((u,e,k,v,g):ub3×ub6×ub14×Int×Int)=>
 bif (decide (g<v))then
 bif (decide (0≤g)&&decide (g<(k.length:Int)))then
 bif (decide (0≤(k.getD g.toNat 0))&&decide ((k.getD g.toNat 0)<(e.1.length:Int)))then
 (d98 (e.1.getD (Int.toNat (k.getD g.toNat 0)) (false,[],[])) e.2.2.1).bind fun ai=>
 (d104 e.2.2.2.2.1 ai).bind fun aj=>
 some (Sum.inl (u,(e.1,e.2.1,e.2.2.1,e.2.2.2.1,aj,e.2.2.2.2.2),k,v,(w (g+1))))
 else none
 else none
 else
 some (Sum.inr (u,e))) (f.1,(f.2.1,f.2.2.1,f.2.2.2.1,f.2.2.2.2.1,ah,f.2.2.2.2.2.2),t,(t.length:Int),0)).bind fun((c,l):ub3×ub6)=>
 letJ (fun((b,i,ak):ub3×ub6×Bool)=>
 bif (decide ((b.2.2.2.2.2.2.2.2.1.length:Int)+(([i.1]:List ub10).length:Int)≤LIM))then
 bif (decide ((b.2.2.2.2.2.2.2.2.2.2.2.2.2.1.length:Int)+(([i]:List ub6).length:Int)≤LIM))then
 bif (decide ((b.2.2.2.2.2.2.2.2.2.2.2.2.2.2.length:Int)+(i.2.2.2.2.2.1.length:Int)≤LIM))then
 some (!ak,(b.1,b.2.1,b.2.2.1,b.2.2.2.1,b.2.2.2.2.1,b.2.2.2.2.2.1,b.2.2.2.2.2.2.1,b.2.2.2.2.2.2.2.1,(b.2.2.2.2.2.2.2.2.1++[i.1]),b.2.2.2.2.2.2.2.2.2.1,b.2.2.2.2.2.2.2.2.2.2.1,b.2.2.2.2.2.2.2.2.2.2.2.1,b.2.2.2.2.2.2.2.2.2.2.2.2.1,(b.2.2.2.2.2.2.2.2.2.2.2.2.2.1++[i]),(b.2.2.2.2.2.2.2.2.2.2.2.2.2.2++i.2.2.2.2.2.1)))
 else none
 else none
 else none) fun m=>
 bif (decide (c.2.2.2.2.2.2.2.1=c.1.2.2.2.1))then
 m (c,l,(decide (c.2.2.2.2.2.2.2.1=c.1.2.2.2.1)))
 else
 (d101 c 0).bind fun al=>
 bif (decide ((w (c.2.2.2.2.2.2.2.1+(al.length:Int)))≤c.1.2.2.2.1))then
 (d101 c 0).bind fun am=>
 (d99 c l am).bind fun x=>
 m (x.1,x.2,true)
 else
 (d101 c 1).bind fun an=>
 bif (decide (0<(an.length:Int)))then
 (d105 c l).bind fun y=>
 m (y.1,y.2,(decide (c.2.2.2.2.2.2.2.1=c.1.2.2.2.1)))
 else
 (d106 c l).bind fun z=>
 m (z.1,z.2,(decide (c.2.2.2.2.2.2.2.1=c.1.2.2.2.1)))
def E50:=uqy 50 ⟨[(y76,(.io umaa))],[(y4,.sh)]⟩ d50 func50 call50 [.fn E96,.fn E97,.fn E49,.fn E98,.fn E101,.fn E100,.fn E102,.fn E99,.fn E104,.fn E105,.fn E106] (uqs (.seq (.reg [] (uqk 12 [{frz:=[(10,[]),(15,[])],fl:=7}])) (.seq (.reg [(3,[0,1,1,1,1,1,1,0]),(3,[0,1,1,1,1,1,1,1])] []) (.seq (uqs (.block (.loop [ujag,ujbz,(29,.v y79 .sh),(30,uqa),(31,uqa)] [(.brk 0,[ujag,ujbz])] upad))) (uqs (uqs (.seq (uqs (.block (.loop [ujag,ujbz,(50,.v y23 umad),(51,uqa),(52,uqa)] [(.brk 2,[ujag,ujbz])] upad))) (uqs (.join (.block (uqs (.cond .nil (uqs (.cond upay (uqs (.cond uqr uqr))))))) [ujag,ujbz,(8,uqc)] (uqs (.seq (.reg [(3,[0,1,1,1,1,1,0])] []) upai)))))))))))
def d17(p0:ub7)(p1:List ub13)(p2:List Int):Option (ub5×Int):=
 (d42 3 p0 p1 p2).bind fun r=>
 bif !(decide (r=0))then
 some ((0,0,0,0,[],[]),r)
 else
 (d46 p1).bind fun q=>
 (d48 p1).bind fun s=>
 (d47 s p0.2.2.2.1).bind fun t=>
 bif (decide ((p0.2.1.length:Int)=(p0.2.1.length:Int))&&(decide (0≤(p0.2.1.length:Int))&&decide ((p0.2.1.length:Int)≤LIM)))then
 (zad (β:=(ub12×ub5×ub3)) (fun((g,h,a,i,j):ub12×ub5×ub3×Int×Int)=>
 bif (decide (j<i))then
 (d49 1).bind fun k=>
 bif (decide ((a.2.2.2.2.2.2.1.length:Int)+(([k]:List ub11).length:Int)≤LIM))then
 some (Sum.inl (g,h,(a.1,a.2.1,a.2.2.1,a.2.2.2.1,a.2.2.2.2.1,a.2.2.2.2.2.1,(a.2.2.2.2.2.2.1++[k]),a.2.2.2.2.2.2.2),i,(w (j+1))))
 else none
 else
 some (Sum.inr (g,h,a))) (p1,(0,0,0,0,[],[]),(p0,p2,q,t,[],(List.replicate (Int.toNat (p0.2.1.length:Int)) 0),[],0,[],3,p0.2.2.2.1,0,(p0.2.1.length:Int),[],[]),(p0.2.1.length:Int),0)).bind fun((l,u,v):ub12×ub5×ub3)=>
 (zad (β:=ub0) (fun((m,b,e,n,c):ub5×ub3×ub12×Int×Int)=>
 bif (decide (c<n))then
 bif (decide (0≤c)&&decide (c<(e.length:Int)))then
 (d49 1).bind fun o=>
 bif (decide ((b.2.2.2.2.1.length:Int)+(([((e.getD c.toNat ([],0)).1,(e.getD c.toNat ([],0)).2,0,o)]:List ub8).length:Int)≤LIM))then
 some (Sum.inl (m,(b.1,b.2.1,b.2.2.1,b.2.2.2.1,(b.2.2.2.2.1++[((e.getD c.toNat ([],0)).1,(e.getD c.toNat ([],0)).2,0,o)]),b.2.2.2.2.2),e,n,(w (c+1))))
 else none
 else none
 else
 some (Sum.inr (m,b))) (u,v,l,(l.length:Int),0)).bind fun((x,y):ub5×ub3)=>
 (zad (β:=ub0) (fun((p,z):ub5×ub3)=>
 (d50 z).bind fun f=>
 bif f.1 then
 some (Sum.inl (p,f.2))
 else
 some (Sum.inr (p,f.2))) (x,y)).bind fun((ab,aa):ub5×ub3)=>
 some (aa.2.2.2.2.2.2.2.2.2,0)
 else none
def E17:=uqy 17 ⟨[(y26,.sh),(y29,.sh),(y23,.sh)],[(y41,.sh),(y2,.sh)]⟩ d17 func17 call17 [.fn E42,.fn E46,.fn E48,.fn E47,.fn E49,.fn E50] (uqs (.seq (uqs upag) (uqs (.seq (.reg [] (uqk 14 [{fl:=1500304099},{fl:=80791608504090}])) (.seq (uqs (.block (.loop [ujbw,ujak,ujbl,(41,uqa),(42,uqa)] [(.brk 0,[ujbw,ujak,ujbl])] upbd))) (.seq (uqs (.block (.loop [ujak,ujbl,(55,.v y29 .sh),(56,uqa),(57,uqa)] [(.brk 2,[ujak,ujbl])] upad))) (.seq (.block (.loop [ujak,ujbl] [(.brk 4,[ujak,ujbl])] (.seq upak (.block .nil)))) (.seq (.reg [(10,[0,1,1,1,1,1,1,1,1,1,1,1,1,1,0]),(10,[0,1,1,1,1,1,1,1,1,1,1,1,1,1,1])] []) .nil))))))))
def d43(n:Int):Option Int:=
 (zad (β:=Int) (fun((p,a,b):Int×Int×Int)=>
 bif (decide (b<a))then
 some (Sum.inl ((w (p*10)),a,(w (b+1))))
 else
 some (Sum.inr p)) (1,n,0)).bind fun(c:Int)=>
 some c
def E43:=uqy 43 ⟨[(y2,.sh)],[(y2,.sh)]⟩ d43 func43 call43 [] (uqs (uqs (.seq (uqs (.block (.loop [(3,uqa),(4,uqa),(5,uqa)] [(.brk 0,[(3,uqa)])] upbd))) upac)))
def d59(n:Int)(gs:List ub13):Option Bool:=
 bif (decide (1≤n))then
 bif (decide (n≤7))then
 (d77 n gs).bind fun r=>
 some r
 else
 some false
 else
 some false
def E59:=uqy 59 ⟨[(y2,.sh),(y29,.bw)],[(y4,.sh)]⟩ d59 func59 call59 [.fn E77] upai
def d124(a:Int)(b:Int):Option Int:=
 bif (!decide (b=0))then
 some (w (Int.tdiv (w ((w (a+b))-1)) b))
 else none
def E124:=uqy 124 ⟨[(y2,.sh),(y2,.sh)],[(y2,.sh)]⟩ d124 func124 call124 [] upai
def d80(p0:Int)(p1:List Int)(p2:List ub13):Option (ub14×Int×Bool):=
 letJ (fun((aj,l,ak,al,am):Int×ub14×ub12×Int×Bool)=>
   bif am then
    some ([],0,false)
   else
    (d43 aj).bind fun an=>
    (zad (β:=(ub14×ub12×Int×Int)⊕(ub14×Int×Bool)) (fun((m,n,o,j,g,p,c):ub14×ub12×Int×Int×ub14×Int×Int)=>
      bif (decide (c<p))then
       bif (decide (0≤c)&&decide (c<(g.length:Int)))then
        letJ (fun((ao,ap,aq,ar,au,av,ax,ay):ub14×ub12×Int×Int×ub14×Int×Int×Bool)=>
          bif ay then
           some (Sum.inr (Sum.inr ([],0,false)))
          else
           some (Sum.inl (ao,ap,aq,ar,au,av,(w (ax+1))))) fun v=>
        bif !(decide ((g.getD c.toNat 0)<0))then
         v (m,n,o,j,g,p,c,(decide (j<(g.getD c.toNat 0))))
        else
         v (m,n,o,j,g,p,c,true)
       else none
      else
       some (Sum.inr (Sum.inl (m,n,o,j)))) (l,ak,al,an,l,(l.length:Int),0)).bind fun
    |Sum.inl (f,x,az,ba)=>
     bif (decide ((f.length:Int)=(f.length:Int))&&(decide (0≤(f.length:Int))&&decide ((f.length:Int)≤LIM)))then
      (zad (β:=(ub14×Int)) (fun((bb,y,z,aa,h,ab,e):ub14×ub14×Int×Int×ub12×Int×Int)=>
        bif (decide (e<ab))then
         bif (decide (0≤e)&&decide (e<(h.length:Int)))then
          (zad (β:=(ub14×ub14×Int×Int×ub13×Int×ub12×Int×Int)) (fun((k,i,ac,q,s,t,ae,af,ag,b,ah,a):ub14×ub14×Int×Int×ub13×Int×ub12×Int×Int×ub14×Int×Int)=>
            bif (decide (a<ah))then
             bif (decide (0≤a)&&decide (a<(b.length:Int)))then
              bif (decide (0≤(b.getD a.toNat 0))&&decide ((b.getD a.toNat 0)<(k.length:Int)))then
               (d124 (w (t*(k.getD (Int.toNat (b.getD a.toNat 0)) 0))) q).bind fun ai=>
               bif (decide (0≤(b.getD a.toNat 0))&&decide ((b.getD a.toNat 0)<(i.length:Int)))then
                bif (decide (0≤(b.getD a.toNat 0))&&decide ((b.getD a.toNat 0)<(i.length:Int)))then
                 some (Sum.inl (k,(List.set i (Int.toNat (b.getD a.toNat 0)) (w ((i.getD (Int.toNat (b.getD a.toNat 0)) 0)+(w (ai*s.2))))),ac,q,s,(w (t-ai)),ae,af,ag,b,ah,(w (a+1))))
                else none
               else none
              else none
             else none
            else
             some (Sum.inr (k,i,ac,q,s,t,ae,af,ag))) (bb,y,z,aa,(h.getD e.toNat ([],0)),aa,h,ab,e,(h.getD e.toNat ([],0)).1,(((h.getD e.toNat ([],0)).1).length:Int),0)).bind fun((bc,be,bf,bg,bh,bi,bj,bk,bl):ub14×ub14×Int×Int×ub13×Int×ub12×Int×Int)=>
          some (Sum.inl (bc,be,(w (bf+(w (bi*bh.2)))),bg,bj,bk,(w (bl+1))))
         else none
        else
         some (Sum.inr (y,z))) (f,(List.replicate (Int.toNat (f.length:Int)) 0),az,ba,x,(x.length:Int),0)).bind fun((bm,bn):ub14×Int)=>
      some (bm,bn,true)
     else none
    |Sum.inr (bo,bp,bq)=>
     some (bo,bp,bq)) fun u=>
 bif !(decide (p0<1))then
  bif !(decide (6<p0))then
   (d59 (p1.length:Int) p2).bind fun r=>
   u (p0,p1,p2,0,!r)
  else
   u (p0,p1,p2,0,true)
 else
  u (p0,p1,p2,0,true)
def E80:=uqy 80 ⟨[(y2,.sh),(y23,.bw),(y29,.bw)],[(y23,.sh),(y2,.sh),(y4,.sh)]⟩ d80 func80 call80 [.fn E59,.fn E43,.fn E124] (.post (uqs (.seq (.join uqr [(0,uqa),ujaa,ujao,(7,uqa),(30,uqc)] upaa) (uqs (.seq (uqs (.block (.loop [ujaa,ujao,(7,uqa),(9,uqa),(33,.v y23 .bw),(34,uqa),(35,uqa)] [(.brk 0,[ujaa,ujao,(7,uqa),(9,uqa)]),(.ret,[(6,.v y23 .sh),(7,uqa),(8,uqc)])] (uqs (.seq upab (.seq (.block (uqs (.join uqr [ujaa,ujao,(7,uqa),(9,uqa),(33,.v y23 .bw),(34,uqa),(35,uqa),(45,uqc)] upaa))) uqr)))))) (uqs (.seq (uqs (.block (.loop [ujaa,ujbi,(7,uqa),(9,uqa),(50,.v y29 .bw),(51,uqa),(52,uqa)] [(.brk 2,[ujbi,(7,uqa)])] (uqs (.seq upab (.seq (.block (uqs (uqs (.seq (uqs (.block (.loop [ujaa,ujbi,(7,uqa),(9,uqa),(13,.v (.ptr y88) umai),(14,uqa),(50,.v y29 .bw),(51,uqa),(52,uqa),(58,.v y23 .bw),(59,uqa),(60,uqa)] [(.brk 4,[ujaa,ujbi,(7,uqa),(9,uqa),(13,.v (.ptr y88) umai),(14,uqa),(50,.v y29 .bw),(51,uqa),(52,uqa)])] upah))) uqr)))) uqr)))))) upac)))))) [(6,[])])
def d81(k:ub4)(units:List Int):Option ub10:=
 (zad (β:=ub10) (fun((c,out,b,e,a):ub4×ub10×ub14×Int×Int)=>
 bif (decide (a<e))then
 bif (decide (0≤a)&&decide (a<(b.length:Int)))then
 (d82 (b.getD a.toNat 0) c.2.2.2.1).bind fun r=>
 bif (decide ((out.length:Int)+(([r]:List ub11).length:Int)≤LIM))then
 some (Sum.inl (c,(out++[r]),b,e,(w (a+1))))
 else none
 else none
 else
 some (Sum.inr out)) (k,[],units,(units.length:Int),0)).bind fun(f:List ub11)=>
 some f
def E81:=uqy 81 ⟨[(y71,.bw),(y23,.bw)],[(y79,umak)]⟩ d81 func81 call81 [.fn E82] (uqs (.seq upaf (.seq (uqs (.block (.loop [(0,.v y71 .bw),(5,.v y79 umak),ujcf,(9,uqa),ujbb] [(.brk 0,[(5,.v y79 umak)])] upad))) upac)))
def d85(k:ub4)(standing:Int):Option ub14:=
 (zad (β:=ub14) (fun((c,out,b,e,a):ub16)=>
 bif (decide (a<e))then
 letJ (fun((g,h,i,j,l):ub16)=>
 some (Sum.inl (g,h,i,j,(w (l+1))))) fun f=>
 bif (decide (0≤a)&&decide (a<(b.length:Int)))then
 bif (decide ((b.getD a.toNat 0)=c))then
 bif (decide ((out.length:Int)+(([a]:List Int).length:Int)≤LIM))then
 f (c,(out++[a]),b,e,a)
 else none
 else
 f (c,out,b,e,a)
 else none
 else
 some (Sum.inr out)) (standing,[],k.2.2.2.2.1,(k.2.2.2.2.1.length:Int),0)).bind fun(m:List Int)=>
 some m
def E85:=uqy 85 ⟨[(y71,.bw),(y2,.sh)],[(y23,umad)]⟩ d85 func85 call85 [] upaj
def d126(c:Int)(p1:List Int)(p2:Int):Option Bool:=
 bif (decide (0≤c)&&decide (c<(p1.length:Int)))then
 some (decide ((p1.getD c.toNat 0)<p2))
 else none
def E126:=uqy 126 ⟨[(y2,.bw),((.ptr y23),.bw),(y224,.bw)],[(y4,.sh)]⟩ d126 func126 call126 [] upai
def d128(a:Int)(b:Int)(p2:List Int)(p3:ub4):Option Int:=
 bif (decide (0≤a)&&decide (a<(p2.length:Int)))then
 bif (decide (0≤b)&&decide (b<(p2.length:Int)))then
 bif !(decide ((p2.getD a.toNat 0)=(p2.getD b.toNat 0)))then
 bif (decide (0≤b)&&decide (b<(p2.length:Int)))then
 bif (decide (0≤a)&&decide (a<(p2.length:Int)))then
 some (w ((p2.getD b.toNat 0)-(p2.getD a.toNat 0)))
 else none
 else none
 else
 (d65 p3.2.2.1 a).bind fun r=>
 (d65 p3.2.2.1 b).bind fun c=>
 some (w (r-c))
 else none
 else none
def E128:=uqy 128 ⟨[(y2,.bw),(y2,.bw),((.ptr y23),.bw),((.ptr y71),.bw)],[(y2,.sh)]⟩ d128 func128 call128 [.fn E65] upba
def d190(data:List Int)(a:Int)(b:Int)(cmp:(Int→Int→Option Int)):Option ub14:=
 (zad (β:=ub14) (fun((k,u,l,v,i):ub14×Int×Int×(Int→Int→Option Int)×Int)=>
 bif (decide (i<l))then
 (zad (β:=(ub14×Int×Int×(Int→Int→Option Int)×Int)) (fun((g,h,m,j,n,e):ub14×Int×Int×(Int→Int→Option Int)×Int×Int)=>
 letJ (fun((f,o,p,q,s,c,x):ub14×Int×Int×(Int→Int→Option Int)×Int×Int×Bool)=>
 bif x then
 bif (decide (0≤(w (c-1)))&&decide ((w (c-1))<(f.length:Int)))then
 bif (decide (0≤c)&&decide (c<(f.length:Int)))then
 bif (decide (0≤c)&&decide (c<(f.length:Int)))then
 bif (decide (0≤(w (c-1)))&&decide ((w (c-1))<((List.set f c.toNat (f.getD (Int.toNat (w (c-1))) 0)).length:Int)))then
 some (Sum.inl ((List.set (List.set f c.toNat (f.getD (Int.toNat (w (c-1))) 0)) (Int.toNat (w (c-1))) (f.getD c.toNat 0)),o,p,q,s,(w (c-1))))
 else none
 else none
 else none
 else none
 else
 some (Sum.inr (f,o,p,q,s))) fun t=>
 bif (decide (h<e))then
 bif (decide (0≤e)&&decide (e<(g.length:Int)))then
 bif (decide (0≤(w (e-1)))&&decide ((w (e-1))<(g.length:Int)))then
 (j (g.getD e.toNat 0) (g.getD (Int.toNat (w (e-1))) 0)).bind fun r=>
 t (g,h,m,j,n,e,(decide (r<0)))
 else none
 else none
 else
 t (g,h,m,j,n,e,false)) (k,u,l,v,i,i)).bind fun((y,z,aa,ab,ac):ub14×Int×Int×(Int→Int→Option Int)×Int)=>
 some (Sum.inl (y,z,aa,ab,(w (ac+1))))
 else
 some (Sum.inr k)) (data,a,b,cmp,(w (a+1)))).bind fun(ae:List Int)=>
 some ae
def E190:=uqy 190 ⟨[(y23,(.io umad)),(y2,.sh),(y2,.sh),(y24,.bw)],[]⟩ d190 func190 call190 [] (uqs (.block (.loop ulas [(.brk 0,[ujbf])] (.seq upak (.seq (.block (uqs (.block (.loop [ujbf,(1,uqa),(2,uqa),(3,.v y24 .bw),(8,uqa),(9,uqa)] [(.brk 2,ulas)] (.seq (.join uqr [ujbf,(1,uqa),(2,uqa),(3,.v y24 .bw),(8,uqa),(9,uqa),(34,uqc)] upab) upap))))) uqr)))))
def d191(_x0:List Int)(_x1:Int)(_x2:Int)(_x3:(Int→Int→Option Int)):Option ub14:=none
def sg191:Sig:=⟨[(y23,(.io umad)),(y2,.sh),(y2,.sh),(y24,.bw)],[]⟩
def sim191:Sim prog 191 sg191 d191:=⟨call191,fun xs y h=>absurd (show(none:Option _)=some y from h) (by simp)⟩
def E191:FnE prog:=⟨191,sg191,d191,sim191⟩
def d192(_x0:List Int)(_x1:Int)(_x2:Int)(_x3:(Int→Int→Option Int)):Option ub14:=none
def sg192:Sig:=⟨[(y23,(.io umad)),(y2,.sh),(y2,.sh),(y24,.bw)],[]⟩
def sim192:Sim prog 192 sg192 d192:=⟨call192,fun xs y h=>absurd (show(none:Option _)=some y from h) (by simp)⟩
def E192:FnE prog:=⟨192,sg192,d192,sim192⟩
def d193(_x0:List Int)(_x1:Int)(_x2:Int)(_x3:(Int→Int→Option Int)):Option (Int×Int×ub14):=none
def sg193:Sig:=⟨[(y23,(.io umad)),(y2,.sh),(y2,.sh),(y24,.bw)],[(y2,.sh),(y2,.sh)]⟩
def sim193:Sim prog 193 sg193 d193:=⟨call193,fun xs y h=>absurd (show(none:Option _)=some y from h) (by simp)⟩
def E193:FnE prog:=⟨193,sg193,d193,sim193⟩
def d194(_x0:List Int)(_x1:Int)(_x2:Int)(_x3:(Int→Int→Option Int)):Option ub14:=none
def sg194:Sig:=⟨[(y23,(.io umad)),(y2,.sh),(y2,.sh),(y24,.bw)],[]⟩
def sim194:Sim prog 194 sg194 d194:=⟨call194,fun xs y h=>absurd (show(none:Option _)=some y from h) (by simp)⟩
def E194:FnE prog:=⟨194,sg194,d194,sim194⟩
def d195(_x0:List Int)(_x1:Int)(_x2:Int)(_x3:(Int→Int→Option Int)):Option (Bool×ub14):=none
def sg195:Sig:=⟨[(y23,(.io umad)),(y2,.sh),(y2,.sh),(y24,.bw)],[(y4,.sh)]⟩
def sim195:Sim prog 195 sg195 d195:=⟨call195,fun xs y h=>absurd (show(none:Option _)=some y from h) (by simp)⟩
def E195:FnE prog:=⟨195,sg195,d195,sim195⟩
def d196(_x0:List Int)(_x1:Int)(_x2:Int)(_x3:Int)(_x4:(Int→Int→Option Int)):Option (Int×ub14):=none
def sg196:Sig:=⟨[(y23,(.io umad)),(y2,.sh),(y2,.sh),(y2,.sh),(y24,.bw)],[(y2,.sh)]⟩
def sim196:Sim prog 196 sg196 d196:=⟨call196,fun xs y h=>absurd (show(none:Option _)=some y from h) (by simp)⟩
def E196:FnE prog:=⟨196,sg196,d196,sim196⟩
def d197(_x0:List Int)(_x1:Int)(_x2:Int)(_x3:Int)(_x4:(Int→Int→Option Int)):Option (Int×Bool×ub14):=none
def sg197:Sig:=⟨[(y23,(.io umad)),(y2,.sh),(y2,.sh),(y2,.sh),(y24,.bw)],[(y2,.sh),(y4,.sh)]⟩
def sim197:Sim prog 197 sg197 d197:=⟨call197,fun xs y h=>absurd (show(none:Option _)=some y from h) (by simp)⟩
def E197:FnE prog:=⟨197,sg197,d197,sim197⟩
def d161F(al:ub14→Int→Int→Int→(Int→Int→Option Int)→Option ub14)(p0:List Int)(p1:Int)(p2:Int)(p3:Int)(p4:(Int→Int→Option Int)):Option ub14:=
 (zad (β:=ub14) (fun((p,b,c,u,k,v,am):ub14×Int×Int×Int×(Int→Int→Option Int)×Bool×Bool)=>
 bif (decide ((w (c-b))≤12))then
 (d190 p b c k).bind fun r=>
 some (Sum.inr r)
 else
 bif (decide (u=0))then
 (d191 p b c k).bind fun bo=>
 some (Sum.inr bo)
 else
 letJ (fun((bp,l,m,an,q,ao,ap,aq):ub14×Int×Int×Int×(Int→Int→Option Int)×Bool×Bool×Int)=>
 (d193 bp l m q).bind fun g=>
 letJ (fun((x,y,z,aa,ab,s,t,ac,ae,bq):ub14×Int×Int×Int×(Int→Int→Option Int)×Bool×Bool×Int×Int×Int)=>
 letJ (fun((h,i,ar,au,af,av,ax,ay,n):ub14×Int×Int×Int×(Int→Int→Option Int)×Bool×Bool×Int×Int)=>
 letJ (fun((az,j,e,o,f,br,bs,ba,bb,bt):ub14×Int×Int×Int×(Int→Int→Option Int)×Bool×Bool×Int×Int×Bool)=>
 bif bt then
 (d196 az j e bb f).bind fun bc=>
 some (Sum.inl (bc.2,bc.1,e,o,f,br,bs))
 else
 (d197 az j e bb f).bind fun a=>
 bif (decide ((w (a.1-j))<(w (e-a.1))))then
 (al a.2.2 j a.1 o f).bind fun bu=>
 some (Sum.inl (bu,(w (a.1+1)),e,o,f,(decide ((w (Int.tdiv ba 8))≤(w (a.1-j)))),a.2.1))
 else
 (al a.2.2 (w (a.1+1)) e o f).bind fun bv=>
 some (Sum.inl (bv,j,a.1,o,f,(decide ((w (Int.tdiv ba 8))≤(w (e-a.1)))),a.2.1))) fun be=>
 bif (decide (0<i))then
 bif (decide (0≤(w (i-1)))&&decide ((w (i-1))<(h.length:Int)))then
 bif (decide (0≤n)&&decide (n<(h.length:Int)))then
 (af (h.getD (Int.toNat (w (i-1))) 0) (h.getD n.toNat 0)).bind fun bx=>
 be (h,i,ar,au,af,av,ax,ay,n,!(decide (bx<0)))
 else none
 else none
 else
 be (h,i,ar,au,af,av,ax,ay,n,false)) fun bf=>
 letJ (fun((bg,ag,ah,bh,ai,bi,bj,bk,bl,bz):ub14×Int×Int×Int×(Int→Int→Option Int)×Bool×Bool×Int×Int×Bool)=>
 bif bz then
 (d195 bg ag ah ai).bind fun aj=>
 bif aj.1 then
 some (Sum.inr aj.2)
 else
 bf (aj.2,ag,ah,bh,ai,bi,bj,bk,bl)
 else
 bf (bg,ag,ah,bh,ai,bi,bj,bk,bl)) fun ak=>
 bif s then
 bif t then
 ak (x,y,z,aa,ab,s,t,ac,ae,(decide (bq=1)))
 else
 ak (x,y,z,aa,ab,s,t,ac,ae,false)
 else
 ak (x,y,z,aa,ab,s,t,ac,ae,false)) fun bm=>
 bif (decide (g.2.1=2))then
 (d194 g.2.2 l m q).bind fun ca=>
 bm (ca,l,m,an,q,ao,ap,aq,(w ((w (m-1))-(w (g.1-l)))),1)
 else
 bm (g.2.2,l,m,an,q,ao,ap,aq,g.1,g.2.1)) fun bn=>
 bif !v then
 (d192 p b c k).bind fun cb=>
 bn (cb,b,c,(w (u-1)),k,v,am,(w (c-b)))
 else
 bn (p,b,c,u,k,v,am,(w (c-b)))) (p0,p1,p2,p3,p4,true,true)).bind fun(cc:List Int)=>
 some cc
def sg161:Sig:=⟨[(y23,(.io umad)),(y2,.sh),(y2,.sh),(y2,.sh),(y24,.bw)],[]⟩
def plan161:Plan:=(uqs (uqs (.block (.loop [(0,.v y23 (.own 3 .sh)),(1,uqa),(2,uqa),(3,uqa),(4,.v y24 .bw),(10,uqc),(11,uqc)] [(.ret,[(0,.v y23 (.own 3 .sh))])] (.block (uqs (.seq (uqs (.cond (uqs .nil) .nil)) (.seq (uqs (.cond (uqs .nil) .nil)) (.join (uqs (.cond (uqs uqr) .nil)) [(0,.v y23 (.own 3 .sh)),(1,uqa),(2,uqa),(3,uqa),(4,.v y24 .bw),(10,uqc),(11,uqc),(12,uqa)] (.seq (.reg [] [{},{},{},{},{},{fl:=1}]) (.join (uqs (.cond (uqs (uqs uqr)) .nil)) [(0,.v y23 (.own 3 .sh)),(1,uqa),(2,uqa),(3,uqa),(4,.v y24 .bw),(10,uqc),(11,uqc),(12,uqa),(13,uqa),(14,uqa)] (.join (.join uqr [(0,.v y23 (.own 3 .sh)),(1,uqa),(2,uqa),(3,uqa),(4,.v y24 .bw),(10,uqc),(11,uqc),(12,uqa),(13,uqa),(75,uqc)] (.cond (uqs (.cond .nil .nil)) .nil)) [(0,.v y23 (.own 3 .sh)),(1,uqa),(2,uqa),(3,uqa),(4,.v y24 .bw),(10,uqc),(11,uqc),(12,uqa),(13,uqa)] (.seq (.join uqr [(0,.v y23 (.own 3 .sh)),(1,uqa),(2,uqa),(3,uqa),(4,.v y24 .bw),(10,uqc),(11,uqc),(12,uqa),(13,uqa),(97,uqc)] (.cond (uqs (uqs .nil)) .nil)) (.seq (.reg [] [{},{},{},{},{},{},{fl:=1}]) (uqs (uqs (uqs (uqs (.cond (uqs (uqs uqr)) (uqs (uqs uqr)))))))))))))))))))))
def d161N:Nat→Arr (ptys sg161.ps) (Option (Ret sg161.res))
 | 0=>fun _ _ _ _ _=>none
 |k+1=>d161F (d161N k)
def ev161(g:Arr (ptys sg161.ps) (Option (Ret sg161.res)))(h:Sim prog 161 sg161 g)(xs:Vals (ptys sg161.ps)):evF (P:=prog) tab [.fn E190,.fn E191,.fn E192,.fn E193,.fn E194,.fn E195,.fn E196,.fn E197,.fn ⟨161,sg161,g,h⟩] sg161 Tryz.f161.results.toList (code Tryz.f161) plan161 xs=d161F g xs.1 xs.2.1 xs.2.2.1 xs.2.2.2.1 xs.2.2.2.2.1:=by kernel_rfl
def sim161N:∀k,Sim prog 161 sg161 (d161N k)
 | 0=>⟨call161,fun xs y h=>absurd (show(none:Option _)=some y from h) (by simp)⟩
 |k+1=>zow mixd tabOK func161 (zfw rfl) call161 (uqn (by kernel_rfl)) (by kernel_rfl) plan161 _ fun xs y h=>(ev161 _ (sim161N k) xs).trans h
def d161(p0:List Int)(p1:Int)(p2:Int)(p3:Int)(p4:(Int→Int→Option Int)):Option ub14:=d161N 2 p0 p1 p2 p3 p4
def sim161:Sim prog 161 sg161 d161:=sim161N 2
def E161:FnE prog:=⟨161,sg161,d161,sim161⟩
def d127(x:List Int)(cmp:(Int→Int→Option Int)):Option ub14:=
 (d160 (wu64 (x.length:Int))).bind fun r=>
 (d161 x 0 (x.length:Int) r cmp).bind fun a=>
 some a
def E127:=uqy 127 ⟨[(y23,(.io umad)),(y24,.bw)],[]⟩ d127 func127 call127 [.fn E160,.fn E161] upay
def d84(k:ub4)(votes:List Int)(quota:Int):Option ub14:=
 (d85 k 0).bind fun r=>
 (d100 r (fun a=>d126 a votes quota)).bind fun c=>
 (d127 c (fun e f=>d128 e f votes k)).bind fun b=>
 bif (zbs 0 (bif (decide ((w (k.1.2.2.2.1-k.2.2.2.2.2.2.1))<(b.length:Int)))then(w (k.1.2.2.2.1-k.2.2.2.2.2.2.1))else(b.length:Int)) b.length)then
 some (List.take (Int.toNat (bif (decide ((w (k.1.2.2.2.1-k.2.2.2.2.2.2.1))<(b.length:Int)))then(w (k.1.2.2.2.1-k.2.2.2.2.2.2.1))else(b.length:Int))) b)
 else none
def E84:=uqy 84 ⟨[(y71,.bw),(y23,.bw),(y2,.sh)],[(y23,umad)]⟩ d84 func84 call84 [.fn E85,.fn E100,.fn E126,.fn E127,.fn E128] (uqs (uqs upai))
end
end Go.Proofs.YtfgjbkjddcjlfaaGreat
