/- Part 11 of what stands below the statement. -/
import Derived.Test.YtmipjomnjkmdbaaGreatZ10
open Go Go.Proofs Go.X
namespace Go.Proofs.YtmipjomnjkmdbaaGreat
set_option linter.unusedVariables false
set_option maxRecDepth 100000
noncomputable section
abbrev uc10:=(Bool×(List Bool×List Bool))
abbrev uc11:=(Bool×(List Int×List Int))
abbrev uc4:=(List uc11×(List uc11×(uc11×(uc11×(uc11×(List Int×(List Int×List Int)))))))
abbrev uc2:=(Int×(Int×(Int×(Int×(List uc4×List Int)))))
abbrev uc1:=(uc2×Int)
abbrev uc3:=(uc4×Int)
abbrev uc9:=(List uc11)
abbrev uc7:=(List uc9)
abbrev uc15:=(List Int×Int)
abbrev uc12:=(List uc15)
abbrev uc16:=(List Bool)
abbrev uc8:=(List uc16×(List Bool×List Int))
abbrev uc13:=(List uc16)
abbrev uc17:=(List Int)
abbrev uc6:=(List Int×(List uc17×(Int×(Int×(Int×(Int×(Int×(Int×Int))))))))
abbrev uc0:=(uc12×uc17×uc6×uc2×Int×Int×uc2×uc17×uc8×uc9)
abbrev uc5:=(uc6×(List uc15×(List Int×(List Bool×List uc9))))
abbrev uc14:=(List uc17)
abbrev uc18:=uc12×uc17×uc6×uc2×Int×Int×uc2×uc17×uc8×uc9×uc13×uc16×uc4×uc16×uc16×Int
abbrev uc19:=uc12×uc17×uc6×uc2×Int×Int×uc2×uc17×uc8×uc9×uc13×uc16×uc4×Int×Bool
abbrev uc20:=uc12×uc17×uc6×uc2×Int×Int×uc2×uc17×uc8×uc9
abbrev uc21:=Int×Int×uc6×uc17×uc14×Int×Int×Int
theorem sim89:Sim Tryz.prog 89 sg89 d89:=sim_ev mixd tabOK Tryz.func89 (zab rfl) Tryz.call89 (uqn (by kernel_rfl)) (by kernel_rfl) plan89 _ fun xs y h=>(ev89 xs).trans h
def E89:FnE Tryz.prog:=⟨89,sg89,d89,sim89⟩
def d147(rule:Int)(tied:List Int)(lots:List Int):Option Bool:=
 letJ (fun((c,e):uc17×Bool)=>
   bif e then
    some false
   else
    (zaa (β:=Unit⊕Bool) (fun((b,i):uc17×Int)=>
      bif (decide (i<(b.length:Int)))then
       bif (decide (0≤(w (i-1)))&&decide ((w (i-1))<(b.length:Int)))then
        bif (decide (0≤i)&&decide (i<(b.length:Int)))then
         bif (decide ((List.getD b (Int.toNat i) 0)≤(List.getD b (Int.toNat (w (i-1))) 0)))then
          some (Sum.inr (Sum.inr false))
         else
          some (Sum.inl (b,(w (i+1))))
        else none
       else none
      else
       some (Sum.inr (Sum.inl ()))) (c,1)).bind fun
    |Sum.inl _=>
     some true
    |Sum.inr f=>
     some f) fun a=>
 bif !(decide (rule<1))then
  bif !(decide (3<rule))then
   bif !(decide ((lots.length:Int)<1))then
    bif !(decide (7<(lots.length:Int)))then
     (d71 (lots.length:Int) lots).bind fun r=>
     bif !(!r)then
      bif !(decide ((tied.length:Int)=0))then
       (d32 (lots.length:Int) tied).bind fun g=>
       a (tied,!g)
      else
       a (tied,true)
     else
      a (tied,true)
    else
     a (tied,true)
   else
    a (tied,true)
  else
   a (tied,true)
 else
  a (tied,true)
def sg147:Sig:=⟨[(y2,.sh),(y26,.bw),(y26,.bw)],[(y4,.sh)]⟩
theorem sim147:Sim Tryz.prog 147 sg147 d147:=uqz Tryz.func147 (zab rfl) Tryz.call147 (by kernel_rfl) (by kernel_rfl) [.fn E71,.fn E32] (uqs (.seq (.join uqr [(1,uqb),(42,uqc)] (.cond (uqs .nil) .nil)) (.seq (uqs (.block (.loop [(1,uqb),(7,uqa)] [(.brk 0,[]),(.ret,[(6,uqc)])] (.seq (uqs (.cond .nil .nil)) (.seq (.block (uqs (.cond (uqs .nil) .nil))) uqr))))) (uqs .nil)))) fun xs=>by kernel_rfl
def E147:FnE Tryz.prog:=⟨147,sg147,d147,sim147⟩
def d183(votes:List uc11)(c:Int):Option uc11:=
 bif (decide (c<(votes.length:Int)))then
 bif (decide (0≤c)&&decide (c<(votes.length:Int)))then
 some (List.getD votes (Int.toNat c) (false,[],[]))
 else none
 else
 (d39 0).bind fun r=>
 some r
def sg183:Sig:=⟨[(y53,.sh),(y2,.sh)],[(y57,.sh)]⟩
theorem sim183:Sim Tryz.prog 183 sg183 d183:=uqz Tryz.func183 (zab rfl) Tryz.call183 (by kernel_rfl) (by kernel_rfl) [.fn E39] (uqs (.seq (uqs (.cond (uqs .nil) .nil)) (uqs .nil))) fun xs=>by kernel_rfl
def E183:FnE Tryz.prog:=⟨183,sg183,d183,sim183⟩
def d211(a:uc11):Option Bool:=
 bif !a.1 then
 bif (decide ((a.2.1.length:Int)≤1))then
 bif (decide ((a.2.2.length:Int)=1))then
 bif (decide (0≤0)&&decide (0<(a.2.2.length:Int)))then
 some (decide (0<(List.getD a.2.2 0 0)))
 else none
 else
 some false
 else
 some false
 else
 some false
def sg211:Sig:=⟨[(y57,.bw)],[(y4,.sh)]⟩
theorem sim211:Sim Tryz.prog 211 sg211 d211:=uqz Tryz.func211 (zab rfl) Tryz.call211 (by kernel_rfl) (by kernel_rfl) [] (uqs (uqs .nil)) fun xs=>by kernel_rfl
def E211:FnE Tryz.prog:=⟨211,sg211,d211,sim211⟩
def d212(a:uc11)(b:uc11):Option Int:=
 bif (decide ((a.2.1.length:Int)=0))then
 some 0
 else
 bif (decide (0≤0)&&decide (0<(a.2.1.length:Int)))then
 bif (decide (0≤0)&&decide (0<(b.2.2.length:Int)))then
 some (wu64 ((wu64 (List.getD a.2.1 0 0))*(wu64 (List.getD b.2.2 0 0))))
 else none
 else none
def sg212:Sig:=⟨[(y57,.bw),(y57,.bw)],[(y12,.sh)]⟩
theorem sim212:Sim Tryz.prog 212 sg212 d212:=uqz Tryz.func212 (zab rfl) Tryz.call212 (by kernel_rfl) (by kernel_rfl) [] (uqs (.seq (uqs (.cond (uqs .nil) .nil)) (uqs .nil))) fun xs=>by kernel_rfl
def E212:FnE Tryz.prog:=⟨212,sg212,d212,sim212⟩
def d182(a:uc11)(b:uc11):Option Int:=
 letJ (fun((c,e,i):uc11×uc11×Bool)=>
 bif i then
 (d34 c).bind fun j=>
 (d34 e).bind fun k=>
 (d36 j k).bind fun l=>
 some l
 else
 (d212 c e).bind fun f=>
 (d212 e c).bind fun g=>
 bif (decide (f<g))then
 some (-1)
 else
 bif (decide (g<f))then
 some 1
 else
 some 0) fun h=>
 (d211 a).bind fun r=>
 bif !(!r)then
 (d211 b).bind fun m=>
 h (a,b,!m)
 else
 h (a,b,true)
def sg182:Sig:=⟨[(y57,.bw),(y57,.bw)],[(y2,.sh)]⟩
theorem sim182:Sim Tryz.prog 182 sg182 d182:=uqz Tryz.func182 (zab rfl) Tryz.call182 (by kernel_rfl) (by kernel_rfl) [.fn E211,.fn E34,.fn E36,.fn E212] (uqs (.seq (.join uqr [(2,.v (.ptr y57) (.own 0 .bw)),(3,.v (.ptr y57) (.own 0 .bw)),(14,uqc)] (.cond (uqs .nil) .nil)) (uqs (.seq (.block (uqs (.cond (uqs .nil) (uqs (.cond (uqs .nil) .nil))))) (uqs .nil))))) fun xs=>by kernel_rfl
def E182:FnE Tryz.prog:=⟨182,sg182,d182,sim182⟩
def d148(votes:List uc11)(l:List Int)(least:Bool):Option uc17:=
 (zaa (β:=uc17) (fun((ab,o,ac,out,i):uc9×uc17×Bool×uc17×Int)=>
 bif (decide (i<(o.length:Int)))then
 letJ (fun((ae,af,ag,ah,ai):uc9×uc17×Bool×uc17×Int)=>
 some (Sum.inl (ae,af,ag,ah,(w (ai+1))))) fun p=>
 (zaa (β:=(uc9×uc17×Bool×uc17×Int×Bool)) (fun((e,a,b,f,c,best,k):uc9×uc17×Bool×uc17×Int×Bool×Int)=>
 bif (decide (k<(a.length:Int)))then
 letJ (fun((aj,ak,al,am,an,ao,ap):uc9×uc17×Bool×uc17×Int×Bool×Int)=>
 some (Sum.inl (aj,ak,al,am,an,ao,(w (ap+1))))) fun q=>
 bif (decide (0≤k)&&decide (k<(a.length:Int)))then
 (d183 e (List.getD a (Int.toNat k) 0)).bind fun r=>
 bif (decide (0≤c)&&decide (c<(a.length:Int)))then
 (d183 e (List.getD a (Int.toNat c) 0)).bind fun aq=>
 (d182 r aq).bind fun m=>
 letJ (fun((s,t,u,v,x,ar,y,au):uc9×uc17×Bool×uc17×Int×Bool×Int×Bool)=>
 bif au then
 q (s,t,u,v,x,false,y)
 else
 q (s,t,u,v,x,ar,y)) fun h=>
 bif b then
 bif !(decide (m<0))then
 bif !b then
 h (e,a,b,f,c,best,k,(decide (0<m)))
 else
 h (e,a,b,f,c,best,k,false)
 else
 h (e,a,b,f,c,best,k,true)
 else
 bif !b then
 h (e,a,b,f,c,best,k,(decide (0<m)))
 else
 h (e,a,b,f,c,best,k,false)
 else none
 else none
 else
 some (Sum.inr (e,a,b,f,c,best))) (ab,o,ac,out,i,true,0)).bind fun((z,j,aa,n,g,av):uc9×uc17×Bool×uc17×Int×Bool)=>
 bif av then
 bif (decide (0≤g)&&decide (g<(j.length:Int)))then
 bif (decide ((n.length:Int)+(([(List.getD j (Int.toNat g) 0)]:List Int).length:Int)≤LIM))then
 p (z,j,aa,(n++[(List.getD j (Int.toNat g) 0)]),g)
 else none
 else none
 else
 p (z,j,aa,n,g)
 else
 some (Sum.inr out)) (votes,l,least,[],0)).bind fun(ax:List Int)=>
 some ax
def sg148:Sig:=⟨[(y53,.sh),(y26,.bw),(y4,.sh)],[(y26,(.own 3 .sh))]⟩
theorem sim148:Sim Tryz.prog 148 sg148 d148:=uqz Tryz.func148 (zab rfl) Tryz.call148 (by kernel_rfl) (by kernel_rfl) [.fn E183,.fn E182] (uqs (.seq (.reg [] [{fl:=2}]) (.seq (uqs (.block (.loop [(0,.v y53 .sh),(1,uqb),(2,uqc),(7,uqd),(8,uqa)] [(.brk 0,[(7,uqd)])] (.seq (uqs (.cond .nil .nil)) (.join (.block (uqs (.seq (uqs (.block (.loop [(0,.v y53 .sh),(1,uqb),(2,uqc),(7,uqd),(8,uqa),(9,uqc),(10,uqa)] [(.brk 2,[(0,.v y53 .sh),(1,uqb),(2,uqc),(7,uqd),(8,uqa),(9,uqc)])] (.seq (uqs (.cond .nil .nil)) (.join (.block (uqs (.join uqr [(0,.v y53 .sh),(1,uqb),(2,uqc),(7,uqd),(8,uqa),(9,uqc),(10,uqa),(49,uqc)] (.cond uqr .nil)))) [(0,.v y53 .sh),(1,uqb),(2,uqc),(7,uqd),(8,uqa),(9,uqc),(10,uqa)] uqr))))) (uqs (.cond uqr .nil))))) [(0,.v y53 .sh),(1,uqb),(2,uqc),(7,uqd),(8,uqa)] uqr))))) (uqs .nil)))) fun xs=>by kernel_rfl
def E148:FnE Tryz.prog:=⟨148,sg148,d148,sim148⟩
def d149(p:List Int)(x:Int):Option Int:=
 (zaa (β:=uc17⊕Int) (fun((a,b,i):uc17×Int×Int)=>
   bif (decide (i<(a.length:Int)))then
    bif (decide (0≤i)&&decide (i<(a.length:Int)))then
     bif (decide ((List.getD a (Int.toNat i) 0)=b))then
      some (Sum.inr (Sum.inr i))
     else
      some (Sum.inl (a,b,(w (i+1))))
    else none
   else
    some (Sum.inr (Sum.inl a))) (p,x,0)).bind fun
 |Sum.inl c=>
  some (c.length:Int)
 |Sum.inr e=>
  some e
def sg149:Sig:=⟨[(y26,.bw),(y2,.sh)],[(y2,.sh)]⟩
theorem sim149:Sim Tryz.prog 149 sg149 d149:=uqz Tryz.func149 (zab rfl) Tryz.call149 (by kernel_rfl) (by kernel_rfl) [] (uqs (.seq (uqs (.block (.loop [(0,uqb),(1,uqa),(5,uqa)] [(.brk 0,[(0,uqb)]),(.ret,[(4,uqa)])] (.seq (uqs (.cond .nil .nil)) (.seq (.block (uqs (.cond (uqs .nil) .nil))) uqr))))) (uqs .nil))) fun xs=>by kernel_rfl
def E149:FnE Tryz.prog:=⟨149,sg149,d149,sim149⟩
def d88(p0:Int)(p1:List uc9)(p2:List Int)(p3:List Int)(p4:Bool):Option (Int×Bool):=
 (d147 p0 p2 p3).bind fun r=>
 bif !r then
 some ((-1),false)
 else
 (zaa (β:=(uc17×Bool×uc17)) (fun((h,i,v,x,y,j):Int×uc7×uc17×Bool×uc17×Int)=>
 letJ (fun((k,l,m,n,o,e,ah):Int×uc7×uc17×Bool×uc17×Int×Bool)=>
 bif ah then
 letJ (fun((ai,aj,ak,al,am,an):Int×uc7×uc17×Bool×uc17×Int)=>
 some (Sum.inl (ai,aj,ak,al,am,(w (an+1))))) fun z=>
 letJ (fun((aa,f,ab,p,q,ac,s):Int×uc7×uc17×Bool×uc17×Int×Int)=>
 bif (decide (1<(q.length:Int)))then
 bif (decide (0≤s)&&decide (s<(f.length:Int)))then
 (d148 (List.getD f (Int.toNat s) []) q p).bind fun ao=>
 z (aa,f,ab,p,ao,ac)
 else none
 else
 z (aa,f,ab,p,q,ac)) fun ae=>
 bif (decide (k=1))then
 ae (k,l,m,n,o,e,(w ((w ((l.length:Int)-1))-e)))
 else
 ae (k,l,m,n,o,e,e)
 else
 some (Sum.inr (m,n,o))) fun af=>
 bif (decide (j<(i.length:Int)))then
 af (h,i,v,x,y,j,!(decide (h=3)))
 else
 af (h,i,v,x,y,j,false)) (p0,p1,p3,p4,p2,0)).bind fun((ap,aq,c):uc17×Bool×uc17)=>
 bif (decide ((c.length:Int)=1))then
 bif (decide (0≤0)&&decide (0<(c.length:Int)))then
 some ((List.getD c 0 0),false)
 else none
 else
 bif (decide (0≤0)&&decide (0<(c.length:Int)))then
 (zaa (β:=Int) (fun((g,t,b,u,a):uc17×Bool×uc17×Int×Int)=>
 bif (decide (a<(b.length:Int)))then
 letJ (fun((ar,au,av,ax,ay):uc17×Bool×uc17×Int×Int)=>
 some (Sum.inl (ar,au,av,ax,(w (ay+1))))) fun ag=>
 bif (decide (0≤a)&&decide (a<(b.length:Int)))then
 (d149 g (List.getD b (Int.toNat a) 0)).bind fun az=>
 (d149 g u).bind fun ba=>
 bif ((decide (ba<az)) == t)then
 bif (decide (0≤a)&&decide (a<(b.length:Int)))then
 ag (g,t,b,(List.getD b (Int.toNat a) 0),a)
 else none
 else
 ag (g,t,b,u,a)
 else none
 else
 some (Sum.inr u)) (ap,aq,c,(List.getD c 0 0),1)).bind fun(bb:Int)=>
 some (bb,true)
 else none
def sg88:Sig:=⟨[(y2,.sh),(y96,.sh),(y26,.sh),(y26,.bw),(y4,.sh)],[(y2,.sh),(y4,.sh)]⟩
theorem sim88:Sim Tryz.prog 88 sg88 d88:=uqz Tryz.func88 (zab rfl) Tryz.call88 (by kernel_rfl) (by kernel_rfl) [.fn E147,.fn E148,.fn E149] (uqs (.seq (uqs (.cond (uqs .nil) .nil)) (uqs (.seq (uqs (.block (.loop [(0,uqa),(1,.v y96 .sh),(3,uqb),(4,uqc),(12,uqf),(13,uqa)] [(.brk 0,[(3,uqb),(4,uqc),(12,uqf)])] (.seq (.join uqr [(0,uqa),(1,.v y96 .sh),(3,uqb),(4,uqc),(12,uqf),(13,uqa),(30,uqc)] (.cond .nil .nil)) (.join (.post (.block (uqs (.join (uqs (.cond uqr .nil)) [(0,uqa),(1,.v y96 .sh),(3,uqb),(4,uqc),(12,uqf),(13,uqa),(14,uqa)] (uqs (.cond uqr .nil))))) [(12,[])]) [(0,uqa),(1,.v y96 .sh),(3,uqb),(4,uqc),(12,uqf),(13,uqa)] uqr))))) (.seq (uqs (.cond (uqs .nil) .nil)) (uqs (.seq (uqs (.block (.loop [(3,uqb),(4,uqc),(12,uqf),(15,uqa),(16,uqa)] [(.brk 2,[(15,uqa)])] (.seq (uqs (.cond .nil .nil)) (.join (.block (uqs (.cond uqr .nil))) [(3,uqb),(4,uqc),(12,uqf),(15,uqa),(16,uqa)] uqr))))) (uqs .nil)))))))) fun xs=>by kernel_rfl
def E88:FnE Tryz.prog:=⟨88,sg88,d88,sim88⟩
def d150(p:List Int)(state:List Int)(k:Int):Option Int:=
 (zaa (β:=Int) (fun((b,c,a):uc17×uc17×Int)=>
 letJ (fun((g,h,e,i):uc17×uc17×Int×Bool)=>
 bif i then
 some (Sum.inl (g,h,(w (e+1))))
 else
 some (Sum.inr e)) fun f=>
 bif (decide (a<(b.length:Int)))then
 bif (decide (0≤a)&&decide (a<(b.length:Int)))then
 bif (decide (0≤(List.getD b (Int.toNat a) 0))&&decide ((List.getD b (Int.toNat a) 0)<(c.length:Int)))then
 f (b,c,a,!(decide ((List.getD c (Int.toNat (List.getD b (Int.toNat a) 0)) 0)=0)))
 else none
 else none
 else
 f (b,c,a,false)) (p,state,k)).bind fun(j:Int)=>
 some j
def d90(p0:uc8)(p1:List uc15)(p2:List Int)(p3:Int)(p4:List Bool)(p5:List Bool):Option uc8:=
 (d77 p0.2.1 p5).bind fun r=>
 (zaa (β:=(uc8×uc8)) (fun((f,n,h,o,p,g,i,j,a):uc12×uc17×Int×uc16×uc16×uc8×uc8×uc8×Int)=>
 bif (decide (a<(f.length:Int)))then
 letJ (fun((aa,ab,ac,ae,af,ag,ah,ai,aj):uc12×uc17×Int×uc16×uc16×uc8×uc8×uc8×Int)=>
 some (Sum.inl (aa,ab,ac,ae,af,ag,ah,ai,(w (aj+1))))) fun q=>
 bif (decide (0≤a)&&decide (a<(f.length:Int)))then
 letJ (fun((s,k,t,l,m,c,u,e,b,ak,al):uc12×uc17×Int×uc16×uc16×uc8×uc8×uc8×Int×uc17×Bool)=>
 bif al then
 bif (decide (0≤b)&&decide (b<(c.1.length:Int)))then
 (d77 (List.getD c.1 (Int.toNat b) []) l).bind fun v=>
 bif (decide ((e.1.length:Int)+(([v]:List uc16).length:Int)≤LIM))then
 bif (decide (0≤b)&&decide (b<(c.2.2.length:Int)))then
 (d150 ak k (w ((List.getD c.2.2 (Int.toNat b) 0)+1))).bind fun x=>
 bif (decide ((e.2.2.length:Int)+(([x]:List Int).length:Int)≤LIM))then
 q (s,k,t,l,m,c,u,((e.1++[v]),e.2.1,(e.2.2++[x])),b)
 else none
 else none
 else none
 else none
 else
 bif (decide (0≤b)&&decide (b<(c.1.length:Int)))then
 (d77 (List.getD c.1 (Int.toNat b) []) m).bind fun y=>
 bif (decide ((e.1.length:Int)+(([y]:List uc16).length:Int)≤LIM))then
 bif (decide (0≤b)&&decide (b<(c.2.2.length:Int)))then
 bif (decide ((e.2.2.length:Int)+(([(List.getD c.2.2 (Int.toNat b) 0)]:List Int).length:Int)≤LIM))then
 q (s,k,t,l,m,c,u,((e.1++[y]),e.2.1,(e.2.2++[(List.getD c.2.2 (Int.toNat b) 0)])),b)
 else none
 else none
 else none
 else none) fun z=>
 bif (decide (0≤a)&&decide (a<(g.2.2.length:Int)))then
 bif (decide ((List.getD g.2.2 (Int.toNat a) 0)<(((List.getD f (Int.toNat a) ([],0)).1).length:Int)))then
 bif (decide (0≤a)&&decide (a<(g.2.2.length:Int)))then
 bif (decide (0≤(List.getD g.2.2 (Int.toNat a) 0))&&decide ((List.getD g.2.2 (Int.toNat a) 0)<(((List.getD f (Int.toNat a) ([],0)).1).length:Int)))then
 z (f,n,h,o,p,g,i,j,a,(List.getD f (Int.toNat a) ([],0)).1,(decide ((List.getD ((List.getD f (Int.toNat a) ([],0)).1) (Int.toNat (List.getD g.2.2 (Int.toNat a) 0)) 0)=h)))
 else none
 else none
 else
 z (f,n,h,o,p,g,i,j,a,(List.getD f (Int.toNat a) ([],0)).1,false)
 else none
 else none
 else
 some (Sum.inr (i,j))) (p1,p2,p3,p4,p5,p0,([],[],[]),([],r,[]),0)).bind fun((an,am):uc8×uc8)=>
 some am
def d28(p0:uc6)(p1:List uc15)(p2:List Int):Option uc1:=
 (d23 3 p0 p1 p2).bind fun r=>
 bif !(decide (r=0))then
 some ((0,0,0,0,[],[]),r)
 else
 (d74 p1).bind fun gm=>
 (d73 gm p0.2.2.2.1).bind fun gn=>
 bif (decide ((p0.2.1.length:Int)=(p0.2.1.length:Int))&&(decide (0≤(p0.2.1.length:Int))&&decide ((p0.2.1.length:Int)≤LIM)))then
 (d75 1).bind fun go=>
 (zaa (β:=uc0) (fun((bp,bq,br,bs,ao,bt,bu,bv,bx,ap,bz):uc12×uc17×uc6×uc2×Int×Int×uc2×uc17×uc8×uc9×Int)=>
 bif (decide (bz<ao))then
 (d39 1).bind fun ca=>
 bif (decide ((ap.length:Int)+(([ca]:List uc11).length:Int)≤LIM))then
 some (Sum.inl (bp,bq,br,bs,ao,bt,bu,bv,bx,(ap++[ca]),(w (bz+1))))
 else none
 else
 some (Sum.inr (bp,bq,br,bs,ao,bt,bu,bv,bx,ap))) (p1,p2,p0,(0,0,0,0,[],[]),(p0.2.1.length:Int),gn,(3,p0.2.2.2.1,0,(p0.2.1.length:Int),[],[]),(List.replicate (Int.toNat (p0.2.1.length:Int)) 0),([],go,[]),[],0)).bind fun((gp,gq,gr,gs,gt,gu,gv,gx,gy,gz):uc20)=>
 (zaa (β:=uc0) (fun((aq,cb,cc,ce,cf,cg,ch,ci,n,cj,ck):uc12×uc17×uc6×uc2×Int×Int×uc2×uc17×uc8×uc9×Int)=>
 bif (decide (ck<(aq.length:Int)))then
 (d75 1).bind fun cl=>
 bif (decide ((n.1.length:Int)+(([cl]:List uc16).length:Int)≤LIM))then
 bif (decide ((n.2.2.length:Int)+(([0]:List Int).length:Int)≤LIM))then
 some (Sum.inl (aq,cb,cc,ce,cf,cg,ch,ci,((n.1++[cl]),n.2.1,(n.2.2++[0])),cj,(w (ck+1))))
 else none
 else none
 else
 some (Sum.inr (aq,cb,cc,ce,cf,cg,ch,ci,n,cj))) (gp,gq,gr,gs,gt,gu,gv,gx,gy,gz,0)).bind fun((ha,hb,hc,he,hf,hg,hh,hi,hj,hk):uc20)=>
 (zaa (β:=uc1) (fun((cm,hl,hm,hn,ho,y,hp,cn,ar,au):uc20)=>
 (d76 ar cm cn y).bind fun hq=>
 (d75 y).bind fun hr=>
 (d77 hr ar.2.1).bind fun hs=>
 (d39 y).bind fun ht=>
 bif (decide ((([]:List uc11).length:Int)+(au.length:Int)≤LIM))then
 (d75 0).bind fun hu=>
 (d75 0).bind fun hv=>
 (zaa (β:=(uc12×uc17×uc6×uc2×Int×Int×uc2×uc17×uc8×uc9×uc13×uc16×uc4×uc16×uc16)) (fun((av,ax,ay,az,z,ba,bb,t,aa,bc,f,ab,o,co,be,b):uc18)=>
 bif (decide (b<z))then
 letJ (fun((hx,hy,hz,ia,ib,ic,ie,ig,ih,ii,ij,ik,il,im,io,ip):uc18)=>
 some (Sum.inl (hx,hy,hz,ia,ib,ic,ie,ig,ih,ii,ij,ik,il,im,io,(w (ip+1))))) fun cp=>
 bif (decide (0≤b)&&decide (b<(f.length:Int)))then
 (d78 (List.getD f (Int.toNat b) []) aa.2.1).bind fun bf=>
 bif (decide ((o.1.length:Int)+(([bf]:List uc11).length:Int)≤LIM))then
 bif (decide (0≤b)&&decide (b<(f.length:Int)))then
 (d79 co (List.getD f (Int.toNat b) [])).bind fun cq=>
 letJ (fun((cr,cs,ct,cu,cv,cx,cy,ac,cz,ea,ae,bg,eb,ec,ee,g):uc18)=>
 bif (decide (0≤g)&&decide (g<(ac.length:Int)))then
 bif (decide ((List.getD ac (Int.toNat g) 0)=1))then
 bif (decide (0≤g)&&decide (g<(ae.length:Int)))then
 (d82 (List.getD ae (Int.toNat g) []) bg).bind fun iq=>
 (d79 ee iq).bind fun ir=>
 cp (cr,cs,ct,cu,cv,cx,cy,ac,cz,ea,ae,bg,eb,ec,ir,g)
 else none
 else
 cp (cr,cs,ct,cu,cv,cx,cy,ac,cz,ea,ae,bg,eb,ec,ee,g)
 else none) fun ef=>
 letJ (fun((eg,eh,ei,ej,ek,el,em,bh,en,eo,ep,eq,h,er,es,p,it):uc12×uc17×uc6×uc2×Int×Int×uc2×uc17×uc8×uc9×uc13×uc16×uc4×uc16×uc16×Int×Bool)=>
 bif it then
 bif (decide (0≤p)&&decide (p<(bh.length:Int)))then
 (d81 h.2.2.2.2.2.1 p).bind fun iu=>
 ef (eg,eh,ei,ej,ek,el,em,(List.set bh (Int.toNat p) 1),en,eo,ep,eq,(h.1,h.2.1,h.2.2.1,h.2.2.2.1,h.2.2.2.2.1,iu,h.2.2.2.2.2.2),er,es,p)
 else none
 else
 ef (eg,eh,ei,ej,ek,el,em,bh,en,eo,ep,eq,h,er,es,p)) fun et=>
 bif (decide (0≤b)&&decide (b<(t.length:Int)))then
 bif (decide ((List.getD t (Int.toNat b) 0)=0))then
 bif (decide (0≤b)&&decide (b<(f.length:Int)))then
 (d80 (List.getD f (Int.toNat b) []) ab).bind fun iv=>
 et (av,ax,ay,az,z,ba,bb,t,aa,bc,f,ab,((o.1++[bf]),o.2),cq,be,b,(decide (0≤iv)))
 else none
 else
 et (av,ax,ay,az,z,ba,bb,t,aa,bc,f,ab,((o.1++[bf]),o.2),cq,be,b,false)
 else none
 else none
 else none
 else none
 else
 some (Sum.inr (av,ax,ay,az,z,ba,bb,t,aa,bc,f,ab,o,co,be))) (cm,hl,hm,hn,ho,y,hp,cn,ar,au,hq,hs,([],au,ht,(false,[],[]),(false,[],[]),[],[],[]),hu,hv,0)).bind fun((bi,eu,af,ev,ex,ey,ez,u,v,fa,fb,fc,i,ix,iy):uc12×uc17×uc6×uc2×Int×Int×uc2×uc17×uc8×uc9×uc13×uc16×uc4×uc16×uc16)=>
 (d83 bi).bind fun iz=>
 (d75 iz).bind fun ja=>
 (d77 ja v.2.1).bind fun jb=>
 (d82 jb ix).bind fun jc=>
 (d78 jc v.2.1).bind fun fe=>
 (d78 iy v.2.1).bind fun ff=>
 (d84 u 1).bind fun ag=>
 (d84 u 2).bind fun ah=>
 letJ (fun((fg,fh,bj,ai,fi,fj,aj,ak,fk,fl,fm,fn,e,je,jf):uc19)=>
 bif jf then
 letJ (fun((kh,c,bk):uc2×uc2×uc4)=>
 bif (decide ((c.2.2.2.2.1.length:Int)+(([bk]:List uc4).length:Int)≤LIM))then
 (d86 (c.1,c.2.1,c.2.2.1,c.2.2.2.1,(c.2.2.2.2.1++[bk]),c.2.2.2.2.2)).bind fun jg=>
 some (Sum.inr ((c.1,c.2.1,c.2.2.1,c.2.2.2.1,(c.2.2.2.2.1++[bk]),jg),0))
 else none) fun fo=>
 bif (decide (je<bj.2.2.2.1))then
 (d85 e.2.2.2.2.2.1 ak).bind fun jh=>
 fo (ai,aj,(e.1,e.2.1,e.2.2.1,e.2.2.2.1,e.2.2.2.2.1,jh.1,e.2.2.2.2.2.2))
 else
 fo (ai,aj,e)
 else
 letJ (fun((fp,bl,bm,fq,fr,fs,l,bn,ft,fu,bo,fv,j,ji,al):uc19)=>
 (d87 bo bn ji al).bind fun x=>
 bif (decide (0≤0)&&decide (0<(x.length:Int)))then
 letJ (fun((am,fx,fy,fz,ga,gb,gc,q,ge,an,s,jj,k,jk,a):uc12×uc17×uc6×uc2×Int×Int×uc2×uc17×uc8×uc9×uc13×uc16×uc4×Bool×Int)=>
 letJ (fun((jl,jm,jn,jo,jp,jq,m,jr,js,jt,gf):uc12×uc17×uc6×uc2×Int×Int×uc2×uc17×uc8×uc9×uc4)=>
 bif (decide ((m.2.2.2.2.1.length:Int)+(([gf]:List uc4).length:Int)≤LIM))then
 some (Sum.inl (jl,jm,jn,jo,jp,jq,(m.1,m.2.1,m.2.2.1,m.2.2.2.1,(m.2.2.2.2.1++[gf]),m.2.2.2.2.2),jr,js,jt))
 else none) fun gg=>
 bif jk then
 bif (decide (0≤a)&&decide (a<(s.length:Int)))then
 (d82 (List.getD s (Int.toNat a) []) jj).bind fun gh=>
 bif (decide (0≤a)&&decide (a<(s.length:Int)))then
 (d78 gh (List.getD s (Int.toNat a) [])).bind fun ju=>
 bif (decide (0≤a)&&decide (a<(q.length:Int)))then
 bif (decide (0≤a)&&decide (a<(an.length:Int)))then
 bif (decide (0≤a)&&decide (a<(s.length:Int)))then
 (d90 ge am (List.set q (Int.toNat a) 2) a gh (List.getD s (Int.toNat a) [])).bind fun jv=>
 gg (am,fx,fy,fz,ga,gb,gc,(List.set q (Int.toNat a) 2),jv,(List.set an (Int.toNat a) ju),k)
 else none
 else none
 else none
 else none
 else none
 else
 (d39 0).bind fun jx=>
 bif (decide (0≤a)&&decide (a<(q.length:Int)))then
 bif (decide (0≤a)&&decide (a<(an.length:Int)))then
 (d75 1).bind fun jy=>
 (d75 1).bind fun jz=>
 (d90 ge am (List.set q (Int.toNat a) 3) a jy jz).bind fun ka=>
 gg (am,fx,fy,fz,ga,gb,gc,(List.set q (Int.toNat a) 3),ka,(List.set an (Int.toNat a) jx),(k.1,k.2.1,k.2.2.1,k.2.2.2.1,k.2.2.2.2.1,k.2.2.2.2.2.1,[a],k.2.2.2.2.2.2.2))
 else none
 else none) fun gi=>
 bif (decide (1<(x.length:Int)))then
 (d89 l.2.2.2.2.1).bind fun gj=>
 (d88 bm.2.2.2.2.2.2.1 gj.1 x bl (!al)).bind fun kb=>
 gi (fp,bl,bm,fq,fr,fs,(l.1,l.2.1,l.2.2.1,l.2.2.2.1,gj.2,l.2.2.2.2.2),bn,ft,fu,bo,fv,(j.1,j.2.1,j.2.2.1,j.2.2.2.1,j.2.2.2.2.1,j.2.2.2.2.2.1,j.2.2.2.2.2.2.1,x),al,kb.1)
 else
 gi (fp,bl,bm,fq,fr,fs,l,bn,ft,fu,bo,fv,j,al,(List.getD x 0 0))
 else none) fun gk=>
 (d84 ak 1).bind fun kc=>
 bif (decide (0<kc))then
 gk (fg,fh,bj,ai,fi,fj,aj,ak,fk,fl,fm,fn,e,1,true)
 else
 gk (fg,fh,bj,ai,fi,fj,aj,ak,fk,fl,fm,fn,e,0,false)) fun gl=>
 bif !(decide ((w (ag+ah))=af.2.2.2.1))then
 (d84 u 0).bind fun ke=>
 gl (bi,eu,af,ev,ex,ey,ez,u,v,fa,fb,fc,(i.1,i.2.1,i.2.2.1,fe,ff,i.2.2.2.2.2),(w (ag+ah)),(decide ((w ((w (ag+ah))+ke))≤af.2.2.2.1)))
 else
 gl (bi,eu,af,ev,ex,ey,ez,u,v,fa,fb,fc,(i.1,i.2.1,i.2.2.1,fe,ff,i.2.2.2.2.2),(w (ag+ah)),true)
 else none) (ha,hb,hc,he,hf,hg,hh,hi,hj,hk)).bind fun((kf,kg):uc2×Int)=>
 some (kf,kg)
 else none
def d184(a:List uc11)(b:List uc11):Option Bool:=
 bif !(decide ((a.length:Int)=(b.length:Int)))then
  some false
 else
  (zaa (β:=Unit⊕Bool) (fun((c,e,i):uc9×uc9×Int)=>
    bif (decide (i<(c.length:Int)))then
     bif (decide (0≤i)&&decide (i<(c.length:Int)))then
      bif (decide (0≤i)&&decide (i<(e.length:Int)))then
       (d37 (List.getD c (Int.toNat i) (false,[],[])) (List.getD e (Int.toNat i) (false,[],[]))).bind fun r=>
       bif !r then
        some (Sum.inr (Sum.inr false))
       else
        some (Sum.inl (c,e,(w (i+1))))
      else none
     else none
    else
     some (Sum.inr (Sum.inl ()))) (a,b,0)).bind fun
  |Sum.inl _=>
   some true
  |Sum.inr f=>
   some f
def sg184:Sig:=⟨[(y53,.bw),(y53,.bw)],[(y4,.sh)]⟩
theorem sim184:Sim Tryz.prog 184 sg184 d184:=uqz Tryz.func184 (zab rfl) Tryz.call184 (by kernel_rfl) (by kernel_rfl) [.fn E37] (uqs (.seq (uqs (.cond (uqs .nil) .nil)) (.seq (uqs (.block (.loop [(0,.v y53 .bw),(1,.v y53 .bw),(5,uqa)] [(.brk 0,[]),(.ret,[(4,uqc)])] (.seq (uqs (.cond .nil .nil)) (.seq (.block (uqs (.cond (uqs .nil) .nil))) uqr))))) (uqs .nil)))) fun xs=>by kernel_rfl
def E184:FnE Tryz.prog:=⟨184,sg184,d184,sim184⟩
def d151(a:uc4)(b:uc4):Option Bool:=
 (d184 a.1 b.1).bind fun r=>
 bif r then
 (d184 a.2.1 b.2.1).bind fun c=>
 bif c then
 (d37 a.2.2.1 b.2.2.1).bind fun e=>
 bif e then
 (d37 a.2.2.2.1 b.2.2.2.1).bind fun f=>
 bif f then
 (d37 a.2.2.2.2.1 b.2.2.2.2.1).bind fun g=>
 bif g then
 (d38 a.2.2.2.2.2.1 b.2.2.2.2.2.1).bind fun h=>
 bif h then
 (d38 a.2.2.2.2.2.2.1 b.2.2.2.2.2.2.1).bind fun i=>
 bif i then
 (d38 a.2.2.2.2.2.2.2 b.2.2.2.2.2.2.2).bind fun j=>
 some j
 else
 some false
 else
 some false
 else
 some false
 else
 some false
 else
 some false
 else
 some false
 else
 some false
def sg151:Sig:=⟨[(y59,.bw),(y59,.bw)],[(y4,.sh)]⟩
theorem sim151:Sim Tryz.prog 151 sg151 d151:=uqz Tryz.func151 (zab rfl) Tryz.call151 (by kernel_rfl) (by kernel_rfl) [.fn E184,.fn E37,.fn E38] (uqs (uqs .nil)) fun xs=>by kernel_rfl
def E151:FnE Tryz.prog:=⟨151,sg151,d151,sim151⟩
def d91(p0:uc2)(p1:uc2):Option Bool:=
 letJ (fun((f,g,h):uc2×uc2×Bool)=>
   bif h then
    some false
   else
    (zaa (β:=Unit⊕Bool) (fun((c,e,a):uc2×uc2×Int)=>
      bif (decide (a<(c.2.2.2.2.1.length:Int)))then
       bif (decide (0≤a)&&decide (a<(c.2.2.2.2.1.length:Int)))then
        bif (decide (0≤a)&&decide (a<(e.2.2.2.2.1.length:Int)))then
         (d151 (List.getD c.2.2.2.2.1 (Int.toNat a) ([],[],(false,[],[]),(false,[],[]),(false,[],[]),[],[],[])) (List.getD e.2.2.2.2.1 (Int.toNat a) ([],[],(false,[],[]),(false,[],[]),(false,[],[]),[],[],[]))).bind fun i=>
         bif !i then
          some (Sum.inr (Sum.inr false))
         else
          some (Sum.inl (c,e,(w (a+1))))
        else none
       else none
      else
       some (Sum.inr (Sum.inl ()))) (f,g,0)).bind fun
    |Sum.inl _=>
     some true
    |Sum.inr j=>
     some j) fun b=>
 bif !(!(decide (p0.1=p1.1)))then
  bif !(!(decide (p0.2.1=p1.2.1)))then
   bif !(!(decide (p0.2.2.1=p1.2.2.1)))then
    bif !(!(decide (p0.2.2.2.1=p1.2.2.2.1)))then
     (d38 p0.2.2.2.2.2 p1.2.2.2.2.2).bind fun r=>
     bif !(!r)then
      b (p0,p1,!(decide ((p0.2.2.2.2.1.length:Int)=(p1.2.2.2.2.1.length:Int))))
     else
      b (p0,p1,true)
    else
     b (p0,p1,true)
   else
    b (p0,p1,true)
  else
   b (p0,p1,true)
 else
  b (p0,p1,true)
def sg91:Sig:=⟨[(y32,.bw),(y32,.bw)],[(y4,.sh)]⟩
theorem sim91:Sim Tryz.prog 91 sg91 d91:=uqz Tryz.func91 (zab rfl) Tryz.call91 (by kernel_rfl) (by kernel_rfl) [.fn E38,.fn E151] (uqs (.seq (.join uqr [(2,.v (.ptr y32) (.own 0 .bw)),(3,.v (.ptr y32) (.own 0 .bw)),(48,uqc)] (.cond (uqs .nil) .nil)) (.seq (uqs (.block (.loop [(2,.v (.ptr y32) (.own 0 .bw)),(3,.v (.ptr y32) (.own 0 .bw)),(5,uqa)] [(.brk 0,[]),(.ret,[(4,uqc)])] (.seq (uqs (.cond .nil .nil)) (.seq (.block (uqs (.cond (uqs .nil) .nil))) uqr))))) (uqs .nil)))) fun xs=>by kernel_rfl
def E91:FnE Tryz.prog:=⟨91,sg91,d91,sim91⟩
def d29(a:uc2)(b:uc2):Option Bool:=
 (d91 a b).bind fun r=>
 some r
def sg29:Sig:=⟨[(y32,.bw),(y32,.bw)],[(y4,.sh)]⟩
theorem sim29:Sim Tryz.prog 29 sg29 d29:=uqz Tryz.func29 (zab rfl) Tryz.call29 (by kernel_rfl) (by kernel_rfl) [.fn E91] (uqs (uqs .nil)) fun xs=>by kernel_rfl
def E29:FnE Tryz.prog:=⟨29,sg29,d29,sim29⟩
def d3(p0:uc6)(p1:List uc15)(p2:List Int)(p3:Bool)(p4:Int)(p5:Int)(p6:List uc17):Option Bool:=
 letJ (fun((e,f,l,m,n,o,a,p):uc12×uc17×Bool×Int×Int×uc14×uc6×Bool)=>
 bif p then
 (d21).bind fun q=>
 some q
 else
 bif l then
 (d22 a e f).bind fun s=>
 (d21).bind fun t=>
 bif t then
 (d23 3 a e f).bind fun u=>
 some (decide (s.2=u))
 else
 some false
 else
 (d24 m 7).bind fun c=>
 (d25 2 (w (1+c)) a.2.2.2.1 0 a.2.2.2.2.2.2.1).bind fun g=>
 (d26 (w (1+c)) o 16).bind fun h=>
 (d27 (w (1+c)) n).bind fun i=>
 (d22 g h i).bind fun j=>
 (d28 g h i).bind fun k=>
 (d21).bind fun v=>
 bif v then
 bif (decide (j.2=k.2))then
 (d29 j.1 k.1).bind fun x=>
 some x
 else
 some false
 else
 some false) fun b=>
 (d19 p1).bind fun r=>
 bif !(!r)then
 (d20 p6).bind fun y=>
 bif !(!y)then
 bif !(decide (12<(p2.length:Int)))then
 b (p1,p2,p3,p4,p5,p6,p0,(decide (12<(p0.2.1.length:Int))))
 else
 b (p1,p2,p3,p4,p5,p6,p0,true)
 else
 b (p1,p2,p3,p4,p5,p6,p0,true)
 else
 b (p1,p2,p3,p4,p5,p6,p0,true)
def d4(ballots:Int)(seats:Int):Option Bool:=
 (d30 ballots seats).bind fun r=>
 letJ (fun((b,c,q,e):Int×Int×Int×Bool)=>
 bif e then
 (d21).bind fun f=>
 bif f then
 some (decide (q=0))
 else
 some false
 else
 (d21).bind fun g=>
 bif g then
 bif (decide (1≤q))then
 bif (decide (q≤100001))then
 bif (decide (b<(w (q*(w (c+1))))))then
 some (decide ((w ((w (q-1))*(w (c+1))))≤b))
 else
 some false
 else
 some false
 else
 some false
 else
 some false) fun a=>
 bif !(decide (ballots<0))then
 bif !(decide (100000<ballots))then
 bif !(decide (seats<1))then
 a (ballots,seats,r,(decide (5<seats)))
 else
 a (ballots,seats,r,true)
 else
 a (ballots,seats,r,true)
 else
 a (ballots,seats,r,true)
def d31(n:Int)(seats:Int)(ties:Int)(c:Int)(ballots:List uc17):Option (uc6×uc12×uc2×Int):=
 (d25 2 n seats 0 ties).bind fun r=>
 (d26 n ballots 16).bind fun a=>
 (d27 n c).bind fun e=>
 (d22 r a e).bind fun b=>
 some (r,a,b.1,b.2)
def d5(p0:Int)(p1:Int)(p2:Int)(p3:Int)(p4:List uc17):Option Bool:=
 (d20 p4).bind fun r=>
 bif !r then
  (d21).bind fun z=>
  some z
 else
  (d24 p0 7).bind fun b=>
  (d31 (w (1+b)) p1 p2 p3 p4).bind fun a=>
  letJ (fun((aa,ab,ac,ae):Int×uc14×uc2×Bool)=>
    bif ae then
     some false
    else
     (d33 0).bind fun af=>
     (zaa (β:=Unit⊕Bool) (fun((ag,ah,e,ai,c):Int×uc14×uc2×uc10×Int)=>
       bif (decide (c<(e.2.2.2.2.1.length:Int)))then
        bif (decide (0≤c)&&decide (c<(e.2.2.2.2.1.length:Int)))then
         (d34 (((((List.getD e.2.2.2.2.1 (Int.toNat c) ([],[],(false,[],[]),(false,[],[]),(false,[],[]),[],[],[])).2).2).2).1)).bind fun p=>
         (zaa (β:=(Int×uc14×uc2×uc10×Int×uc4×uc10×uc10)) (fun((q,s,t,u,v,f,x,y,g):Int×uc14×uc2×uc10×Int×uc4×uc10×uc10×Int)=>
           bif (decide (g<(f.1.length:Int)))then
            bif (decide (0≤g)&&decide (g<(f.1.length:Int)))then
             (d34 (List.getD f.1 (Int.toNat g) (false,[],[]))).bind fun aj=>
             (d35 y aj).bind fun ak=>
             some (Sum.inl (q,s,t,u,v,f,x,ak,(w (g+1))))
            else none
           else
            some (Sum.inr (q,s,t,u,v,f,x,y))) (ag,ah,e,ai,c,(List.getD e.2.2.2.2.1 (Int.toNat c) ([],[],(false,[],[]),(false,[],[]),(false,[],[]),[],[],[])),p,p,0)).bind fun((h,i,m,j,n,al,k,am):Int×uc14×uc2×uc10×Int×uc4×uc10×uc10)=>
         letJ (fun((an,ao,ap,bc,aq,ar,au):Int×uc14×uc2×uc10×Int×uc10×Bool)=>
           bif au then
            some (Sum.inr (Sum.inr false))
           else
            some (Sum.inl (an,ao,ap,ar,(w (aq+1))))) fun o=>
         bif !(!(decide ((al.1.length:Int)=h)))then
          (d33 (i.length:Int)).bind fun av=>
          (d36 am av).bind fun ax=>
          bif !(!(decide (ax=0)))then
           (d36 k j).bind fun ay=>
           o (h,i,m,j,n,k,(decide (ay<0)))
          else
           o (h,i,m,j,n,k,true)
         else
          o (h,i,m,j,n,k,true)
        else none
       else
        some (Sum.inr (Sum.inl ()))) (aa,ab,ac,af,0)).bind fun
     |Sum.inl _=>
      (d21).bind fun az=>
      some az
     |Sum.inr ba=>
      some ba) fun l=>
  bif !(!(decide (a.2.2.2=0)))then
   bif !(decide ((a.2.2.1.2.2.2.2.1.length:Int)<1))then
    bif !(!(decide ((a.2.2.1.2.2.2.2.2.length:Int)=(bif (decide ((w (1+b))<a.1.2.2.2.1))then(w (1+b))else a.1.2.2.2.1))))then
     (d32 (w (1+b)) a.2.2.1.2.2.2.2.2).bind fun bb=>
     l ((w (1+b)),p4,a.2.2.1,!bb)
    else
     l ((w (1+b)),p4,a.2.2.1,true)
   else
    l ((w (1+b)),p4,a.2.2.1,true)
  else
   l ((w (1+b)),p4,a.2.2.1,true)
def d6(p0:Int)(p1:Int)(p2:Int)(p3:Int)(p4:List uc17):Option Bool:=
 (d20 p4).bind fun r=>
 bif !r then
  (d21).bind fun u=>
  some u
 else
  (d24 p0 7).bind fun p=>
  (d31 (w (1+p)) p1 p2 p3 p4).bind fun o=>
  letJ (fun((v,x,y):Int×uc2×Bool)=>
    bif y then
     some false
    else
     (d33 1).bind fun z=>
     (zaa (β:=Unit⊕Bool) (fun((g,c,m,a):Int×uc2×uc10×Int)=>
       bif (decide ((w (a+1))<(c.2.2.2.2.1.length:Int)))then
        bif (decide (0≤a)&&decide (a<(c.2.2.2.2.1.length:Int)))then
         bif (decide (0≤(w (a+1)))&&decide ((w (a+1))<(c.2.2.2.2.1.length:Int)))then
          letJ (fun((aa,ab,ac,ae,af,ag,ah):Int×uc2×uc10×Int×uc4×uc4×Bool)=>
            bif ah then
             some (Sum.inr (Sum.inr false))
            else
             (zaa (β:=(Int×uc2×uc10×Int×Int)⊕Bool) (fun((h,j,i,k,e,f,l,b):Int×uc2×uc10×Int×uc4×uc4×Int×Int)=>
               bif (decide (b<h))then
                letJ (fun((ai,aj,ak,al,am,an,ao,ap):Int×uc2×uc10×Int×uc4×uc4×Int×Int)=>
                  some (Sum.inl (ai,aj,ak,al,am,an,ao,(w (ap+1))))) fun q=>
                bif (decide (0≤b)&&decide (b<(e.2.1.length:Int)))then
                 bif (decide (0≤b)&&decide (b<(f.2.1.length:Int)))then
                  (d37 (List.getD e.2.1 (Int.toNat b) (false,[],[])) (List.getD f.2.1 (Int.toNat b) (false,[],[]))).bind fun aq=>
                  bif aq then
                   q (h,j,i,k,e,f,l,b)
                  else
                   (d38 e.2.2.2.2.2.2.1 [b]).bind fun ar=>
                   bif ar then
                    bif (decide (0≤b)&&decide (b<(f.2.1.length:Int)))then
                     (d39 0).bind fun au=>
                     (d37 (List.getD f.2.1 (Int.toNat b) (false,[],[])) au).bind fun av=>
                     bif !av then
                      some (Sum.inr (Sum.inr false))
                     else
                      q (h,j,i,k,e,f,(w (l+1)),b)
                    else none
                   else
                    bif (decide (0≤b)&&decide (b<(e.1.length:Int)))then
                     (d34 (List.getD e.1 (Int.toNat b) (false,[],[]))).bind fun ax=>
                     bif (decide (0≤b)&&decide (b<(f.2.1.length:Int)))then
                      (d34 (List.getD f.2.1 (Int.toNat b) (false,[],[]))).bind fun ay=>
                      (d41 ay).bind fun az=>
                      (d35 i az).bind fun ba=>
                      (d40 ax ba).bind fun bb=>
                      letJ (fun((bc,be,bf,bg,bh,bi,bj,bk,bl):Int×uc2×uc10×Int×uc4×uc4×Int×Int×Bool)=>
                        bif bl then
                         some (Sum.inr (Sum.inr false))
                        else
                         q (bc,be,bf,bg,bh,bi,bj,bk)) fun s=>
                      bif !(!(decide ((e.2.2.2.2.2.2.1.length:Int)=0)))then
                       (d34 e.2.2.1).bind fun bm=>
                       (d36 bb bm).bind fun bn=>
                       bif !(!(decide (bn=0)))then
                        bif (decide (0≤b)&&decide (b<(f.1.length:Int)))then
                         (d37 (List.getD f.1 (Int.toNat b) (false,[],[])) e.2.2.1).bind fun bo=>
                         s (h,j,i,k,e,f,(w (l+1)),b,!bo)
                        else none
                       else
                        s (h,j,i,k,e,f,(w (l+1)),b,true)
                      else
                       s (h,j,i,k,e,f,(w (l+1)),b,true)
                     else none
                    else none
                 else none
                else none
               else
                some (Sum.inr (Sum.inl (h,j,i,k,l)))) (aa,ab,ac,ae,af,ag,0,0)).bind fun
             |Sum.inl (bp,bq,br,bs,bt)=>
              bif !(decide (bt=1))then
               some (Sum.inr (Sum.inr false))
              else
               some (Sum.inl (bp,bq,br,(w (bs+1))))
             |Sum.inr bu=>
              some (Sum.inr (Sum.inr bu))) fun n=>
          bif !(!(decide (((((List.getD c.2.2.2.2.1 (Int.toNat a) ([],[],(false,[],[]),(false,[],[]),(false,[],[]),[],[],[])).2).1).length:Int)=g)))then
           bif !(!(decide (((((List.getD c.2.2.2.2.1 (Int.toNat (w (a+1))) ([],[],(false,[],[]),(false,[],[]),(false,[],[]),[],[],[])).2).1).length:Int)=g)))then
            bif !(!(decide ((((List.getD c.2.2.2.2.1 (Int.toNat a) ([],[],(false,[],[]),(false,[],[]),(false,[],[]),[],[],[])).1).length:Int)=g)))then
             bif !(!(decide ((((List.getD c.2.2.2.2.1 (Int.toNat (w (a+1))) ([],[],(false,[],[]),(false,[],[]),(false,[],[]),[],[],[])).1).length:Int)=g)))then
              (d37 ((((List.getD c.2.2.2.2.1 (Int.toNat a) ([],[],(false,[],[]),(false,[],[]),(false,[],[]),[],[],[])).2).2).1) ((((List.getD c.2.2.2.2.1 (Int.toNat (w (a+1))) ([],[],(false,[],[]),(false,[],[]),(false,[],[]),[],[],[])).2).2).1)).bind fun bv=>
              n (g,c,m,a,(List.getD c.2.2.2.2.1 (Int.toNat a) ([],[],(false,[],[]),(false,[],[]),(false,[],[]),[],[],[])),(List.getD c.2.2.2.2.1 (Int.toNat (w (a+1))) ([],[],(false,[],[]),(false,[],[]),(false,[],[]),[],[],[])),!bv)
             else
              n (g,c,m,a,(List.getD c.2.2.2.2.1 (Int.toNat a) ([],[],(false,[],[]),(false,[],[]),(false,[],[]),[],[],[])),(List.getD c.2.2.2.2.1 (Int.toNat (w (a+1))) ([],[],(false,[],[]),(false,[],[]),(false,[],[]),[],[],[])),true)
            else
             n (g,c,m,a,(List.getD c.2.2.2.2.1 (Int.toNat a) ([],[],(false,[],[]),(false,[],[]),(false,[],[]),[],[],[])),(List.getD c.2.2.2.2.1 (Int.toNat (w (a+1))) ([],[],(false,[],[]),(false,[],[]),(false,[],[]),[],[],[])),true)
           else
            n (g,c,m,a,(List.getD c.2.2.2.2.1 (Int.toNat a) ([],[],(false,[],[]),(false,[],[]),(false,[],[]),[],[],[])),(List.getD c.2.2.2.2.1 (Int.toNat (w (a+1))) ([],[],(false,[],[]),(false,[],[]),(false,[],[]),[],[],[])),true)
          else
           n (g,c,m,a,(List.getD c.2.2.2.2.1 (Int.toNat a) ([],[],(false,[],[]),(false,[],[]),(false,[],[]),[],[],[])),(List.getD c.2.2.2.2.1 (Int.toNat (w (a+1))) ([],[],(false,[],[]),(false,[],[]),(false,[],[]),[],[],[])),true)
         else none
        else none
       else
        some (Sum.inr (Sum.inl ()))) (v,x,z,0)).bind fun
     |Sum.inl _=>
      (d21).bind fun bx=>
      some bx
     |Sum.inr bz=>
      some bz) fun t=>
  bif !(!(decide (o.2.2.2=0)))then
   t ((w (1+p)),o.2.2.1,(decide ((o.2.2.1.2.2.2.2.1.length:Int)<1)))
  else
   t ((w (1+p)),o.2.2.1,true)
def d43(l:List Int)(to:List Int):Option uc17:=
 (zaa (β:=uc17) (fun((a,b,out,i):uc17×uc17×uc17×Int)=>
 bif (decide (i<(a.length:Int)))then
 bif (decide (0≤i)&&decide (i<(a.length:Int)))then
 bif (decide (0≤(List.getD a (Int.toNat i) 0))&&decide ((List.getD a (Int.toNat i) 0)<(b.length:Int)))then
 bif (decide ((out.length:Int)+(([(List.getD b (Int.toNat (List.getD a (Int.toNat i) 0)) 0)]:List Int).length:Int)≤LIM))then
 some (Sum.inl (a,b,(out++[(List.getD b (Int.toNat (List.getD a (Int.toNat i) 0)) 0)]),(w (i+1))))
 else none
 else none
 else none
 else
 some (Sum.inr out)) (l,to,[],0)).bind fun(c:List Int)=>
 some c
def d42(gs:List uc15)(to:List Int):Option uc12:=
 (zaa (β:=uc12) (fun((a,b,out,i):uc12×uc17×uc12×Int)=>
 bif (decide (i<(a.length:Int)))then
 bif (decide (0≤i)&&decide (i<(a.length:Int)))then
 (d43 ((List.getD a (Int.toNat i) ([],0)).1) b).bind fun r=>
 bif (decide (0≤i)&&decide (i<(a.length:Int)))then
 (d98 out r ((List.getD a (Int.toNat i) ([],0)).2)).bind fun c=>
 some (Sum.inl (a,b,c,(w (i+1))))
 else none
 else none
 else
 some (Sum.inr out)) (gs,to,[],0)).bind fun(e:List uc15)=>
 some e
def d44(l:List Int):Option uc17:=
 (zaa (β:=uc17) (fun((a,out,x):uc17×uc17×Int)=>
 bif (decide (x<12))then
 letJ (fun((c,e,f):uc17×uc17×Int)=>
 some (Sum.inl (c,e,(w (f+1))))) fun b=>
 (d49 a x).bind fun r=>
 bif r then
 bif (decide ((out.length:Int)+(([x]:List Int).length:Int)≤LIM))then
 b (a,(out++[x]),x)
 else none
 else
 b (a,out,x)
 else
 some (Sum.inr out)) (l,[],0)).bind fun(g:List Int)=>
 some g
def sg44:Sig:=⟨[(y26,.bw)],[(y26,(.own 3 .sh))]⟩
theorem sim44:Sim Tryz.prog 44 sg44 d44:=uqz Tryz.func44 (zab rfl) Tryz.call44 (by kernel_rfl) (by kernel_rfl) [.fn E49] (uqs (.seq (.reg [] [{fl:=2}]) (.seq (uqs (.block (.loop [(0,uqb),(3,uqd),(4,uqa)] [(.brk 0,[(3,uqd)])] (.seq (uqs (.cond .nil .nil)) (.join (.block (uqs (.cond uqr .nil))) [(0,uqb),(3,uqd),(4,uqa)] uqr))))) (uqs .nil)))) fun xs=>by kernel_rfl
def E44:FnE Tryz.prog:=⟨44,sg44,d44,sim44⟩
def d7(p0:Int)(p1:Int)(p2:Int)(p3:Int)(p4:Int)(p5:List uc17):Option Bool:=
 (d20 p5).bind fun r=>
 bif !r then
 (d21).bind fun g=>
 some g
 else
 (d24 p0 7).bind fun f=>
 (d31 (w (1+f)) p1 p2 p3 p5).bind fun a=>
 (d27 (w (1+f)) p4).bind fun b=>
 (d42 a.2.1 b).bind fun h=>
 (d27 (w (1+f)) p3).bind fun i=>
 (d43 i b).bind fun j=>
 (d22 a.1 h j).bind fun c=>
 letJ (fun((k,l,m,n):uc2×uc17×uc2×Bool)=>
 bif n then
 some false
 else
 (d21).bind fun o=>
 bif o then
 (d44 m.2.2.2.2.2).bind fun p=>
 (d43 k.2.2.2.2.2 l).bind fun q=>
 (d44 q).bind fun s=>
 (d38 p s).bind fun t=>
 some t
 else
 some false) fun e=>
 bif !(!(decide (a.2.2.2=0)))then
 bif !(!(decide (c.2=0)))then
 (d32 (w (1+f)) a.2.2.1.2.2.2.2.2).bind fun u=>
 bif !(!u)then
 bif !(!(decide ((a.2.2.1.2.2.2.2.1.length:Int)=(c.1.2.2.2.2.1.length:Int))))then
 e (a.2.2.1,b,c.1,(decide ((a.2.2.1.2.2.2.2.1.length:Int)=0)))
 else
 e (a.2.2.1,b,c.1,true)
 else
 e (a.2.2.1,b,c.1,true)
 else
 e (a.2.2.1,b,c.1,true)
 else
 e (a.2.2.1,b,c.1,true)
def d45(n:Int)(bits:Int):Option uc17:=
 (zaa (β:=uc17) (fun((a,b,out,i):Int×Int×uc17×Int)=>
 bif (decide (i<a))then
 letJ (fun((f,g,h,j):Int×Int×uc17×Int)=>
 some (Sum.inl (f,g,h,(w (j+1))))) fun c=>
 (d24 b 128).bind fun r=>
 bif (decide (0≤(wu64 i)))then
 bif (decide ((w ((BitVec.ofInt 64 (w (Int.fdiv r (2^(min (Int.toNat (wu64 i)) 64))))&&&BitVec.ofInt 64 1).toNat:Int))=1))then
 bif (decide ((out.length:Int)+(([i]:List Int).length:Int)≤LIM))then
 c (a,b,(out++[i]),i)
 else none
 else
 c (a,b,out,i)
 else none
 else
 some (Sum.inr out)) (n,bits,[],0)).bind fun(e:List Int)=>
 bif (decide ((e.length:Int)=0))then
 some [0]
 else
 some e
def d47(n:Int)(u:List Int)(ballots:List uc17):Option uc14:=
 (zaa (β:=uc14) (fun((v,x,m,out,i):Int×uc17×uc14×uc14×Int)=>
 bif (decide (i<(m.length:Int)))then
 (zaa (β:=(Int×uc17×uc14×uc14×Int×uc17)) (fun((h,e,b,j,a,p,k):Int×uc17×uc14×uc14×Int×uc17×Int)=>
 bif (decide (0≤a)&&decide (a<(b.length:Int)))then
 bif (decide (k<((List.getD b (Int.toNat a) []).length:Int)))then
 letJ (fun((y,z,aa,ab,ac,ae,af):Int×uc17×uc14×uc14×Int×uc17×Int)=>
 some (Sum.inl (y,z,aa,ab,ac,ae,(w (af+1))))) fun o=>
 bif (decide (0≤a)&&decide (a<(b.length:Int)))then
 bif (decide (0≤k)&&decide (k<((List.getD b (Int.toNat a) []).length:Int)))then
 (d49 e (List.getD (List.getD b (Int.toNat a) []) (Int.toNat k) 0)).bind fun r=>
 bif r then
 bif (decide (0≤a)&&decide (a<(b.length:Int)))then
 bif (decide (0≤k)&&decide (k<((List.getD b (Int.toNat a) []).length:Int)))then
 bif (decide ((p.length:Int)+(([(List.getD (List.getD b (Int.toNat a) []) (Int.toNat k) 0)]:List Int).length:Int)≤LIM))then
 o (h,e,b,j,a,(p++[(List.getD (List.getD b (Int.toNat a) []) (Int.toNat k) 0)]),k)
 else none
 else none
 else none
 else
 o (h,e,b,j,a,p,k)
 else none
 else none
 else
 some (Sum.inr (h,e,b,j,a,p))
 else none) (v,x,m,out,i,[],0)).bind fun((q,f,g,s,c,l):Int×uc17×uc14×uc14×Int×uc17)=>
 bif (decide ((l.length:Int)+(f.length:Int)≤LIM))then
 bif (decide (0≤c)&&decide (c<(g.length:Int)))then
 bif (decide (((l++f).length:Int)+((List.getD g (Int.toNat c) []).length:Int)≤LIM))then
 (d99 q ((l++f)++(List.getD g (Int.toNat c) []))).bind fun t=>
 bif (decide ((s.length:Int)+(([t]:List uc17).length:Int)≤LIM))then
 some (Sum.inl (q,f,g,(s++[t]),(w (c+1))))
 else none
 else none
 else none
 else none
 else
 some (Sum.inr out)) (n,u,ballots,[],0)).bind fun(ag:List uc17)=>
 some ag
def d8(p0:Int)(p1:Int)(p2:Int)(p3:Int)(p4:List uc17)(p5:List uc17)(p6:Int):Option Bool:=
 letJ (fun((bj,bk,bl,bm,bn,bo,bp,bq):Int×Int×Int×Int×uc14×uc14×Int×Bool)=>
 bif bq then
 (d21).bind fun br=>
 some br
 else
 (d24 bj 7).bind fun c=>
 (d25 2 (w (1+c)) bk 0 bl).bind fun bs=>
 (d45 (w (1+c)) bp).bind fun ac=>
 (d46 (w (1+c)) bn 8).bind fun ae=>
 (d46 (w (1+c)) bo 8).bind fun bt=>
 (d47 (w (1+c)) ac bt).bind fun af=>
 bif (decide ((ae.length:Int)+(af.length:Int)≤LIM))then
 (zaa (β:=(Int×Int×uc6×uc17×uc14×Int×Int)) (fun((n,o,p,q,e,s,t,f):uc21)=>
 bif (decide (f<(e.length:Int)))then
 letJ (fun((bu,bv,bx,bz,ca,cb,cc,ce):uc21)=>
 some (Sum.inl (bu,bv,bx,bz,ca,cb,cc,(w (ce+1))))) fun ag=>
 letJ (fun((ah,ai,aj,g,b,ak,al,a):uc21)=>
 letJ (fun((am,an,ao,ap,aq,ar,au,av,cf):Int×Int×uc6×uc17×uc14×Int×Int×Int×Bool)=>
 bif cf then
 ag (am,an,ao,ap,aq,(w (ar+1)),au,av)
 else
 ag (am,an,ao,ap,aq,ar,au,av)) fun ax=>
 bif (decide (0≤a)&&decide (a<(b.length:Int)))then
 bif (decide ((g.length:Int)≤((List.getD b (Int.toNat a) []).length:Int)))then
 bif (decide (0≤a)&&decide (a<(b.length:Int)))then
 bif (zck 0 (g.length:Int) (List.getD b (Int.toNat a) []).length)then
 (d44 (List.drop 0 (List.take (Int.toNat (g.length:Int)) (List.getD b (Int.toNat a) [])))).bind fun cg=>
 (d38 cg g).bind fun ch=>
 ax (ah,ai,aj,g,b,ak,al,a,ch)
 else none
 else none
 else
 ax (ah,ai,aj,g,b,ak,al,a,false)
 else none) fun ay=>
 bif (decide (0≤f)&&decide (f<(e.length:Int)))then
 bif (decide (0<((List.getD e (Int.toNat f) []).length:Int)))then
 ay (n,o,p,q,e,s,(w (t+1)),f)
 else
 ay (n,o,p,q,e,s,t,f)
 else none
 else
 some (Sum.inr (n,o,p,q,e,s,t))) ((w (1+c)),bm,bs,ac,(ae++af),0,0,0)).bind fun((k,ci,u,az,cj,ba,bb):Int×Int×uc6×uc17×uc14×Int×Int)=>
 (d48 k cj).bind fun ck=>
 (d27 k ci).bind fun cl=>
 (d22 u ck.1 cl).bind fun l=>
 letJ (fun((cm,cn,co,cp,cq,cr,cs):Int×uc6×uc17×Int×Int×uc2×Bool)=>
 bif cs then
 some false
 else
 (zaa (β:=(Int×uc6×uc17×Int×Int×uc2×Int)) (fun((v,x,m,y,z,h,aa,i):Int×uc6×uc17×Int×Int×uc2×Int×Int)=>
 bif (decide (i<(h.2.2.2.2.2.length:Int)))then
 letJ (fun((ct,cu,cv,cx,cy,cz,ea,eb):Int×uc6×uc17×Int×Int×uc2×Int×Int)=>
 some (Sum.inl (ct,cu,cv,cx,cy,cz,ea,(w (eb+1))))) fun bc=>
 bif (decide (0≤i)&&decide (i<(h.2.2.2.2.2.length:Int)))then
 (d49 m (List.getD h.2.2.2.2.2 (Int.toNat i) 0)).bind fun ec=>
 bif ec then
 bc (v,x,m,y,z,h,(w (aa+1)),i)
 else
 bc (v,x,m,y,z,h,aa,i)
 else none
 else
 some (Sum.inr (v,x,m,y,z,h,aa))) (cm,cn,co,cp,cq,cr,0,0)).bind fun((be,j,bf,bg,ab,ee,ef):Int×uc6×uc17×Int×Int×uc2×Int)=>
 bif (!decide ((w (j.2.2.2.1+1))=0))then
 (d21).bind fun eg=>
 bif eg then
 bif (decide ((ee.2.2.2.2.2.length:Int)=(bif (decide (be<j.2.2.2.1))then be else j.2.2.2.1)))then
 bif (!decide ((w ((w (Int.tdiv ab (w (j.2.2.2.1+1))))+1))=0))then
 some (decide ((bif (decide ((bf.length:Int)<(w (Int.tdiv bg (w ((w (Int.tdiv ab (w (j.2.2.2.1+1))))+1))))))then(bf.length:Int)else(w (Int.tdiv bg (w ((w (Int.tdiv ab (w (j.2.2.2.1+1))))+1)))))≤ef))
 else none
 else
 some false
 else
 some false
 else none) fun bh=>
 bif !(!(decide (l.2=0)))then
 (d32 k l.1.2.2.2.2.2).bind fun eh=>
 bh (k,u,az,ba,bb,l.1,!eh)
 else
 bh (k,u,az,ba,bb,l.1,true)
 else none) fun bi=>
 (d20 p4).bind fun r=>
 bif !(!r)then
 (d20 p5).bind fun ei=>
 bi (p0,p1,p2,p3,p4,p5,p6,!ei)
 else
 bi (p0,p1,p2,p3,p4,p5,p6,true)
def d51(n:Int):Option uc16:=
 bif (decide (n=n)&&(decide (0≤n)&&decide (n≤LIM)))then
 (zaa (β:=uc16) (fun((a,out,i):Int×uc16×Int)=>
 bif (decide (i<a))then
 bif (decide (0≤i)&&decide (i<(out.length:Int)))then
 some (Sum.inl (a,(List.set out (Int.toNat i) true),(w (i+1))))
 else none
 else
 some (Sum.inr out)) (n,(List.replicate (Int.toNat n) false),0)).bind fun(b:List Bool)=>
 some b
 else none
def d103(remain:List Bool)(i:Int):Option Bool:=
 bif (decide (i<(remain.length:Int)))then
 bif (decide (0≤i)&&decide (i<(remain.length:Int)))then
 some (List.getD remain (Int.toNat i) false)
 else none
 else
 some false
def d102(p:Int)(p1:List Bool):Option Bool:=
 (d103 p1 p).bind fun r=>
 some r
def d50(gs:List uc15)(remain:List Bool):Option (uc17×Int):=
 letJ (fun((j,f,exhausted,m):uc12×uc16×Int×Bool)=>
 bif m then
 some ([],0)
 else
 bif (decide ((f.length:Int)=(f.length:Int))&&(decide (0≤(f.length:Int))&&decide ((f.length:Int)≤LIM)))then
 (zaa (β:=(uc17×Int)) (fun((g,votes,h,c,i,b):uc16×uc17×Int×uc12×Int×Int)=>
 bif (decide (b<i))then
 letJ (fun((n,o,p,q,s,t):uc16×uc17×Int×uc12×Int×Int)=>
 some (Sum.inl (n,o,p,q,s,(w (t+1))))) fun k=>
 bif (decide (0≤b)&&decide (b<(c.length:Int)))then
 (d101 ((List.getD c (Int.toNat b) ([],0)).1) (fun a=>d102 a g)).bind fun e=>
 bif (decide (e<0))then
 k (g,votes,(w (h+((List.getD c (Int.toNat b) ([],0)).2))),c,i,b)
 else
 bif (decide (0≤e)&&decide (e<(((List.getD c (Int.toNat b) ([],0)).1).length:Int)))then
 bif (decide (0≤(List.getD ((List.getD c (Int.toNat b) ([],0)).1) (Int.toNat e) 0))&&decide ((List.getD ((List.getD c (Int.toNat b) ([],0)).1) (Int.toNat e) 0)<(votes.length:Int)))then
 bif (decide (0≤(List.getD ((List.getD c (Int.toNat b) ([],0)).1) (Int.toNat e) 0))&&decide ((List.getD ((List.getD c (Int.toNat b) ([],0)).1) (Int.toNat e) 0)<(votes.length:Int)))then
 k (g,(List.set votes (Int.toNat (List.getD ((List.getD c (Int.toNat b) ([],0)).1) (Int.toNat e) 0)) (w ((List.getD votes (Int.toNat (List.getD ((List.getD c (Int.toNat b) ([],0)).1) (Int.toNat e) 0)) 0)+((List.getD c (Int.toNat b) ([],0)).2)))),h,c,i,b)
 else none
 else none
 else none
 else none
 else
 some (Sum.inr (votes,h))) (f,(List.replicate (Int.toNat (f.length:Int)) 0),exhausted,j,(j.length:Int),0)).bind fun((u,v):uc17×Int)=>
 some (u,v)
 else none) fun l=>
 (d100 gs).bind fun r=>
 bif !(!r)then
 l (gs,remain,0,(decide (7<(remain.length:Int))))
 else
 l (gs,remain,0,true)
def d9(p0:Int)(p1:Int)(p2:Int)(p3:Int)(p4:List uc17):Option Bool:=
 (d20 p4).bind fun r=>
 bif !r then
  (d21).bind fun m=>
  some m
 else
  (d24 p0 7).bind fun c=>
  (d31 (w (1+c)) p1 p2 p3 p4).bind fun a=>
  (d51 (w (1+c))).bind fun n=>
  (d50 a.2.1 n).bind fun e=>
  letJ (fun((o,p,q,s,t,u):Int×uc6×uc12×uc2×uc17×Bool)=>
    bif u then
     some false
    else
     (zaa (β:=Unit⊕Bool) (fun((h,i,j,f,g,b):Int×uc6×uc12×uc2×uc17×Int)=>
       bif (decide (b<h))then
        letJ (fun((v,x,y,z,aa,ab,ac):Int×uc6×uc12×uc2×uc17×Int×Bool)=>
          bif ac then
           some (Sum.inr (Sum.inr false))
          else
           some (Sum.inl (v,x,y,z,aa,(w (ab+1))))) fun l=>
        bif (decide (0≤b)&&decide (b<(g.length:Int)))then
         (d52 j).bind fun ae=>
         bif (decide (ae<(w ((w (i.2.2.2.1+1))*(List.getD g (Int.toNat b) 0)))))then
          bif (decide (0≤0)&&decide (0<(f.2.2.2.2.1.length:Int)))then
           (d49 (((((((List.getD f.2.2.2.2.1 0 ([],[],(false,[],[]),(false,[],[]),(false,[],[]),[],[],[])).2).2).2).2).2).1) b).bind fun af=>
           l (h,i,j,f,g,b,!af)
          else none
         else
          l (h,i,j,f,g,b,false)
        else none
       else
        some (Sum.inr (Sum.inl ()))) (o,p,q,s,t,0)).bind fun
     |Sum.inl _=>
      (d21).bind fun ag=>
      some ag
     |Sum.inr ah=>
      some ah) fun k=>
  bif !(!(decide (a.2.2.2=0)))then
   bif !(decide ((a.2.2.1.2.2.2.2.1.length:Int)<1))then
    k ((w (1+c)),a.1,a.2.1,a.2.2.1,e.1,!(decide ((e.1.length:Int)=(w (1+c)))))
   else
    k ((w (1+c)),a.1,a.2.1,a.2.2.1,e.1,true)
  else
   k ((w (1+c)),a.1,a.2.1,a.2.2.1,e.1,true)
def d106(c:uc6)(gs:List uc15)(lots:List Int):Option uc5:=
 bif (decide ((c.2.1.length:Int)=(c.2.1.length:Int))&&(decide (0≤(c.2.1.length:Int))&&decide ((c.2.1.length:Int)≤LIM)))then
 (zaa (β:=(uc12×uc17×uc6×uc16)) (fun((b,e,f,remain,g,a):uc12×uc17×uc6×uc16×Int×Int)=>
 bif (decide (a<g))then
 bif (decide (0≤a)&&decide (a<(remain.length:Int)))then
 some (Sum.inl (b,e,f,(List.set remain (Int.toNat a) true),g,(w (a+1))))
 else none
 else
 some (Sum.inr (b,e,f,remain))) (gs,lots,c,(List.replicate (Int.toNat (c.2.1.length:Int)) false),((List.replicate (Int.toNat (c.2.1.length:Int)) false).length:Int),0)).bind fun((h,i,j,k):uc12×uc17×uc6×uc16)=>
 some (j,h,i,k,[])
 else none
def d154(l:List Int):Option uc9:=
 (zaa (β:=uc9) (fun((out,b,c,a):uc9×uc17×Int×Int)=>
 bif (decide (a<c))then
 bif (decide (0≤a)&&decide (a<(b.length:Int)))then
 (d68 (List.getD b (Int.toNat a) 0)).bind fun r=>
 bif (decide ((out.length:Int)+(([r]:List uc11).length:Int)≤LIM))then
 some (Sum.inl ((out++[r]),b,c,(w (a+1))))
 else none
 else none
 else
 some (Sum.inr out)) ([],l,(l.length:Int),0)).bind fun(e:List uc11)=>
 some e
def d107(k:uc5)(votes:List Int)(exhausted:Int):Option uc3:=
 (zaa (β:=(uc5×uc17×Int×uc4×Int)) (fun((i,j,l,r,sum,f,m,b):uc5×uc17×Int×uc4×Int×uc17×Int×Int)=>
 bif (decide (b<m))then
 bif (decide (0≤b)&&decide (b<(f.length:Int)))then
 some (Sum.inl (i,j,l,r,(w (sum+(List.getD f (Int.toNat b) 0))),f,m,(w (b+1))))
 else none
 else
 some (Sum.inr (i,j,l,r,sum))) (k,votes,exhausted,([],[],(false,[],[]),(false,[],[]),(false,[],[]),[],[],[]),0,votes,(votes.length:Int),0)).bind fun((n,s,t,ag,o):uc5×uc17×Int×uc4×Int)=>
 (d154 s).bind fun u=>
 (d68 (w ((w (Int.tdiv o 2))+1))).bind fun v=>
 (d68 t).bind fun x=>
 (d68 0).bind fun y=>
 (zaa (β:=uc3) (fun((g,quota,c,h,a):uc4×Int×uc16×Int×Int)=>
 bif (decide (a<h))then
 bif (decide (0≤a)&&decide (a<(c.length:Int)))then
 letJ (fun((e,z,keep,aa,ab,ac):uc4×Int×Int×uc16×Int×Int)=>
 (d68 keep).bind fun p=>
 bif (decide ((e.2.1.length:Int)+(([p]:List uc11).length:Int)≤LIM))then
 some (Sum.inl ((e.1,(e.2.1++[p]),e.2.2),z,aa,ab,(w (ac+1))))
 else none) fun q=>
 bif (List.getD c (Int.toNat a) false)then
 q (g,quota,1,c,h,a)
 else
 q (g,quota,0,c,h,a)
 else none
 else
 some (Sum.inr (g,quota))) ((u,[],v,x,y,[],[],[]),(w ((w (Int.tdiv o 2))+1)),n.2.2.2.1,(n.2.2.2.1.length:Int),0)).bind fun((ae,af):uc4×Int)=>
 some (ae,af)
def d108(k:uc5):Option uc17:=
 (zaa (β:=uc17) (fun((out,b,c,a):uc17×uc16×Int×Int)=>
 bif (decide (a<c))then
 letJ (fun((f,g,h,i):uc17×uc16×Int×Int)=>
 some (Sum.inl (f,g,h,(w (i+1))))) fun e=>
 bif (decide (0≤a)&&decide (a<(b.length:Int)))then
 bif (List.getD b (Int.toNat a) false)then
 bif (decide ((out.length:Int)+(([a]:List Int).length:Int)≤LIM))then
 e ((out++[a]),b,c,a)
 else none
 else
 e (out,b,c,a)
 else none
 else
 some (Sum.inr out)) ([],k.2.2.2.1,(k.2.2.2.1.length:Int),0)).bind fun(j:List Int)=>
 some j
def d109(c:Int)(p1:List Int)(p2:Int):Option Bool:=
 bif (decide (0≤c)&&decide (c<(p1.length:Int)))then
 some (decide (p2≤(List.getD p1 (Int.toNat c) 0)))
 else none
def d110(p0:uc5)(p1:List Int):Option (Int×uc17×uc5):=
 (d108 p0).bind fun r=>
 (zaa (β:=(uc5×uc17×uc17)) (fun((m,f,b,c,n,a):uc5×uc17×uc17×uc17×Int×Int)=>
 bif (decide (a<n))then
 letJ (fun((aa,ab,ac,ae,af,ag):uc5×uc17×uc17×uc17×Int×Int)=>
 some (Sum.inl (aa,ab,ac,ae,af,(w (ag+1))))) fun o=>
 bif (decide (0≤a)&&decide (a<(c.length:Int)))then
 letJ (fun((p,g,h,j,q,s,t,ah):uc5×uc17×uc17×Int×uc17×Int×Int×Bool)=>
 bif ah then
 o (p,g,[j],q,s,t)
 else
 bif (decide (0≤j)&&decide (j<(g.length:Int)))then
 bif (decide (0≤0)&&decide (0<(h.length:Int)))then
 bif (decide (0≤(List.getD h 0 0))&&decide ((List.getD h 0 0)<(g.length:Int)))then
 bif (decide ((List.getD g (Int.toNat j) 0)=(List.getD g (Int.toNat (List.getD h 0 0)) 0)))then
 bif (decide ((h.length:Int)+(([j]:List Int).length:Int)≤LIM))then
 o (p,g,(h++[j]),q,s,t)
 else none
 else
 o (p,g,h,q,s,t)
 else none
 else none
 else none) fun u=>
 bif !(decide ((b.length:Int)=0))then
 bif (decide (0≤(List.getD c (Int.toNat a) 0))&&decide ((List.getD c (Int.toNat a) 0)<(f.length:Int)))then
 bif (decide (0≤0)&&decide (0<(b.length:Int)))then
 bif (decide (0≤(List.getD b 0 0))&&decide ((List.getD b 0 0)<(f.length:Int)))then
 u (m,f,b,(List.getD c (Int.toNat a) 0),c,n,a,(decide ((List.getD f (Int.toNat (List.getD c (Int.toNat a) 0)) 0)<(List.getD f (Int.toNat (List.getD b 0 0)) 0))))
 else none
 else none
 else none
 else
 u (m,f,b,(List.getD c (Int.toNat a) 0),c,n,a,true)
 else none
 else
 some (Sum.inr (m,f,b))) (p0,p1,[],r,(r.length:Int),0)).bind fun((e,v,k):uc5×uc17×uc17)=>
 bif (decide (0≤0)&&decide (0<(k.length:Int)))then
 letJ (fun((i,ai,l,aj):uc5×uc17×Int×uc17)=>
 bif (decide (0≤l)&&decide (l<(i.2.2.2.1.length:Int)))then
 (d154 ai).bind fun x=>
 bif (decide ((i.2.2.2.2.length:Int)+(([x]:List uc9).length:Int)≤LIM))then
 some (l,aj,(i.1,i.2.1,i.2.2.1,(List.set i.2.2.2.1 (Int.toNat l) false),(i.2.2.2.2++[x])))
 else none
 else none) fun y=>
 bif (decide (1<(k.length:Int)))then
 (d155 e.1.2.2.2.2.2.2.1 e.2.2.2.2 k e.2.2.1 true).bind fun z=>
 y ((e.1,e.2.1,e.2.2.1,e.2.2.2.1,z.2.2),v,z.1,k)
 else
 y (e,v,(List.getD k 0 0),[])
 else none
def d53(p0:uc6)(p1:List uc15)(p2:List Int):Option uc1:=
 (d66 1 p0 p1 p2).bind fun r=>
 bif !(decide (r=0))then
 some ((0,0,0,0,[],[]),r)
 else
 (d106 p0 p1 p2).bind fun p=>
 (zaa (β:=uc1) (fun((k,m,f,n):uc12×uc2×uc5×uc2)=>
 (d50 k f.2.2.2.1).bind fun g=>
 (d107 f g.1 g.2).bind fun l=>
 (d108 f).bind fun j=>
 (d101 j (fun a=>d109 a g.1 l.2)).bind fun q=>
 letJ (fun((s,t,u,c,v,b,h,e):uc12×uc2×uc5×uc2×uc17×uc4×uc17×Int)=>
 bif (decide (0≤e))then
 bif (decide (0≤e)&&decide (e<(h.length:Int)))then
 bif (decide ((c.2.2.2.2.1.length:Int)+(([(b.1,b.2.1,b.2.2.1,b.2.2.2.1,b.2.2.2.2.1,[(List.getD h (Int.toNat e) 0)],b.2.2.2.2.2.2)]:List uc4).length:Int)≤LIM))then
 bif (decide (0≤e)&&decide (e<(h.length:Int)))then
 some (Sum.inr ((c.1,c.2.1,c.2.2.1,c.2.2.2.1,(c.2.2.2.2.1++[(b.1,b.2.1,b.2.2.1,b.2.2.2.1,b.2.2.2.2.1,[(List.getD h (Int.toNat e) 0)],b.2.2.2.2.2.2)]),[(List.getD h (Int.toNat e) 0)]),0))
 else none
 else none
 else none
 else
 (d110 u v).bind fun i=>
 bif (decide ((c.2.2.2.2.1.length:Int)+(([(b.1,b.2.1,b.2.2.1,b.2.2.2.1,b.2.2.2.2.1,b.2.2.2.2.2.1,[i.1],i.2.1)]:List uc4).length:Int)≤LIM))then
 some (Sum.inl (s,t,i.2.2,(c.1,c.2.1,c.2.2.1,c.2.2.2.1,(c.2.2.2.2.1++[(b.1,b.2.1,b.2.2.1,b.2.2.2.1,b.2.2.2.2.1,b.2.2.2.2.2.1,[i.1],i.2.1)]),c.2.2.2.2.2)))
 else none) fun o=>
 bif (decide ((j.length:Int)=1))then
 o (k,m,f,n,g.1,l.1,j,0)
 else
 o (k,m,f,n,g.1,l.1,j,q)) (p1,(0,0,0,0,[],[]),p,(1,1,0,(p0.2.1.length:Int),[],[]))).bind fun((x,y):uc2×Int)=>
 some (x,y)
def d10(p0:Int)(p1:Int)(p2:Int)(p3:List uc17):Option Bool:=
 (d20 p3).bind fun r=>
 bif !r then
 (d21).bind fun e=>
 some e
 else
 (d24 p0 7).bind fun b=>
 (d31 (w (1+b)) 0 p1 p2 p3).bind fun a=>
 (d25 0 (w (1+b)) 0 0 p1).bind fun f=>
 (d27 (w (1+b)) p2).bind fun g=>
 (d53 f a.2.1 g).bind fun c=>
 (d21).bind fun h=>
 bif h then
 bif (decide (a.2.2.2=0))then
 bif (decide (c.2=0))then
 bif (decide ((a.2.2.1.2.2.2.2.2.length:Int)=1))then
 (d38 a.2.2.1.2.2.2.2.2 c.1.2.2.2.2.2).bind fun i=>
 some i
 else
 some false
 else
 some false
 else
 some false
 else
 some false
end
end Go.Proofs.YtmipjomnjkmdbaaGreat
