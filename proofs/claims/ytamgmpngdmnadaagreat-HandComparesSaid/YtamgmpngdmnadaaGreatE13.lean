/- Part 13 of what stands below the statement. -/
import Derived.Test.YtamgmpngdmnadaaGreatE12
open Go Go.Proofs Go.X
namespace Go.Proofs.YtamgmpngdmnadaaGreat
set_option linter.unusedVariables false
set_option maxRecDepth 100000
noncomputable section
abbrev ub10:=(Bool×(List Int×List Int))
abbrev ub5:=(List ub10×(List ub10×(ub10×(ub10×(ub10×(List Int×(List Int×List Int)))))))
abbrev ub3:=(Int×(Int×(Int×(Int×(List ub5×List Int)))))
abbrev ub2:=(ub3×Int)
abbrev ub4:=(ub5×Int)
abbrev ub9:=(List ub10)
abbrev ub8:=(List ub9)
abbrev ub12:=(List Int×Int)
abbrev ub11:=(List ub12)
abbrev ub13:=(List Bool)
abbrev ub14:=(List Int)
abbrev ub7:=(List Int×(List ub14×(Int×(Int×(Int×(Int×(Int×(Int×Int))))))))
abbrev ub1:=(ub7×(List ub12×(List Int×(Int×(List Int×(List Int×(Int×(List ub9×(Int×(Int×ub3))))))))))
abbrev ub0:=(ub1×ub5)
abbrev ub6:=(ub7×(List ub12×(List Int×(List Bool×List ub9))))
abbrev ub15:=Int×ub11×ub14×ub7×Int×Bool×Bool
def d77(n:Int)(prefs:List Int):Option Bool:=
 (zae (β:=Unit⊕Bool) (fun((c,seen,b,e,a):Int×ub13×ub14×Int×Int)=>
   bif (decide (a<e))then
    bif (decide (0≤a)&&decide (a<(b.length:Int)))then
     letJ (fun((g,h,p,i,j,k,l):Int×ub13×Int×ub14×Int×Int×Bool)=>
       bif l then
        some (Sum.inr (Sum.inr false))
       else
        bif (decide (0≤p)&&decide (p<7))then
         some (Sum.inl (g,(List.set h (Int.toNat p) true),i,j,(w (k+1))))
        else none) fun f=>
     bif !(decide ((List.getD b (Int.toNat a) 0)<0))then
      bif !(decide (c≤(List.getD b (Int.toNat a) 0)))then
       bif (decide (0≤(List.getD b (Int.toNat a) 0))&&decide ((List.getD b (Int.toNat a) 0)<7))then
        f (c,seen,(List.getD b (Int.toNat a) 0),b,e,a,(List.getD seen (Int.toNat (List.getD b (Int.toNat a) 0)) false))
       else none
      else
       f (c,seen,(List.getD b (Int.toNat a) 0),b,e,a,true)
     else
      f (c,seen,(List.getD b (Int.toNat a) 0),b,e,a,true)
    else none
   else
    some (Sum.inr (Sum.inl ()))) (n,[false,false,false,false,false,false,false],prefs,(prefs.length:Int),0)).bind fun
 |Sum.inl _=>
  some true
 |Sum.inr m=>
  some m
def sg77:Sig:=⟨[(y2,.sh),(y26,.bw)],[(y4,.sh)]⟩
theorem sim77:Sim Tryz.prog 77 sg77 d77:=uqz Tryz.func77 (zaa rfl) Tryz.call77 (by kernel_rfl) (by kernel_rfl) [] (uqs (uqs (.seq (uqs (.block (.loop [(0,uqa),(5,.v (.ptr y170) (.own 0 .sh)),(8,uqb),(9,uqa),(10,uqa)] [(.brk 0,[]),(.ret,[(4,uqc)])] (uqs (.seq (.cond .nil .nil) (.seq (.block (uqs (.seq (.join uqr [(0,uqa),(5,.v (.ptr y170) (.own 0 .sh)),(7,uqa),(8,uqb),(9,uqa),(10,uqa),(25,uqc)] (.cond (uqs .nil) .nil)) uqr))) uqr)))))) (uqs .nil)))) fun xs=>by kernel_rfl
def E77:FnE Tryz.prog:=⟨77,sg77,d77,sim77⟩
def d253(data:List ub12)(a:Int)(b:Int)(cmp:(ub12→ub12→Option Int)):Option ub11:=
 (zae (β:=ub11) (fun((k,u,l,v,i):ub11×Int×Int×(ub12→ub12→Option Int)×Int)=>
 bif (decide (i<l))then
 (zae (β:=(ub11×Int×Int×(ub12→ub12→Option Int)×Int)) (fun((g,h,m,j,n,e):ub11×Int×Int×(ub12→ub12→Option Int)×Int×Int)=>
 letJ (fun((f,o,p,q,s,c,x):ub11×Int×Int×(ub12→ub12→Option Int)×Int×Int×Bool)=>
 bif x then
 bif (decide (0≤(w (c-1)))&&decide ((w (c-1))<(f.length:Int)))then
 bif (decide (0≤c)&&decide (c<(f.length:Int)))then
 bif (decide (0≤c)&&decide (c<(f.length:Int)))then
 bif (decide (0≤(w (c-1)))&&decide ((w (c-1))<((List.set f (Int.toNat c) (List.getD f (Int.toNat (w (c-1))) ([],0))).length:Int)))then
 some (Sum.inl ((List.set (List.set f (Int.toNat c) (List.getD f (Int.toNat (w (c-1))) ([],0))) (Int.toNat (w (c-1))) (List.getD f (Int.toNat c) ([],0))),o,p,q,s,(w (c-1))))
 else none
 else none
 else none
 else none
 else
 some (Sum.inr (f,o,p,q,s))) fun t=>
 bif (decide (h<e))then
 bif (decide (0≤e)&&decide (e<(g.length:Int)))then
 bif (decide (0≤(w (e-1)))&&decide ((w (e-1))<(g.length:Int)))then
 (j (List.getD g (Int.toNat e) ([],0)) (List.getD g (Int.toNat (w (e-1))) ([],0))).bind fun r=>
 t (g,h,m,j,n,e,(decide (r<0)))
 else none
 else none
 else
 t (g,h,m,j,n,e,false)) (k,u,l,v,i,i)).bind fun((y,z,aa,ab,ac):ub11×Int×Int×(ub12→ub12→Option Int)×Int)=>
 some (Sum.inl (y,z,aa,ab,(w (ac+1))))
 else
 some (Sum.inr k)) (data,a,b,cmp,(w (a+1)))).bind fun(ae:List ub12)=>
 some ae
def sg253:Sig:=⟨[(y64,(.io (.own 77 .sh))),(y2,.sh),(y2,.sh),(y188,.bw)],[]⟩
theorem sim253:Sim Tryz.prog 253 sg253 d253:=uqz Tryz.func253 (zaa rfl) Tryz.call253 (by kernel_rfl) (by kernel_rfl) [] (uqs (.block (.loop [(0,.v y64 (.own 77 .sh)),(1,uqa),(2,uqa),(3,.v y188 .bw),(8,uqa)] [(.brk 0,[(0,.v y64 (.own 77 .sh))])] (.seq (uqs (.cond .nil .nil)) (.seq (.block (uqs (.block (.loop [(0,.v y64 (.own 77 .sh)),(1,uqa),(2,uqa),(3,.v y188 .bw),(8,uqa),(9,uqa)] [(.brk 2,[(0,.v y64 (.own 77 .sh)),(1,uqa),(2,uqa),(3,.v y188 .bw),(8,uqa)])] (.seq (.join uqr [(0,.v y64 (.own 77 .sh)),(1,uqa),(2,uqa),(3,.v y188 .bw),(8,uqa),(9,uqa),(34,uqc)] (.cond .nil .nil)) (.seq (.block uqr) uqr)))))) uqr))))) fun xs=>by kernel_rfl
def E253:FnE Tryz.prog:=⟨253,sg253,d253,sim253⟩
def d254(_x0:List ub12)(_x1:Int)(_x2:Int)(_x3:(ub12→ub12→Option Int)):Option ub11:=none
def sg254:Sig:=⟨[(y64,(.io (.own 77 .sh))),(y2,.sh),(y2,.sh),(y188,.bw)],[]⟩
theorem sim254:Sim Tryz.prog 254 sg254 d254:=⟨Tryz.call254,fun xs y h=>absurd (show(none:Option _)=some y from h) (by simp)⟩
def E254:FnE Tryz.prog:=⟨254,sg254,d254,sim254⟩
def d255(_x0:List ub12)(_x1:Int)(_x2:Int)(_x3:(ub12→ub12→Option Int)):Option ub11:=none
def sg255:Sig:=⟨[(y64,(.io (.own 77 .sh))),(y2,.sh),(y2,.sh),(y188,.bw)],[]⟩
theorem sim255:Sim Tryz.prog 255 sg255 d255:=⟨Tryz.call255,fun xs y h=>absurd (show(none:Option _)=some y from h) (by simp)⟩
def E255:FnE Tryz.prog:=⟨255,sg255,d255,sim255⟩
def d256(_x0:List ub12)(_x1:Int)(_x2:Int)(_x3:(ub12→ub12→Option Int)):Option (Int×Int×ub11):=none
def sg256:Sig:=⟨[(y64,(.io (.own 77 .sh))),(y2,.sh),(y2,.sh),(y188,.bw)],[(y2,.sh),(y2,.sh)]⟩
theorem sim256:Sim Tryz.prog 256 sg256 d256:=⟨Tryz.call256,fun xs y h=>absurd (show(none:Option _)=some y from h) (by simp)⟩
def E256:FnE Tryz.prog:=⟨256,sg256,d256,sim256⟩
def d257(_x0:List ub12)(_x1:Int)(_x2:Int)(_x3:(ub12→ub12→Option Int)):Option ub11:=none
def sg257:Sig:=⟨[(y64,(.io (.own 77 .sh))),(y2,.sh),(y2,.sh),(y188,.bw)],[]⟩
theorem sim257:Sim Tryz.prog 257 sg257 d257:=⟨Tryz.call257,fun xs y h=>absurd (show(none:Option _)=some y from h) (by simp)⟩
def E257:FnE Tryz.prog:=⟨257,sg257,d257,sim257⟩
def d258(_x0:List ub12)(_x1:Int)(_x2:Int)(_x3:(ub12→ub12→Option Int)):Option (Bool×ub11):=none
def sg258:Sig:=⟨[(y64,(.io (.own 77 .sh))),(y2,.sh),(y2,.sh),(y188,.bw)],[(y4,.sh)]⟩
theorem sim258:Sim Tryz.prog 258 sg258 d258:=⟨Tryz.call258,fun xs y h=>absurd (show(none:Option _)=some y from h) (by simp)⟩
def E258:FnE Tryz.prog:=⟨258,sg258,d258,sim258⟩
def d259(_x0:List ub12)(_x1:Int)(_x2:Int)(_x3:Int)(_x4:(ub12→ub12→Option Int)):Option (Int×ub11):=none
def sg259:Sig:=⟨[(y64,(.io (.own 77 .sh))),(y2,.sh),(y2,.sh),(y2,.sh),(y188,.bw)],[(y2,.sh)]⟩
theorem sim259:Sim Tryz.prog 259 sg259 d259:=⟨Tryz.call259,fun xs y h=>absurd (show(none:Option _)=some y from h) (by simp)⟩
def E259:FnE Tryz.prog:=⟨259,sg259,d259,sim259⟩
def d260(_x0:List ub12)(_x1:Int)(_x2:Int)(_x3:Int)(_x4:(ub12→ub12→Option Int)):Option (Int×Bool×ub11):=none
def sg260:Sig:=⟨[(y64,(.io (.own 77 .sh))),(y2,.sh),(y2,.sh),(y2,.sh),(y188,.bw)],[(y2,.sh),(y4,.sh)]⟩
theorem sim260:Sim Tryz.prog 260 sg260 d260:=⟨Tryz.call260,fun xs y h=>absurd (show(none:Option _)=some y from h) (by simp)⟩
def E260:FnE Tryz.prog:=⟨260,sg260,d260,sim260⟩
def d206F(al:ub11→Int→Int→Int→(ub12→ub12→Option Int)→Option ub11)(p0:List ub12)(p1:Int)(p2:Int)(p3:Int)(p4:(ub12→ub12→Option Int)):Option ub11:=
 (zae (β:=ub11) (fun((p,b,c,u,k,v,am):ub11×Int×Int×Int×(ub12→ub12→Option Int)×Bool×Bool)=>
 bif (decide ((w (c-b))≤12))then
 (d253 p b c k).bind fun r=>
 some (Sum.inr r)
 else
 bif (decide (u=0))then
 (d254 p b c k).bind fun bo=>
 some (Sum.inr bo)
 else
 letJ (fun((bp,l,m,an,q,ao,ap,aq):ub11×Int×Int×Int×(ub12→ub12→Option Int)×Bool×Bool×Int)=>
 (d256 bp l m q).bind fun g=>
 letJ (fun((x,y,z,aa,ab,s,t,ac,ae,bq):ub11×Int×Int×Int×(ub12→ub12→Option Int)×Bool×Bool×Int×Int×Int)=>
 letJ (fun((h,i,ar,au,af,av,ax,ay,n):ub11×Int×Int×Int×(ub12→ub12→Option Int)×Bool×Bool×Int×Int)=>
 letJ (fun((az,j,e,o,f,br,bs,ba,bb,bt):ub11×Int×Int×Int×(ub12→ub12→Option Int)×Bool×Bool×Int×Int×Bool)=>
 bif bt then
 (d259 az j e bb f).bind fun bc=>
 some (Sum.inl (bc.2,bc.1,e,o,f,br,bs))
 else
 (d260 az j e bb f).bind fun a=>
 bif (decide ((w (a.1-j))<(w (e-a.1))))then
 (al a.2.2 j a.1 o f).bind fun bu=>
 some (Sum.inl (bu,(w (a.1+1)),e,o,f,(decide ((w (Int.tdiv ba 8))≤(w (a.1-j)))),a.2.1))
 else
 (al a.2.2 (w (a.1+1)) e o f).bind fun bv=>
 some (Sum.inl (bv,j,a.1,o,f,(decide ((w (Int.tdiv ba 8))≤(w (e-a.1)))),a.2.1))) fun be=>
 bif (decide (0<i))then
 bif (decide (0≤(w (i-1)))&&decide ((w (i-1))<(h.length:Int)))then
 bif (decide (0≤n)&&decide (n<(h.length:Int)))then
 (af (List.getD h (Int.toNat (w (i-1))) ([],0)) (List.getD h (Int.toNat n) ([],0))).bind fun bx=>
 be (h,i,ar,au,af,av,ax,ay,n,!(decide (bx<0)))
 else none
 else none
 else
 be (h,i,ar,au,af,av,ax,ay,n,false)) fun bf=>
 letJ (fun((bg,ag,ah,bh,ai,bi,bj,bk,bl,bz):ub11×Int×Int×Int×(ub12→ub12→Option Int)×Bool×Bool×Int×Int×Bool)=>
 bif bz then
 (d258 bg ag ah ai).bind fun aj=>
 bif aj.1 then
 some (Sum.inr aj.2)
 else
 bf (aj.2,ag,ah,bh,ai,bi,bj,bk,bl)
 else
 bf (bg,ag,ah,bh,ai,bi,bj,bk,bl)) fun ak=>
 bif s then
 bif t then
 ak (x,y,z,aa,ab,s,t,ac,ae,(decide (bq=1)))
 else
 ak (x,y,z,aa,ab,s,t,ac,ae,false)
 else
 ak (x,y,z,aa,ab,s,t,ac,ae,false)) fun bm=>
 bif (decide (g.2.1=2))then
 (d257 g.2.2 l m q).bind fun ca=>
 bm (ca,l,m,an,q,ao,ap,aq,(w ((w (m-1))-(w (g.1-l)))),1)
 else
 bm (g.2.2,l,m,an,q,ao,ap,aq,g.1,g.2.1)) fun bn=>
 bif !v then
 (d255 p b c k).bind fun cb=>
 bn (cb,b,c,(w (u-1)),k,v,am,(w (c-b)))
 else
 bn (p,b,c,u,k,v,am,(w (c-b)))) (p0,p1,p2,p3,p4,true,true)).bind fun(cc:List ub12)=>
 some cc
def sg206:Sig:=⟨[(y64,(.io (.own 77 .sh))),(y2,.sh),(y2,.sh),(y2,.sh),(y188,.bw)],[]⟩
def plan206:Plan:=(uqs (uqs (.block (.loop [(0,.v y64 (.own 77 .sh)),(1,uqa),(2,uqa),(3,uqa),(4,.v y188 .bw),(10,uqc),(11,uqc)] [(.ret,[(0,.v y64 (.own 77 .sh))])] (.block (uqs (.seq (uqs (.cond (uqs .nil) .nil)) (.seq (uqs (.cond (uqs .nil) .nil)) (.join (uqs (.cond (uqs uqr) .nil)) [(0,.v y64 (.own 77 .sh)),(1,uqa),(2,uqa),(3,uqa),(4,.v y188 .bw),(10,uqc),(11,uqc),(12,uqa)] (.seq (.reg [] [{},{},{},{},{},{fl:=1}]) (.join (uqs (.cond (uqs (uqs uqr)) .nil)) [(0,.v y64 (.own 77 .sh)),(1,uqa),(2,uqa),(3,uqa),(4,.v y188 .bw),(10,uqc),(11,uqc),(12,uqa),(13,uqa),(14,uqa)] (.join (.join uqr [(0,.v y64 (.own 77 .sh)),(1,uqa),(2,uqa),(3,uqa),(4,.v y188 .bw),(10,uqc),(11,uqc),(12,uqa),(13,uqa),(75,uqc)] (.cond (uqs (.cond .nil .nil)) .nil)) [(0,.v y64 (.own 77 .sh)),(1,uqa),(2,uqa),(3,uqa),(4,.v y188 .bw),(10,uqc),(11,uqc),(12,uqa),(13,uqa)] (.seq (.join uqr [(0,.v y64 (.own 77 .sh)),(1,uqa),(2,uqa),(3,uqa),(4,.v y188 .bw),(10,uqc),(11,uqc),(12,uqa),(13,uqa),(97,uqc)] (.cond (uqs (uqs .nil)) .nil)) (.seq (.reg [] [{},{},{},{},{},{},{fl:=1}]) (uqs (uqs (uqs (uqs (.cond (uqs (uqs uqr)) (uqs (uqs uqr)))))))))))))))))))))
def d206N:Nat→Arr (ptys sg206.ps) (Option (Ret sg206.res))
 | 0=>fun _ _ _ _ _=>none
 |k+1=>d206F (d206N k)
theorem ev206(g:Arr (ptys sg206.ps) (Option (Ret sg206.res)))(h:Sim Tryz.prog 206 sg206 g)(xs:Vals (ptys sg206.ps)):evF (P:=Tryz.prog) tab [.fn E253,.fn E254,.fn E255,.fn E256,.fn E257,.fn E258,.fn E259,.fn E260,.fn ⟨206,sg206,g,h⟩] sg206 Tryz.f206.results.toList (code Tryz.f206) plan206 xs=d206F g xs.1 xs.2.1 xs.2.2.1 xs.2.2.2.1 xs.2.2.2.2.1:=by kernel_rfl
theorem sim206N:∀k,Sim Tryz.prog 206 sg206 (d206N k)
 | 0=>⟨Tryz.call206,fun xs y h=>absurd (show(none:Option _)=some y from h) (by simp)⟩
 |k+1=>sim_ev mixd tabOK Tryz.func206 (zaa rfl) Tryz.call206 (uqn (by kernel_rfl)) (by kernel_rfl) plan206 _ fun xs y h=>(ev206 _ (sim206N k) xs).trans h
def d206(p0:List ub12)(p1:Int)(p2:Int)(p3:Int)(p4:(ub12→ub12→Option Int)):Option ub11:=d206N 2 p0 p1 p2 p3 p4
theorem sim206:Sim Tryz.prog 206 sg206 d206:=sim206N 2
def E206:FnE Tryz.prog:=⟨206,sg206,d206,sim206⟩
def d143(x:List ub12)(cmp:(ub12→ub12→Option Int)):Option ub11:=
 (d183 (wu64 (x.length:Int))).bind fun r=>
 (d206 x 0 (x.length:Int) r cmp).bind fun a=>
 some a
def sg143:Sig:=⟨[(y64,(.io (.own 77 .sh))),(y188,.bw)],[]⟩
theorem sim143:Sim Tryz.prog 143 sg143 d143:=uqz Tryz.func143 (zaa rfl) Tryz.call143 (by kernel_rfl) (by kernel_rfl) [.fn E183,.fn E206] (uqs uqr) fun xs=>by kernel_rfl
def E143:FnE Tryz.prog:=⟨143,sg143,d143,sim143⟩
def d261(x:Int):Option Bool:=
 some (!(decide (x=x)))
def sg261:Sig:=⟨[(y2,.sh)],[(y4,.sh)]⟩
theorem sim261:Sim Tryz.prog 261 sg261 d261:=uqz Tryz.func261 (zaa rfl) Tryz.call261 (by kernel_rfl) (by kernel_rfl) [] (uqs (uqs .nil)) fun xs=>by kernel_rfl
def E261:FnE Tryz.prog:=⟨261,sg261,d261,sim261⟩
def d207(x:Int)(y:Int):Option Int:=
 (d261 x).bind fun r=>
 (d261 y).bind fun a=>
 bif r then
 bif a then
 some 0
 else
 some (-1)
 else
 bif a then
 some 1
 else
 bif (decide (x<y))then
 some (-1)
 else
 bif (decide (y<x))then
 some 1
 else
 some 0
def sg207:Sig:=⟨[(y2,.sh),(y2,.sh)],[(y2,.sh)]⟩
theorem sim207:Sim Tryz.prog 207 sg207 d207:=uqz Tryz.func207 (zaa rfl) Tryz.call207 (by kernel_rfl) (by kernel_rfl) [.fn E261] (uqs (uqs (uqs (.seq (uqs (.cond (.seq (uqs (.cond (uqs .nil) .nil)) (uqs .nil)) .nil)) (.seq (uqs (.cond (uqs .nil) .nil)) (.seq (uqs (.cond (uqs .nil) .nil)) (.seq (uqs (.cond (uqs .nil) .nil)) (uqs .nil)))))))) fun xs=>by kernel_rfl
def E207:FnE Tryz.prog:=⟨207,sg207,d207,sim207⟩
def d145(s1:List Int)(s2:List Int):Option Int:=
 (zae (β:=(ub14×ub14)⊕Int) (fun((e,b,c,f,a):ub14×ub14×ub14×Int×Int)=>
   bif (decide (a<f))then
    bif (decide (0≤a)&&decide (a<(c.length:Int)))then
     bif (decide ((b.length:Int)≤a))then
      some (Sum.inr (Sum.inr 1))
     else
      bif (decide (0≤a)&&decide (a<(b.length:Int)))then
       (d207 (List.getD c (Int.toNat a) 0) (List.getD b (Int.toNat a) 0)).bind fun r=>
       bif !(decide (r=0))then
        some (Sum.inr (Sum.inr r))
       else
        some (Sum.inl (e,b,c,f,(w (a+1))))
      else none
    else none
   else
    some (Sum.inr (Sum.inl (e,b)))) (s1,s2,s1,(s1.length:Int),0)).bind fun
 |Sum.inl (g,h)=>
  bif (decide ((g.length:Int)<(h.length:Int)))then
   some (-1)
  else
   some 0
 |Sum.inr i=>
  some i
def sg145:Sig:=⟨[(y26,.bw),(y26,.bw)],[(y2,.sh)]⟩
theorem sim145:Sim Tryz.prog 145 sg145 d145:=uqz Tryz.func145 (zaa rfl) Tryz.call145 (by kernel_rfl) (by kernel_rfl) [.fn E207] (uqs (.seq (uqs (.block (.loop [(0,uqb),(1,uqb),(9,uqb),(10,uqa),(11,uqa)] [(.brk 0,[(0,uqb),(1,uqb)]),(.ret,[(4,uqa)])] (uqs (.seq (.cond .nil .nil) (.seq (.block (uqs (.seq (uqs (.cond (uqs .nil) .nil)) (uqs (uqs (uqs (.cond (uqs .nil) .nil))))))) uqr)))))) (.seq (uqs (.cond (uqs .nil) .nil)) (uqs .nil)))) fun xs=>by kernel_rfl
def E145:FnE Tryz.prog:=⟨145,sg145,d145,sim145⟩
def d144(a:ub12)(b:ub12):Option Int:=
 (d145 a.1 b.1).bind fun r=>
 some r
def sg144:Sig:=⟨[(y77,.bw),(y77,.bw)],[(y2,.sh)]⟩
theorem sim144:Sim Tryz.prog 144 sg144 d144:=uqz Tryz.func144 (zaa rfl) Tryz.call144 (by kernel_rfl) (by kernel_rfl) [.fn E145] (uqs (uqs .nil)) fun xs=>by kernel_rfl
def E144:FnE Tryz.prog:=⟨144,sg144,d144,sim144⟩
def d56(s1:List Int)(s2:List Int):Option Bool:=
 bif !(decide ((s1.length:Int)=(s2.length:Int)))then
  some false
 else
  (zae (β:=Unit⊕Bool) (fun((b,c,e,a):ub14×ub14×Int×Int)=>
    bif (decide (a<e))then
     bif (decide (0≤a)&&decide (a<(b.length:Int)))then
      bif (decide (0≤a)&&decide (a<(c.length:Int)))then
       bif !(decide ((List.getD b (Int.toNat a) 0)=(List.getD c (Int.toNat a) 0)))then
        some (Sum.inr (Sum.inr false))
       else
        some (Sum.inl (b,c,e,(w (a+1))))
      else none
     else none
    else
     some (Sum.inr (Sum.inl ()))) (s1,s2,(s1.length:Int),0)).bind fun
  |Sum.inl _=>
   some true
  |Sum.inr f=>
   some f
def sg56:Sig:=⟨[(y26,.bw),(y26,.bw)],[(y4,.sh)]⟩
theorem sim56:Sim Tryz.prog 56 sg56 d56:=uqz Tryz.func56 (zaa rfl) Tryz.call56 (by kernel_rfl) (by kernel_rfl) [] (uqs (.seq (uqs (.cond (uqs .nil) .nil)) (.seq (uqs (.block (.loop [(0,uqb),(1,uqb),(12,uqa),(13,uqa)] [(.brk 0,[]),(.ret,[(4,uqc)])] (uqs (.seq (.cond .nil .nil) (.seq (.block (uqs (uqs (.cond (uqs .nil) .nil)))) uqr)))))) (uqs .nil)))) fun xs=>by kernel_rfl
def E56:FnE Tryz.prog:=⟨56,sg56,d56,sim56⟩
def d79(gs:List ub12):Option ub11:=
 (d143 gs (fun a m=>d144 a m)).bind fun r=>
 (zae (β:=ub11) (fun((e,out,f,b):ub11×ub11×Int×Int)=>
 bif (decide (b<f))then
 letJ (fun((n,o,p,q):ub11×ub11×Int×Int)=>
 some (Sum.inl (n,o,p,(w (q+1))))) fun h=>
 bif (decide (0≤b)&&decide (b<(e.length:Int)))then
 letJ (fun((i,c,g,last,j,k,s):ub11×ub11×ub12×Int×Int×Int×Bool)=>
 bif s then
 bif (decide (0≤last)&&decide (last<(c.length:Int)))then
 bif (decide (0≤last)&&decide (last<(c.length:Int)))then
 h (i,(List.set c (Int.toNat last) ((List.getD c (Int.toNat last) ([],0)).1,(w (((List.getD c (Int.toNat last) ([],0)).2)+g.2)))),j,k)
 else none
 else none
 else
 bif (decide ((c.length:Int)+(([g]:List ub12).length:Int)≤LIM))then
 h (i,(c++[g]),j,k)
 else none) fun l=>
 bif (decide (0≤(w ((out.length:Int)-1))))then
 bif (decide (0≤(w ((out.length:Int)-1)))&&decide ((w ((out.length:Int)-1))<(out.length:Int)))then
 (d56 ((List.getD out (Int.toNat (w ((out.length:Int)-1))) ([],0)).1) ((List.getD e (Int.toNat b) ([],0)).1)).bind fun t=>
 l (e,out,(List.getD e (Int.toNat b) ([],0)),(w ((out.length:Int)-1)),f,b,t)
 else none
 else
 l (e,out,(List.getD e (Int.toNat b) ([],0)),(w ((out.length:Int)-1)),f,b,false)
 else none
 else
 some (Sum.inr out)) (r,[],(r.length:Int),0)).bind fun(u:List ub12)=>
 some u
def sg79:Sig:=⟨[(y64,(.give (.own 77 .sh)))],[(y64,(.own 77 .sh))]⟩
theorem sim79:Sim Tryz.prog 79 sg79 d79:=uqz Tryz.func79 (zaa rfl) Tryz.call79 (by kernel_rfl) (by kernel_rfl) [.fn E143,.fn E144,.fn E56] (uqs (uqs (.seq (.reg [] [{fl:=2}]) (.seq (uqs (.block (.loop [(0,.v y64 (.own 77 .sh)),(3,.v y64 (.own 77 .sh)),(9,.view 0 []),(10,uqa),(11,uqa)] [(.brk 0,[(3,.v y64 (.own 77 .sh))])] (uqs (.seq (.cond .nil .nil) (.join (.block (uqs (uqs (.join uqr [(0,.v y64 (.own 77 .sh)),(3,.v y64 (.own 77 .sh)),(5,.v (.ptr y77) (.own 0 .sh)),(6,uqa),(9,.view 0 []),(10,uqa),(11,uqa),(29,uqc)] (.cond uqr uqr))))) [(0,.v y64 (.own 77 .sh)),(3,.v y64 (.own 77 .sh)),(9,.view 0 []),(10,uqa),(11,uqa)] uqr)))))) (uqs .nil))))) fun xs=>by kernel_rfl
def E79:FnE Tryz.prog:=⟨79,sg79,d79,sim79⟩
def d47(n:Int)(ballots:List ub14):Option (ub11×Int):=
 letJ (fun((i,c,j):Int×(List ub14)×Bool)=>
   bif j then
    some ([],4)
   else
    bif (decide (100000<(c.length:Int)))then
     some ([],7)
    else
     (zae (β:=ub11⊕(ub11×Int)) (fun((e,gs,b,f,a):Int×ub11×(List ub14)×Int×Int)=>
       bif (decide (a<f))then
        bif (decide (0≤a)&&decide (a<(b.length:Int)))then
         (d77 e (List.getD b (Int.toNat a) [])).bind fun r=>
         bif !r then
          some (Sum.inr (Sum.inr ([],8)))
         else
          (d78 (List.getD b (Int.toNat a) [])).bind fun g=>
          bif (decide ((gs.length:Int)+(([(g,1)]:List ub12).length:Int)≤LIM))then
           some (Sum.inl (e,(gs++[(g,1)]),b,f,(w (a+1))))
          else none
        else none
       else
        some (Sum.inr (Sum.inl gs))) (i,[],c,(c.length:Int),0)).bind fun
     |Sum.inl k=>
      (d79 k).bind fun l=>
      some (l,0)
     |Sum.inr (m,o)=>
      some (m,o)) fun h=>
 bif !(decide (n<1))then
  h (n,ballots,(decide (7<n)))
 else
  h (n,ballots,true)
def sg47:Sig:=⟨[(y2,.sh),(y48,.bw)],[(y64,.sh),(y2,.sh)]⟩
theorem sim47:Sim Tryz.prog 47 sg47 d47:=uqz Tryz.func47 (zaa rfl) Tryz.call47 (by kernel_rfl) (by kernel_rfl) [.fn E77,.fn E78,.fn E79] (.post (uqs (.seq (.join uqr [(0,uqa),(1,.v y48 .bw),(14,uqc)] (.cond (uqs .nil) .nil)) (.seq (uqs (.cond (uqs .nil) .nil)) (.seq (.reg [] [{fl:=2}]) (.seq (uqs (.block (.loop [(0,uqa),(6,.v y64 (.own 77 .sh)),(18,.v y48 .bw),(19,uqa),(20,uqa)] [(.brk 0,[(6,.v y64 (.own 77 .sh))]),(.ret,[(4,.v y64 .sh),(5,uqa)])] (uqs (.seq (.cond .nil .nil) (.seq (.block (uqs (.seq (uqs (.cond (uqs .nil) .nil)) (.reg [] [{},{},{},{frz:=[(30,[])]}])))) uqr)))))) (uqs .nil)))))) [(4,[])]) fun xs=>by kernel_rfl
def E47:FnE Tryz.prog:=⟨47,sg47,d47,sim47⟩
def d133(n:Int)(gs:List ub12):Option Bool:=
 (zae (β:=Unit⊕Bool) (fun((c,h,total,b,e,a):Int×ub11×Int×ub11×Int×Int)=>
   bif (decide (a<e))then
    bif (decide (0≤a)&&decide (a<(b.length:Int)))then
     letJ (fun((k,f,l,i,g,m,o,p,s):Int×ub11×Int×Int×ub12×ub11×Int×Int×Bool)=>
       bif s then
        some (Sum.inr (Sum.inr false))
       else
        letJ (fun((t,u,v,x,y,z,aa,ab):Int×ub11×Int×ub12×ub11×Int×Int×Bool)=>
          bif ab then
           some (Sum.inr (Sum.inr false))
          else
           some (Sum.inl (t,u,(w (v+x.2)),y,z,(w (aa+1))))) fun q=>
        bif (decide (0<i))then
         bif (decide (0≤(w (i-1)))&&decide ((w (i-1))<(f.length:Int)))then
          (d145 ((List.getD f (Int.toNat (w (i-1))) ([],0)).1) g.1).bind fun ac=>
          q (k,f,l,g,m,o,p,(decide (0≤ac)))
         else none
        else
         q (k,f,l,g,m,o,p,false)) fun j=>
     bif !(decide ((List.getD b (Int.toNat a) ([],0)).2<1))then
      bif !(decide ((w (100000-total))<(List.getD b (Int.toNat a) ([],0)).2))then
       (d77 c ((List.getD b (Int.toNat a) ([],0)).1)).bind fun r=>
       j (c,h,total,a,(List.getD b (Int.toNat a) ([],0)),b,e,a,!r)
      else
       j (c,h,total,a,(List.getD b (Int.toNat a) ([],0)),b,e,a,true)
     else
      j (c,h,total,a,(List.getD b (Int.toNat a) ([],0)),b,e,a,true)
    else none
   else
    some (Sum.inr (Sum.inl ()))) (n,gs,0,gs,(gs.length:Int),0)).bind fun
 |Sum.inl _=>
  some true
 |Sum.inr ae=>
  some ae
def sg133:Sig:=⟨[(y2,.sh),(y64,.bw)],[(y4,.sh)]⟩
theorem sim133:Sim Tryz.prog 133 sg133 d133:=uqz Tryz.func133 (zaa rfl) Tryz.call133 (by kernel_rfl) (by kernel_rfl) [.fn E77,.fn E145] (uqs (uqs (.seq (uqs (.block (.loop [(0,uqa),(1,.v y64 .bw),(5,uqa),(8,.v y64 .bw),(9,uqa),(10,uqa)] [(.brk 0,[]),(.ret,[(4,uqc)])] (uqs (.seq (.cond .nil .nil) (.seq (.block (uqs (.seq (.join uqr [(0,uqa),(1,.v y64 .bw),(5,uqa),(6,uqa),(7,.v (.ptr y77) (.own 0 .bw)),(8,.v y64 .bw),(9,uqa),(10,uqa),(31,uqc)] (.cond (uqs .nil) .nil)) (.seq (.join uqr [(0,uqa),(1,.v y64 .bw),(5,uqa),(7,.v (.ptr y77) (.own 0 .bw)),(8,.v y64 .bw),(9,uqa),(10,uqa),(45,uqc)] (.cond (uqs .nil) .nil)) uqr)))) uqr)))))) (uqs .nil)))) fun xs=>by kernel_rfl
def E133:FnE Tryz.prog:=⟨133,sg133,d133,sim133⟩
def d134(l:List Int)(n:Int):Option Bool:=
 bif (decide ((l.length:Int)=n))then
 (d77 n l).bind fun r=>
 some r
 else
 some false
def sg134:Sig:=⟨[(y26,.bw),(y2,.sh)],[(y4,.sh)]⟩
theorem sim134:Sim Tryz.prog 134 sg134 d134:=uqz Tryz.func134 (zaa rfl) Tryz.call134 (by kernel_rfl) (by kernel_rfl) [.fn E77] (uqs (uqs .nil)) fun xs=>by kernel_rfl
def E134:FnE Tryz.prog:=⟨134,sg134,d134,sim134⟩
def d66(p0:Int)(p1:ub7)(p2:List ub12)(p3:List Int):Option Int:=
 letJ (fun((a,j,k,c,l,m):Int×ub11×ub14×ub7×Int×Bool)=>
 letJ (fun((y,z,aa,ab,e,ac,aq):ub15)=>
 bif aq then
 some 5
 else
 letJ (fun((ar,au,ae,av):ub11×ub14×Int×Bool)=>
 bif av then
 some 4
 else
 (d133 ae ar).bind fun r=>
 bif !r then
 some 8
 else
 (d134 au ae).bind fun ax=>
 bif !ax then
 some 13
 else
 some 0) fun b=>
 letJ (fun((af,n,o,f,p,ag,ah):ub15)=>
 bif ah then
 b (n,o,p,ah)
 else
 letJ (fun((ay,q,s,t,u,ai,aj):ub15)=>
 bif aj then
 b (q,s,u,aj)
 else
 letJ (fun((g,h,ak,i,al,am):ub11×ub14×ub7×Int×Bool×Bool)=>
 bif am then
 b (g,h,i,am)
 else
 bif !al then
 b (g,h,i,!al)
 else
 bif !(decide (ak.2.2.2.2.2.2.1<1))then
 b (g,h,i,(decide (3<ak.2.2.2.2.2.2.1)))
 else
 b (g,h,i,true)) fun an=>
 bif (decide (ay=1))then
 an (q,s,t,u,ai,!(decide (t.2.2.2.1=1)))
 else
 an (q,s,t,u,ai,false)) fun ao=>
 bif !(decide (f.2.2.2.1<1))then
 ao (af,n,o,f,p,ag,(decide (5<f.2.2.2.1)))
 else
 ao (af,n,o,f,p,ag,true)) fun ap=>
 bif !(decide (e<1))then
 ap (y,z,aa,ab,e,ac,(decide (7<e)))
 else
 ap (y,z,aa,ab,e,ac,true)) fun v=>
 bif !(decide (a<1))then
 bif !(decide (3<a))then
 v (a,j,k,c,l,m,!(decide (c.2.2.1=a)))
 else
 v (a,j,k,c,l,m,true)
 else
 v (a,j,k,c,l,m,true)) fun x=>
 bif (decide (p0=2))then
 bif (decide (1≤p1.2.2.2.2.2.1))then
 x (p0,p2,p3,p1,(p1.2.1.length:Int),(decide (p1.2.2.2.2.2.1≤6)))
 else
 x (p0,p2,p3,p1,(p1.2.1.length:Int),false)
 else
 x (p0,p2,p3,p1,(p1.2.1.length:Int),(decide (p1.2.2.2.2.2.1=0)))
def sg66:Sig:=⟨[(y2,.sh),(y23,.bw),(y64,.bw),(y26,.bw)],[(y2,.sh)]⟩
theorem sim66:Sim Tryz.prog 66 sg66 d66:=uqz Tryz.func66 (zaa rfl) Tryz.call66 (by kernel_rfl) (by kernel_rfl) [.fn E133,.fn E134] (uqs (uqs (uqs (.join (uqs (.cond uqr .nil)) [(0,uqa),(2,.v y64 .bw),(3,uqb),(5,.v (.ptr y23) (.own 0 .bw)),(9,uqa),(10,uqc)] (.seq (.block (.join uqr [(0,uqa),(2,.v y64 .bw),(3,uqb),(5,.v (.ptr y23) (.own 0 .bw)),(9,uqa),(10,uqc),(27,uqc)] (.cond (uqs .nil) (.join (.join uqr [(0,uqa),(2,.v y64 .bw),(3,uqb),(5,.v (.ptr y23) (.own 0 .bw)),(9,uqa),(10,uqc),(40,uqc)] (.cond .nil (.join uqr [(0,uqa),(2,.v y64 .bw),(3,uqb),(5,.v (.ptr y23) (.own 0 .bw)),(9,uqa),(10,uqc),(40,uqc)] (.cond .nil (.join uqr [(2,.v y64 .bw),(3,uqb),(5,.v (.ptr y23) (.own 0 .bw)),(9,uqa),(10,uqc),(40,uqc)] (.cond .nil (uqs (.cond .nil uqr)))))))) [(2,.v y64 .bw),(3,uqb),(9,uqa),(40,uqc)] (.cond (uqs .nil) (uqs (.cond (uqs .nil) (uqs (.cond (uqs .nil) .nil))))))))) (uqs .nil)))))) fun xs=>by kernel_rfl
def E66:FnE Tryz.prog:=⟨66,sg66,d66,sim66⟩
def d80(c:ub7)(gs:List ub12)(lots:List Int):Option ub6:=
 bif (decide ((c.2.1.length:Int)=(c.2.1.length:Int))&&(decide (0≤(c.2.1.length:Int))&&decide ((c.2.1.length:Int)≤LIM)))then
 (zae (β:=(ub11×ub14×ub7×ub13)) (fun((b,e,f,remain,g,a):ub11×ub14×ub7×ub13×Int×Int)=>
 bif (decide (a<g))then
 bif (decide (0≤a)&&decide (a<(remain.length:Int)))then
 some (Sum.inl (b,e,f,(List.set remain (Int.toNat a) true),g,(w (a+1))))
 else none
 else
 some (Sum.inr (b,e,f,remain))) (gs,lots,c,(List.replicate (Int.toNat (c.2.1.length:Int)) false),((List.replicate (Int.toNat (c.2.1.length:Int)) false).length:Int),0)).bind fun((h,i,j,k):ub11×ub14×ub7×ub13)=>
 some (j,h,i,k,[])
 else none
def sg80:Sig:=⟨[(y23,.sh),(y64,.sh),(y26,.sh)],[(y116,(.own 0 (.pr .sh (.pr .sh (.pr .sh (.pr (.own 4 .sh) (.own 97 .sh)))))))]⟩
theorem sim80:Sim Tryz.prog 80 sg80 d80:=uqz Tryz.func80 (zaa rfl) Tryz.call80 (by kernel_rfl) (by kernel_rfl) [] (.seq (.reg [] [{},{fl:=2}]) (uqs (.seq (uqs (.block (.loop [(1,.v y64 .sh),(2,uqf),(3,.v (.ptr y23) (.own 0 .sh)),(7,.v y49 (.own 4 .sh)),(14,uqa),(15,uqa)] [(.brk 0,[(1,.v y64 .sh),(2,uqf),(3,.v (.ptr y23) (.own 0 .sh)),(7,.v y49 (.own 4 .sh))])] (uqs (.seq (.cond .nil .nil) (.seq (.block (uqs uqr)) uqr)))))) (.seq (.reg [] [{},{},{},{fl:=1},{fl:=1000004097}]) .nil)))) fun xs=>by kernel_rfl
def E80:FnE Tryz.prog:=⟨80,sg80,d80,sim80⟩
def d146(gs:List ub12):Option Bool:=
 (d133 7 gs).bind fun r=>
 some r
def sg146:Sig:=⟨[(y64,.bw)],[(y4,.sh)]⟩
theorem sim146:Sim Tryz.prog 146 sg146 d146:=uqz Tryz.func146 (zaa rfl) Tryz.call146 (by kernel_rfl) (by kernel_rfl) [.fn E133] (uqs (uqs .nil)) fun xs=>by kernel_rfl
def E146:FnE Tryz.prog:=⟨146,sg146,d146,sim146⟩
def d148(remain:List Bool)(i:Int):Option Bool:=
 bif (decide (i<(remain.length:Int)))then
 bif (decide (0≤i)&&decide (i<(remain.length:Int)))then
 some (List.getD remain (Int.toNat i) false)
 else none
 else
 some false
def sg148:Sig:=⟨[(y49,.bw),(y2,.sh)],[(y4,.sh)]⟩
theorem sim148:Sim Tryz.prog 148 sg148 d148:=uqz Tryz.func148 (zaa rfl) Tryz.call148 (by kernel_rfl) (by kernel_rfl) [] (uqs (uqs .nil)) fun xs=>by kernel_rfl
def E148:FnE Tryz.prog:=⟨148,sg148,d148,sim148⟩
def d147(p:Int)(p1:List Bool):Option Bool:=
 (d148 p1 p).bind fun r=>
 some r
def sg147:Sig:=⟨[(y2,.bw),((.ptr y49),.bw)],[(y4,.sh)]⟩
theorem sim147:Sim Tryz.prog 147 sg147 d147:=uqz Tryz.func147 (zaa rfl) Tryz.call147 (by kernel_rfl) (by kernel_rfl) [.fn E148] (uqs (uqs .nil)) fun xs=>by kernel_rfl
def E147:FnE Tryz.prog:=⟨147,sg147,d147,sim147⟩
def d84(s:List Int)(f:(Int→Option Bool)):Option Int:=
 (zae (β:=Unit⊕Int) (fun((b,c,e,a):ub14×(Int→Option Bool)×Int×Int)=>
   bif (decide (a<e))then
    bif (decide (0≤a)&&decide (a<(b.length:Int)))then
     (c (List.getD b (Int.toNat a) 0)).bind fun r=>
     bif r then
      some (Sum.inr (Sum.inr a))
     else
      some (Sum.inl (b,c,e,(w (a+1))))
    else none
   else
    some (Sum.inr (Sum.inl ()))) (s,f,(s.length:Int),0)).bind fun
 |Sum.inl _=>
  some (-1)
 |Sum.inr g=>
  some g
def sg84:Sig:=⟨[(y26,.bw),(y127,.bw)],[(y2,.sh)]⟩
theorem sim84:Sim Tryz.prog 84 sg84 d84:=uqz Tryz.func84 (zaa rfl) Tryz.call84 (by kernel_rfl) (by kernel_rfl) [] (uqs (.seq (uqs (.block (.loop [(0,uqb),(1,.v y127 .bw),(7,uqa),(8,uqa)] [(.brk 0,[]),(.ret,[(4,uqa)])] (uqs (.seq (.cond .nil .nil) (.seq (.block (uqs (uqs (.cond (uqs .nil) .nil)))) uqr)))))) (uqs .nil))) fun xs=>by kernel_rfl
def E84:FnE Tryz.prog:=⟨84,sg84,d84,sim84⟩
def d81(gs:List ub12)(remain:List Bool):Option (ub14×Int):=
 letJ (fun((j,f,exhausted,m):ub11×ub13×Int×Bool)=>
 bif m then
 some ([],0)
 else
 bif (decide ((f.length:Int)=(f.length:Int))&&(decide (0≤(f.length:Int))&&decide ((f.length:Int)≤LIM)))then
 (zae (β:=(ub14×Int)) (fun((g,votes,h,c,i,b):ub13×ub14×Int×ub11×Int×Int)=>
 bif (decide (b<i))then
 letJ (fun((n,o,p,q,s,t):ub13×ub14×Int×ub11×Int×Int)=>
 some (Sum.inl (n,o,p,q,s,(w (t+1))))) fun k=>
 bif (decide (0≤b)&&decide (b<(c.length:Int)))then
 (d84 ((List.getD c (Int.toNat b) ([],0)).1) (fun a=>d147 a g)).bind fun e=>
 bif (decide (e<0))then
 k (g,votes,(w (h+((List.getD c (Int.toNat b) ([],0)).2))),c,i,b)
 else
 bif (decide (0≤e)&&decide (e<(((List.getD c (Int.toNat b) ([],0)).1).length:Int)))then
 bif (decide (0≤(List.getD ((List.getD c (Int.toNat b) ([],0)).1) (Int.toNat e) 0))&&decide ((List.getD ((List.getD c (Int.toNat b) ([],0)).1) (Int.toNat e) 0)<(votes.length:Int)))then
 bif (decide (0≤(List.getD ((List.getD c (Int.toNat b) ([],0)).1) (Int.toNat e) 0))&&decide ((List.getD ((List.getD c (Int.toNat b) ([],0)).1) (Int.toNat e) 0)<(votes.length:Int)))then
 k (g,(List.set votes (Int.toNat (List.getD ((List.getD c (Int.toNat b) ([],0)).1) (Int.toNat e) 0)) (w ((List.getD votes (Int.toNat (List.getD ((List.getD c (Int.toNat b) ([],0)).1) (Int.toNat e) 0)) 0)+((List.getD c (Int.toNat b) ([],0)).2)))),h,c,i,b)
 else none
 else none
 else none
 else none
 else
 some (Sum.inr (votes,h))) (f,(List.replicate (Int.toNat (f.length:Int)) 0),exhausted,j,(j.length:Int),0)).bind fun((u,v):ub14×Int)=>
 some (u,v)
 else none) fun l=>
 (d146 gs).bind fun r=>
 bif !(!r)then
 l (gs,remain,0,(decide (7<(remain.length:Int))))
 else
 l (gs,remain,0,true)
def sg81:Sig:=⟨[(y64,.bw),(y49,.bw)],[(y26,.sh),(y2,.sh)]⟩
theorem sim81:Sim Tryz.prog 81 sg81 d81:=uqz Tryz.func81 (zaa rfl) Tryz.call81 (by kernel_rfl) (by kernel_rfl) [.fn E146,.fn E84,.fn E147] (.post (uqs (.seq (.join uqr [(0,.v y64 .bw),(3,.v (.ptr y49) (.own 0 .bw)),(5,uqa),(16,uqc)] (.cond (uqs .nil) .nil)) (uqs (.seq (uqs (.block (.loop [(3,.v (.ptr y49) (.own 0 .bw)),(4,uqd),(5,uqa),(20,.v y64 .bw),(21,uqa),(22,uqa)] [(.brk 0,[(4,uqd),(5,uqa)])] (uqs (.seq (.cond .nil .nil) (.join (.block (uqs (uqs (uqs (.cond uqr uqr))))) [(3,.v (.ptr y49) (.own 0 .bw)),(4,uqd),(5,uqa),(20,.v y64 .bw),(21,uqa),(22,uqa)] uqr)))))) (uqs .nil))))) [(4,[])]) fun xs=>by kernel_rfl
def E81:FnE Tryz.prog:=⟨81,sg81,d81,sim81⟩
def d149(l:List Int):Option ub9:=
 (zae (β:=ub9) (fun((out,b,c,a):ub9×ub14×Int×Int)=>
 bif (decide (a<c))then
 bif (decide (0≤a)&&decide (a<(b.length:Int)))then
 (d93 (List.getD b (Int.toNat a) 0)).bind fun r=>
 bif (decide ((out.length:Int)+(([r]:List ub10).length:Int)≤LIM))then
 some (Sum.inl ((out++[r]),b,c,(w (a+1))))
 else none
 else none
 else
 some (Sum.inr out)) ([],l,(l.length:Int),0)).bind fun(e:List ub10)=>
 some e
def sg149:Sig:=⟨[(y26,.bw)],[(y97,(.own 101 .sh))]⟩
theorem sim149:Sim Tryz.prog 149 sg149 d149:=uqz Tryz.func149 (zaa rfl) Tryz.call149 (by kernel_rfl) (by kernel_rfl) [.fn E93] (uqs (.seq (.reg [] [{fl:=2}]) (.seq (uqs (.block (.loop [(3,.v y97 (.own 101 .sh)),(6,uqb),(7,uqa),(8,uqa)] [(.brk 0,[(3,.v y97 (.own 101 .sh))])] (uqs (.seq (.cond .nil .nil) (.seq (.block (uqs uqr)) uqr)))))) (uqs .nil)))) fun xs=>by kernel_rfl
def E149:FnE Tryz.prog:=⟨149,sg149,d149,sim149⟩
def d82(k:ub6)(votes:List Int)(exhausted:Int):Option ub4:=
 (zae (β:=(ub6×ub14×Int×ub5×Int)) (fun((i,j,l,r,sum,f,m,b):ub6×ub14×Int×ub5×Int×ub14×Int×Int)=>
 bif (decide (b<m))then
 bif (decide (0≤b)&&decide (b<(f.length:Int)))then
 some (Sum.inl (i,j,l,r,(w (sum+(List.getD f (Int.toNat b) 0))),f,m,(w (b+1))))
 else none
 else
 some (Sum.inr (i,j,l,r,sum))) (k,votes,exhausted,([],[],(false,[],[]),(false,[],[]),(false,[],[]),[],[],[]),0,votes,(votes.length:Int),0)).bind fun((n,s,t,ag,o):ub6×ub14×Int×ub5×Int)=>
 (d149 s).bind fun u=>
 (d93 (w ((w (Int.tdiv o 2))+1))).bind fun v=>
 (d93 t).bind fun x=>
 (d93 0).bind fun y=>
 (zae (β:=ub4) (fun((g,quota,c,h,a):ub5×Int×ub13×Int×Int)=>
 bif (decide (a<h))then
 bif (decide (0≤a)&&decide (a<(c.length:Int)))then
 letJ (fun((e,z,keep,aa,ab,ac):ub5×Int×Int×ub13×Int×Int)=>
 (d93 keep).bind fun p=>
 bif (decide ((e.2.1.length:Int)+(([p]:List ub10).length:Int)≤LIM))then
 some (Sum.inl ((e.1,(e.2.1++[p]),e.2.2),z,aa,ab,(w (ac+1))))
 else none) fun q=>
 bif (List.getD c (Int.toNat a) false)then
 q (g,quota,1,c,h,a)
 else
 q (g,quota,0,c,h,a)
 else none
 else
 some (Sum.inr (g,quota))) ((u,[],v,x,y,[],[],[]),(w ((w (Int.tdiv o 2))+1)),n.2.2.2.1,(n.2.2.2.1.length:Int),0)).bind fun((ae,af):ub5×Int)=>
 some (ae,af)
def sg82:Sig:=⟨[(y116,.bw),(y26,.bw),(y2,.sh)],[(y103,.sh),(y2,.sh)]⟩
theorem sim82:Sim Tryz.prog 82 sg82 d82:=uqz Tryz.func82 (zaa rfl) Tryz.call82 (by kernel_rfl) (by kernel_rfl) [.fn E149,.fn E93] (uqs (uqs (.seq (uqs (.block (.loop [(0,.v y116 .bw),(1,uqb),(2,uqa),(6,.v y194 (.own 0 .sh)),(8,uqa),(14,uqb),(15,uqa),(16,uqa)] [(.brk 0,[(0,.v y116 .bw),(1,uqb),(2,uqa),(6,.v y194 (.own 0 .sh)),(8,uqa)])] (uqs (.seq (.cond .nil .nil) (.seq (.block (uqs uqr)) uqr)))))) (uqs (.seq (.reg [] [{},{},{},{},{},{},{},{frz:=[(28,[])],fl:=105}]) (.seq (uqs (.block (.loop [(6,.v y194 (.own 0 (.pr .sh (.pr (.own 101 .sh) (.pr .sh (.pr .sh (.pr .sh .sh))))))),(7,uqa),(38,.v y49 .bw),(39,uqa),(40,uqa)] [(.brk 2,[(6,.v y194 (.own 0 (.pr .sh (.pr (.own 101 .sh) (.pr .sh (.pr .sh (.pr .sh .sh))))))),(7,uqa)])] (uqs (.seq (.cond .nil .nil) (.seq (.block (uqs (uqs (.join (uqs (.cond uqr .nil)) [(6,.v y194 (.own 0 (.pr .sh (.pr (.own 101 .sh) (.pr .sh (.pr .sh (.pr .sh .sh))))))),(7,uqa),(13,uqa),(38,.v y49 .bw),(39,uqa),(40,uqa)] uqr)))) uqr)))))) (.seq (.reg [(6,[0,1,0])] []) .nil))))))) fun xs=>by kernel_rfl
def E82:FnE Tryz.prog:=⟨82,sg82,d82,sim82⟩
def d83(k:ub6):Option ub14:=
 (zae (β:=ub14) (fun((out,b,c,a):ub14×ub13×Int×Int)=>
 bif (decide (a<c))then
 letJ (fun((f,g,h,i):ub14×ub13×Int×Int)=>
 some (Sum.inl (f,g,h,(w (i+1))))) fun e=>
 bif (decide (0≤a)&&decide (a<(b.length:Int)))then
 bif (List.getD b (Int.toNat a) false)then
 bif (decide ((out.length:Int)+(([a]:List Int).length:Int)≤LIM))then
 e ((out++[a]),b,c,a)
 else none
 else
 e (out,b,c,a)
 else none
 else
 some (Sum.inr out)) ([],k.2.2.2.1,(k.2.2.2.1.length:Int),0)).bind fun(j:List Int)=>
 some j
def sg83:Sig:=⟨[(y116,.bw)],[(y26,(.own 3 .sh))]⟩
theorem sim83:Sim Tryz.prog 83 sg83 d83:=uqz Tryz.func83 (zaa rfl) Tryz.call83 (by kernel_rfl) (by kernel_rfl) [] (uqs (.seq (.reg [] [{fl:=2}]) (.seq (uqs (.block (.loop [(3,uqd),(9,.v y49 .bw),(10,uqa),(11,uqa)] [(.brk 0,[(3,uqd)])] (uqs (.seq (.cond .nil .nil) (.join (.block (uqs (uqs (.cond uqr .nil)))) [(3,uqd),(9,.v y49 .bw),(10,uqa),(11,uqa)] uqr)))))) (uqs .nil)))) fun xs=>by kernel_rfl
def E83:FnE Tryz.prog:=⟨83,sg83,d83,sim83⟩
def d85(c:Int)(p1:List Int)(p2:Int):Option Bool:=
 bif (decide (0≤c)&&decide (c<(p1.length:Int)))then
 some (decide (p2≤(List.getD p1 (Int.toNat c) 0)))
 else none
def sg85:Sig:=⟨[(y2,.bw),((.ptr y26),.bw),(y281,.bw)],[(y4,.sh)]⟩
theorem sim85:Sim Tryz.prog 85 sg85 d85:=uqz Tryz.func85 (zaa rfl) Tryz.call85 (by kernel_rfl) (by kernel_rfl) [] (uqs (uqs .nil)) fun xs=>by kernel_rfl
def E85:FnE Tryz.prog:=⟨85,sg85,d85,sim85⟩
def d208(p0:Int)(p1:List Int)(p2:List Int):Option Bool:=
 letJ (fun((s,r,t,u):ub14×ub14×Int×Bool)=>
   bif u then
    some false
   else
    (zae (β:=(ub14×Int)⊕Bool) (fun((k,g,l,c,m,a):ub14×Int×ub13×ub14×Int×Int)=>
      bif (decide (a<m))then
       bif (decide (0≤a)&&decide (a<(c.length:Int)))then
        letJ (fun((v,x,y,o,z,aa,ab,ac):ub14×Int×ub13×Int×ub14×Int×Int×Bool)=>
          bif ac then
           some (Sum.inr (Sum.inr false))
          else
           bif (decide (0≤o)&&decide (o<7))then
            some (Sum.inl (v,x,(List.set y (Int.toNat o) true),z,aa,(w (ab+1))))
           else none) fun p=>
        bif !(decide ((List.getD c (Int.toNat a) 0)<0))then
         bif !(decide (g≤(List.getD c (Int.toNat a) 0)))then
          bif (decide (0≤(List.getD c (Int.toNat a) 0))&&decide ((List.getD c (Int.toNat a) 0)<7))then
           p (k,g,l,(List.getD c (Int.toNat a) 0),c,m,a,(List.getD l (Int.toNat (List.getD c (Int.toNat a) 0)) false))
          else none
         else
          p (k,g,l,(List.getD c (Int.toNat a) 0),c,m,a,true)
        else
         p (k,g,l,(List.getD c (Int.toNat a) 0),c,m,a,true)
       else none
      else
       some (Sum.inr (Sum.inl (k,g)))) (s,t,[false,false,false,false,false,false,false],r,(r.length:Int),0)).bind fun
    |Sum.inl (q,ae)=>
     (zae (β:=Unit⊕Bool) (fun((f,h,e,i,b):ub14×Int×ub14×Int×Int)=>
       bif (decide (b<i))then
        bif (decide (0≤b)&&decide (b<(e.length:Int)))then
         letJ (fun((af,ag,ah,ai,aj,ak):ub14×Int×ub14×Int×Int×Bool)=>
           bif ak then
            some (Sum.inr (Sum.inr false))
           else
            some (Sum.inl (af,ag,ah,ai,(w (aj+1))))) fun n=>
         bif !(decide ((List.getD e (Int.toNat b) 0)<0))then
          bif !(decide (h≤(List.getD e (Int.toNat b) 0)))then
           bif (decide (0<b))then
            bif (decide (0≤(w (b-1)))&&decide ((w (b-1))<(f.length:Int)))then
             n (f,h,e,i,b,(decide ((List.getD e (Int.toNat b) 0)≤(List.getD f (Int.toNat (w (b-1))) 0))))
            else none
           else
            n (f,h,e,i,b,false)
          else
           n (f,h,e,i,b,true)
         else
          n (f,h,e,i,b,true)
        else none
       else
        some (Sum.inr (Sum.inl ()))) (q,ae,q,(q.length:Int),0)).bind fun
     |Sum.inl _=>
      some true
     |Sum.inr al=>
      some al
    |Sum.inr am=>
     some am) fun j=>
 bif !(decide (p0<1))then
  bif !(decide (3<p0))then
   bif !(decide ((p2.length:Int)<1))then
    bif !(decide (7<(p2.length:Int)))then
     j (p1,p2,(p2.length:Int),(decide ((p1.length:Int)=0)))
    else
     j (p1,p2,(p2.length:Int),true)
   else
    j (p1,p2,(p2.length:Int),true)
  else
   j (p1,p2,(p2.length:Int),true)
 else
  j (p1,p2,(p2.length:Int),true)
def sg208:Sig:=⟨[(y2,.sh),(y26,.bw),(y26,.bw)],[(y4,.sh)]⟩
theorem sim208:Sim Tryz.prog 208 sg208 d208:=uqz Tryz.func208 (zaa rfl) Tryz.call208 (by kernel_rfl) (by kernel_rfl) [] (uqs (uqs (.seq (.join uqr [(1,uqb),(2,uqb),(7,uqa),(33,uqc)] (.cond (uqs .nil) .nil)) (uqs (.seq (uqs (.block (.loop [(1,uqb),(7,uqa),(8,.v (.ptr y170) (.own 0 .sh)),(34,uqb),(35,uqa),(36,uqa)] [(.brk 0,[(1,uqb),(7,uqa)]),(.ret,[(6,uqc)])] (uqs (.seq (.cond .nil .nil) (.seq (.block (uqs (.seq (.join uqr [(1,uqb),(7,uqa),(8,.v (.ptr y170) (.own 0 .sh)),(10,uqa),(34,uqb),(35,uqa),(36,uqa),(51,uqc)] (.cond (uqs .nil) .nil)) uqr))) uqr)))))) (.seq (uqs (.block (.loop [(1,uqb),(7,uqa),(55,uqb),(56,uqa),(57,uqa)] [(.brk 2,[]),(.ret,[(6,uqc)])] (uqs (.seq (.cond .nil .nil) (.seq (.block (uqs (.join uqr [(1,uqb),(7,uqa),(55,uqb),(56,uqa),(57,uqa),(81,uqc)] (.cond (uqs .nil) .nil)))) uqr)))))) (uqs .nil))))))) fun xs=>by kernel_rfl
def E208:FnE Tryz.prog:=⟨208,sg208,d208,sim208⟩
def d262(round:List ub10)(candidate:Int):Option ub10:=
 bif (decide (candidate<(round.length:Int)))then
 bif (decide (0≤candidate)&&decide (candidate<(round.length:Int)))then
 some (List.getD round (Int.toNat candidate) (false,[],[]))
 else none
 else
 (d93 0).bind fun r=>
 some r
def sg262:Sig:=⟨[(y97,.sh),(y2,.sh)],[(y101,.sh)]⟩
theorem sim262:Sim Tryz.prog 262 sg262 d262:=uqz Tryz.func262 (zaa rfl) Tryz.call262 (by kernel_rfl) (by kernel_rfl) [.fn E93] (uqs (.seq (uqs (.cond (uqs .nil) .nil)) (uqs .nil))) fun xs=>by kernel_rfl
def E262:FnE Tryz.prog:=⟨262,sg262,d262,sim262⟩
def d209(candidates:List Int)(round:List ub10)(least:Bool):Option ub14:=
 (zae (β:=ub14) (fun((e,f,out,b,g,a):ub9×Bool×ub14×ub14×Int×Int)=>
 bif (decide (a<g))then
 letJ (fun((aa,ab,ac,ae,af,ag):ub9×Bool×ub14×ub14×Int×Int)=>
 some (Sum.inl (aa,ab,ac,ae,af,(w (ag+1))))) fun k=>
 bif (decide (0≤a)&&decide (a<(b.length:Int)))then
 letJ (fun((l,m,h,n,ah,o,p,q):ub9×Bool×ub14×Int×Int×ub14×Int×Int)=>
 bif (decide (ah≤0))then
 bif (decide ((h.length:Int)+(([n]:List Int).length:Int)≤LIM))then
 k (l,m,(h++[n]),o,p,q)
 else none
 else
 k (l,m,h,o,p,q)) fun i=>
 bif (decide (0<(out.length:Int)))then
 (d262 e (List.getD b (Int.toNat a) 0)).bind fun r=>
 bif (decide (0≤0)&&decide (0<(out.length:Int)))then
 (d262 e (List.getD out 0 0)).bind fun ai=>
 (d174 r ai).bind fun s=>
 letJ (fun((t,u,j,c,order,v,x,y):ub9×Bool×ub14×Int×Int×ub14×Int×Int)=>
 bif (decide (order<0))then
 bif (zck 0 0 j.length)then
 i (t,u,(List.take 0 j),c,order,v,x,y)
 else none
 else
 i (t,u,j,c,order,v,x,y)) fun z=>
 bif !f then
 z (e,f,out,(List.getD b (Int.toNat a) 0),(w (0-s)),b,g,a)
 else
 z (e,f,out,(List.getD b (Int.toNat a) 0),s,b,g,a)
 else none
 else
 i (e,f,out,(List.getD b (Int.toNat a) 0),(-1),b,g,a)
 else none
 else
 some (Sum.inr out)) (round,least,[],candidates,(candidates.length:Int),0)).bind fun(aj:List Int)=>
 some aj
def sg209:Sig:=⟨[(y26,.bw),(y97,.sh),(y4,.sh)],[(y26,(.own 3 .sh))]⟩
theorem sim209:Sim Tryz.prog 209 sg209 d209:=uqz Tryz.func209 (zaa rfl) Tryz.call209 (by kernel_rfl) (by kernel_rfl) [.fn E262,.fn E174] (uqs (.seq (.reg [] [{fl:=2}]) (.seq (uqs (.block (.loop [(1,.v y97 .sh),(2,uqc),(7,uqd),(11,uqb),(12,uqa),(13,uqa)] [(.brk 0,[(7,uqd)])] (uqs (.seq (.cond .nil .nil) (.join (.block (uqs (uqs (.join (uqs (.cond (uqs (.join (uqs (.cond uqr .nil)) [(1,.v y97 .sh),(2,uqc),(7,uqd),(9,uqa),(10,uqa),(11,uqb),(12,uqa),(13,uqa)] (uqs (.cond uqr .nil)))) .nil)) [(1,.v y97 .sh),(2,uqc),(7,uqd),(9,uqa),(10,uqa),(11,uqb),(12,uqa),(13,uqa)] (uqs (.cond uqr .nil)))))) [(1,.v y97 .sh),(2,uqc),(7,uqd),(11,uqb),(12,uqa),(13,uqa)] uqr)))))) (uqs .nil)))) fun xs=>by kernel_rfl
def E209:FnE Tryz.prog:=⟨209,sg209,d209,sim209⟩
def d180(s:List Int)(v:Int):Option Int:=
 (zae (β:=Unit⊕Int) (fun((b,c,e,a):ub14×Int×Int×Int)=>
   bif (decide (a<e))then
    bif (decide (0≤a)&&decide (a<(b.length:Int)))then
     bif (decide (c=(List.getD b (Int.toNat a) 0)))then
      some (Sum.inr (Sum.inr a))
     else
      some (Sum.inl (b,c,e,(w (a+1))))
    else none
   else
    some (Sum.inr (Sum.inl ()))) (s,v,(s.length:Int),0)).bind fun
 |Sum.inl _=>
  some (-1)
 |Sum.inr f=>
  some f
def sg180:Sig:=⟨[(y26,.bw),(y2,.sh)],[(y2,.sh)]⟩
theorem sim180:Sim Tryz.prog 180 sg180 d180:=uqz Tryz.func180 (zaa rfl) Tryz.call180 (by kernel_rfl) (by kernel_rfl) [] (uqs (.seq (uqs (.block (.loop [(0,uqb),(1,uqa),(7,uqa),(8,uqa)] [(.brk 0,[]),(.ret,[(4,uqa)])] (uqs (.seq (.cond .nil .nil) (.seq (.block (uqs (uqs (.cond (uqs .nil) .nil)))) uqr)))))) (uqs .nil))) fun xs=>by kernel_rfl
def E180:FnE Tryz.prog:=⟨180,sg180,d180,sim180⟩
def d210(a:Int)(b:Int)(p2:List Int):Option Int:=
 (d180 p2 a).bind fun r=>
 (d180 p2 b).bind fun c=>
 some (w (r-c))
def sg210:Sig:=⟨[(y2,.bw),(y2,.bw),((.ptr y26),.bw)],[(y2,.sh)]⟩
theorem sim210:Sim Tryz.prog 210 sg210 d210:=uqz Tryz.func210 (zaa rfl) Tryz.call210 (by kernel_rfl) (by kernel_rfl) [.fn E180] (uqs (uqs .nil)) fun xs=>by kernel_rfl
def E210:FnE Tryz.prog:=⟨210,sg210,d210,sim210⟩
def d211(x:List Int)(cmp:(Int→Int→Option Int)):Option Int:=
 bif (decide ((x.length:Int)<1))then
 none
 else
 bif (decide (0≤0)&&decide (0<(x.length:Int)))then
 (zae (β:=Int) (fun((a,b,m,i):ub14×(Int→Int→Option Int)×Int×Int)=>
 bif (decide (i<(a.length:Int)))then
 letJ (fun((e,f,g,h):ub14×(Int→Int→Option Int)×Int×Int)=>
 some (Sum.inl (e,f,g,(w (h+1))))) fun c=>
 bif (decide (0≤i)&&decide (i<(a.length:Int)))then
 (b (List.getD a (Int.toNat i) 0) m).bind fun r=>
 bif (decide (0<r))then
 bif (decide (0≤i)&&decide (i<(a.length:Int)))then
 c (a,b,(List.getD a (Int.toNat i) 0),i)
 else none
 else
 c (a,b,m,i)
 else none
 else
 some (Sum.inr m)) (x,cmp,(List.getD x 0 0),1)).bind fun(j:Int)=>
 some j
 else none
def sg211:Sig:=⟨[(y26,.bw),(y29,.bw)],[(y2,.sh)]⟩
theorem sim211:Sim Tryz.prog 211 sg211 d211:=uqz Tryz.func211 (zaa rfl) Tryz.call211 (by kernel_rfl) (by kernel_rfl) [] (uqs (.seq (uqs (.cond uqr .nil)) (uqs (.seq (uqs (.block (.loop [(0,uqb),(1,.v y29 .bw),(5,uqa),(6,uqa)] [(.brk 0,[(5,uqa)])] (.seq (uqs (.cond .nil .nil)) (.join (.block (uqs (.cond uqr .nil))) [(0,uqb),(1,.v y29 .bw),(5,uqa),(6,uqa)] uqr))))) (uqs .nil))))) fun xs=>by kernel_rfl
def E211:FnE Tryz.prog:=⟨211,sg211,d211,sim211⟩
def d212(x:List Int)(cmp:(Int→Int→Option Int)):Option Int:=
 bif (decide ((x.length:Int)<1))then
 none
 else
 bif (decide (0≤0)&&decide (0<(x.length:Int)))then
 (zae (β:=Int) (fun((a,b,m,i):ub14×(Int→Int→Option Int)×Int×Int)=>
 bif (decide (i<(a.length:Int)))then
 letJ (fun((e,f,g,h):ub14×(Int→Int→Option Int)×Int×Int)=>
 some (Sum.inl (e,f,g,(w (h+1))))) fun c=>
 bif (decide (0≤i)&&decide (i<(a.length:Int)))then
 (b (List.getD a (Int.toNat i) 0) m).bind fun r=>
 bif (decide (r<0))then
 bif (decide (0≤i)&&decide (i<(a.length:Int)))then
 c (a,b,(List.getD a (Int.toNat i) 0),i)
 else none
 else
 c (a,b,m,i)
 else none
 else
 some (Sum.inr m)) (x,cmp,(List.getD x 0 0),1)).bind fun(j:Int)=>
 some j
 else none
def sg212:Sig:=⟨[(y26,.bw),(y29,.bw)],[(y2,.sh)]⟩
theorem sim212:Sim Tryz.prog 212 sg212 d212:=uqz Tryz.func212 (zaa rfl) Tryz.call212 (by kernel_rfl) (by kernel_rfl) [] (uqs (.seq (uqs (.cond uqr .nil)) (uqs (.seq (uqs (.block (.loop [(0,uqb),(1,.v y29 .bw),(5,uqa),(6,uqa)] [(.brk 0,[(5,uqa)])] (.seq (uqs (.cond .nil .nil)) (.join (.block (uqs (.cond uqr .nil))) [(0,uqb),(1,.v y29 .bw),(5,uqa),(6,uqa)] uqr))))) (uqs .nil))))) fun xs=>by kernel_rfl
def E212:FnE Tryz.prog:=⟨212,sg212,d212,sim212⟩
def d150(p0:Int)(p1:List ub9)(p2:List Int)(p3:List Int)(p4:Bool):Option (Int×Bool×ub8):=
 (d208 p0 p2 p3).bind fun r=>
 bif !r then
 some ((-1),false,p1)
 else
 (d78 p2).bind fun v=>
 (zae (β:=(ub8×Bool×ub14×ub14)) (fun((f,g,j,k,h,i):Int×ub8×Bool×ub14×ub14×Int)=>
 letJ (fun((l,b,m,n,o,c,x):Int×ub8×Bool×ub14×ub14×Int×Bool)=>
 bif x then
 bif (decide (0≤c)&&decide (c<(b.length:Int)))then
 letJ (fun((y,z,s,aa,ab,ac,ae):Int×ub8×Bool×ub14×ub14×Int×ub9)=>
 (d209 ab ae s).bind fun af=>
 some (Sum.inl (y,z,s,aa,af,(w (ac+1))))) fun t=>
 bif (decide (l=1))then
 bif (decide (0≤(w ((w ((b.length:Int)-1))-c)))&&decide ((w ((w ((b.length:Int)-1))-c))<(b.length:Int)))then
 t (l,b,m,n,o,c,(List.getD b (Int.toNat (w ((w ((b.length:Int)-1))-c))) []))
 else none
 else
 t (l,b,m,n,o,c,(List.getD b (Int.toNat c) []))
 else none
 else
 some (Sum.inr (b,m,n,o))) fun p=>
 bif (decide (i<(g.length:Int)))then
 bif (decide (1<(h.length:Int)))then
 p (f,g,j,k,h,i,!(decide (f=3)))
 else
 p (f,g,j,k,h,i,false)
 else
 p (f,g,j,k,h,i,false)) (p0,p1,p4,p3,v,0)).bind fun((q,ag,u,e):ub8×Bool×ub14×ub14)=>
 bif (decide ((e.length:Int)=1))then
 bif (decide (0≤0)&&decide (0<(e.length:Int)))then
 some ((List.getD e 0 0),false,q)
 else none
 else
 bif ag then
 (d211 e (fun a ah=>d210 a ah u)).bind fun ai=>
 some (ai,true,q)
 else
 (d212 e (fun aj ak=>d210 aj ak u)).bind fun al=>
 some (al,true,q)
def sg150:Sig:=⟨[(y2,.sh),(y120,(.io (.own 97 .sh))),(y26,.bw),(y26,.bw),(y4,.sh)],[(y2,.sh),(y4,.sh)]⟩
theorem sim150:Sim Tryz.prog 150 sg150 d150:=uqz Tryz.func150 (zaa rfl) Tryz.call150 (by kernel_rfl) (by kernel_rfl) [.fn E208,.fn E78,.fn E209,.fn E211,.fn E210,.fn E212] (uqs (.seq (uqs (.cond (uqs .nil) .nil)) (uqs (.seq (uqs (.block (.loop [(0,uqa),(1,.v y120 (.own 97 .sh)),(4,uqc),(8,.v (.ptr y26) (.own 0 .bw)),(12,uqd),(13,uqa)] [(.brk 0,[(1,.v y120 (.own 97 .sh)),(4,uqc),(8,.v (.ptr y26) (.own 0 .bw)),(12,uqd)])] (.seq (.join uqr [(0,uqa),(1,.v y120 (.own 97 .sh)),(4,uqc),(8,.v (.ptr y26) (.own 0 .bw)),(12,uqd),(13,uqa),(35,uqc)] (.cond .nil .nil)) (.seq (.block (uqs (.join (uqs (.cond uqr .nil)) [(0,uqa),(1,.v y120 (.own 97 .sh)),(4,uqc),(8,.v (.ptr y26) (.own 0 .bw)),(12,uqd),(13,uqa),(14,.v y97 .sh)] uqr))) uqr))))) (.seq (uqs (.cond (uqs .nil) .nil)) (uqs (.seq (uqs (.cond (uqs .nil) .nil)) (uqs .nil)))))))) fun xs=>by kernel_rfl
def E150:FnE Tryz.prog:=⟨150,sg150,d150,sim150⟩
def d86(p0:ub6)(p1:List Int):Option (Int×ub14×ub6):=
 (d83 p0).bind fun r=>
 (zae (β:=(ub6×ub14×ub14)) (fun((m,f,b,c,n,a):ub6×ub14×ub14×ub14×Int×Int)=>
 bif (decide (a<n))then
 letJ (fun((aa,ab,ac,ae,af,ag):ub6×ub14×ub14×ub14×Int×Int)=>
 some (Sum.inl (aa,ab,ac,ae,af,(w (ag+1))))) fun o=>
 bif (decide (0≤a)&&decide (a<(c.length:Int)))then
 letJ (fun((p,g,h,j,q,s,t,ah):ub6×ub14×ub14×Int×ub14×Int×Int×Bool)=>
 bif ah then
 o (p,g,[j],q,s,t)
 else
 bif (decide (0≤j)&&decide (j<(g.length:Int)))then
 bif (decide (0≤0)&&decide (0<(h.length:Int)))then
 bif (decide (0≤(List.getD h 0 0))&&decide ((List.getD h 0 0)<(g.length:Int)))then
 bif (decide ((List.getD g (Int.toNat j) 0)=(List.getD g (Int.toNat (List.getD h 0 0)) 0)))then
 bif (decide ((h.length:Int)+(([j]:List Int).length:Int)≤LIM))then
 o (p,g,(h++[j]),q,s,t)
 else none
 else
 o (p,g,h,q,s,t)
 else none
 else none
 else none) fun u=>
 bif !(decide ((b.length:Int)=0))then
 bif (decide (0≤(List.getD c (Int.toNat a) 0))&&decide ((List.getD c (Int.toNat a) 0)<(f.length:Int)))then
 bif (decide (0≤0)&&decide (0<(b.length:Int)))then
 bif (decide (0≤(List.getD b 0 0))&&decide ((List.getD b 0 0)<(f.length:Int)))then
 u (m,f,b,(List.getD c (Int.toNat a) 0),c,n,a,(decide ((List.getD f (Int.toNat (List.getD c (Int.toNat a) 0)) 0)<(List.getD f (Int.toNat (List.getD b 0 0)) 0))))
 else none
 else none
 else none
 else
 u (m,f,b,(List.getD c (Int.toNat a) 0),c,n,a,true)
 else none
 else
 some (Sum.inr (m,f,b))) (p0,p1,[],r,(r.length:Int),0)).bind fun((e,v,k):ub6×ub14×ub14)=>
 bif (decide (0≤0)&&decide (0<(k.length:Int)))then
 letJ (fun((i,ai,l,aj):ub6×ub14×Int×ub14)=>
 bif (decide (0≤l)&&decide (l<(i.2.2.2.1.length:Int)))then
 (d149 ai).bind fun x=>
 bif (decide ((i.2.2.2.2.length:Int)+(([x]:List ub9).length:Int)≤LIM))then
 some (l,aj,(i.1,i.2.1,i.2.2.1,(List.set i.2.2.2.1 (Int.toNat l) false),(i.2.2.2.2++[x])))
 else none
 else none) fun y=>
 bif (decide (1<(k.length:Int)))then
 (d150 e.1.2.2.2.2.2.2.1 e.2.2.2.2 k e.2.2.1 true).bind fun z=>
 y ((e.1,e.2.1,e.2.2.1,e.2.2.2.1,z.2.2),v,z.1,k)
 else
 y (e,v,(List.getD k 0 0),[])
 else none
def sg86:Sig:=⟨[(y116,(.io (.own 0 (.pr .sh (.pr .sh (.pr .sh (.pr (.own 4 .sh) (.own 97 .sh)))))))),(y26,.sh)],[(y2,.sh),(y26,(.own 3 .sh))]⟩
theorem sim86:Sim Tryz.prog 86 sg86 d86:=uqz Tryz.func86 (zaa rfl) Tryz.call86 (by kernel_rfl) (by kernel_rfl) [.fn E83,.fn E150,.fn E149] (.seq (.reg [] [{},{fl:=2}]) (.seq (uqs (.block (.loop [(0,.v y116 (.own 0 (.pr .sh (.pr .sh (.pr .sh (.pr (.own 4 .sh) (.own 97 .sh))))))),(1,uqf),(5,uqd),(9,uqd),(10,uqa),(11,uqa)] [(.brk 0,[(0,.v y116 (.own 0 (.pr .sh (.pr .sh (.pr .sh (.pr (.own 4 .sh) (.own 97 .sh))))))),(1,uqf),(5,uqd)])] (uqs (.seq (.cond .nil .nil) (.join (.block (uqs (.block (.join uqr [(0,.v y116 (.own 0 (.pr .sh (.pr .sh (.pr .sh (.pr (.own 4 .sh) (.own 97 .sh))))))),(1,uqf),(5,uqd),(7,uqa),(9,uqd),(10,uqa),(11,uqa),(15,uqc)] (.cond uqr (uqs (.cond uqr .nil))))))) [(0,.v y116 (.own 0 (.pr .sh (.pr .sh (.pr .sh (.pr (.own 4 .sh) (.own 97 .sh))))))),(1,uqf),(5,uqd),(9,uqd),(10,uqa),(11,uqa)] uqr)))))) (uqs (.join (uqs (.cond (.reg [] [{},{},{},{},{},{},{},{},{},{},{},{},{},{},{},{fl:=1}]) (.reg [] [{fl:=2}]))) [(0,.v y116 (.own 0 (.pr .sh (.pr .sh (.pr .sh (.pr (.own 4 .sh) (.own 97 .sh))))))),(1,uqf),(4,uqa),(5,uqd)] (uqs (.seq (.reg [] [{},{},{},{},{},{},{},{frz:=[(87,[])]}]) (uqs .nil))))))) fun xs=>by kernel_rfl
def E86:FnE Tryz.prog:=⟨86,sg86,d86,sim86⟩
def d48(p0:ub7)(p1:List ub12)(p2:List Int):Option ub2:=
 (d66 1 p0 p1 p2).bind fun r=>
 bif !(decide (r=0))then
 some ((0,0,0,0,[],[]),r)
 else
 (d80 p0 p1 p2).bind fun p=>
 (zae (β:=ub2) (fun((k,m,f,n):ub11×ub3×ub6×ub3)=>
 (d81 k f.2.2.2.1).bind fun g=>
 (d82 f g.1 g.2).bind fun l=>
 (d83 f).bind fun j=>
 (d84 j (fun a=>d85 a g.1 l.2)).bind fun q=>
 letJ (fun((s,t,u,c,v,b,h,e):ub11×ub3×ub6×ub3×ub14×ub5×ub14×Int)=>
 bif (decide (0≤e))then
 bif (decide (0≤e)&&decide (e<(h.length:Int)))then
 bif (decide ((c.2.2.2.2.1.length:Int)+(([(b.1,b.2.1,b.2.2.1,b.2.2.2.1,b.2.2.2.2.1,[(List.getD h (Int.toNat e) 0)],b.2.2.2.2.2.2)]:List ub5).length:Int)≤LIM))then
 bif (decide (0≤e)&&decide (e<(h.length:Int)))then
 some (Sum.inr ((c.1,c.2.1,c.2.2.1,c.2.2.2.1,(c.2.2.2.2.1++[(b.1,b.2.1,b.2.2.1,b.2.2.2.1,b.2.2.2.2.1,[(List.getD h (Int.toNat e) 0)],b.2.2.2.2.2.2)]),[(List.getD h (Int.toNat e) 0)]),0))
 else none
 else none
 else none
 else
 (d86 u v).bind fun i=>
 bif (decide ((c.2.2.2.2.1.length:Int)+(([(b.1,b.2.1,b.2.2.1,b.2.2.2.1,b.2.2.2.2.1,b.2.2.2.2.2.1,[i.1],i.2.1)]:List ub5).length:Int)≤LIM))then
 some (Sum.inl (s,t,i.2.2,(c.1,c.2.1,c.2.2.1,c.2.2.2.1,(c.2.2.2.2.1++[(b.1,b.2.1,b.2.2.1,b.2.2.2.1,b.2.2.2.2.1,b.2.2.2.2.2.1,[i.1],i.2.1)]),c.2.2.2.2.2)))
 else none) fun o=>
 bif (decide ((j.length:Int)=1))then
 o (k,m,f,n,g.1,l.1,j,0)
 else
 o (k,m,f,n,g.1,l.1,j,q)) (p1,(0,0,0,0,[],[]),p,(1,1,0,(p0.2.1.length:Int),[],[]))).bind fun((x,y):ub3×Int)=>
 some (x,y)
def sg48:Sig:=⟨[(y23,.sh),(y64,.sh),(y26,.sh)],[(y36,.sh),(y2,.sh)]⟩
theorem sim48:Sim Tryz.prog 48 sg48 d48:=uqz Tryz.func48 (zaa rfl) Tryz.call48 (by kernel_rfl) (by kernel_rfl) [.fn E66,.fn E80,.fn E81,.fn E82,.fn E83,.fn E84,.fn E85,.fn E86] (.post (uqs (.seq (uqs (uqs (.cond (.seq (.reg [] [{fl:=107}]) .nil) .nil))) (uqs (.seq (.reg [] [{},{},{},{fl:=107}]) (.block (.loop [(1,.v y64 .sh),(6,.v (.ptr y36) (.own 0 .sh)),(9,.v y116 (.own 0 (.pr .sh (.pr .sh (.pr .sh (.pr (.own 4 .sh) (.own 97 .sh))))))),(10,.v (.ptr y36) (.own 0 (.pr .sh (.pr .sh (.pr .sh (.pr .sh (.pr (.own 103 .sh) .sh)))))))] [(.ret,[(6,.v (.ptr y36) (.own 0 (.pr .sh (.pr .sh (.pr .sh (.pr .sh (.pr .sh .sh))))))),(7,uqa)])] (.block (.seq (.reg [] [{},{},{},{},{},{},{fl:=1}]) (.seq (.reg [] [{},{},{},{},{fl:=1}]) (uqs (uqs (.join (uqs (.cond uqr .nil)) [(1,.v y64 .sh),(6,.v (.ptr y36) (.own 0 .sh)),(9,.v y116 (.own 0 (.pr .sh (.pr .sh (.pr .sh (.pr (.own 4 .sh) (.own 97 .sh))))))),(10,.v (.ptr y36) (.own 0 (.pr .sh (.pr .sh (.pr .sh (.pr .sh (.pr (.own 103 .sh) .sh))))))),(11,.v (.ptr y26) (.own 0 .sh)),(13,.v y194 (.own 0 .sh)),(15,uqd),(16,uqa)] (.seq (uqs (.cond (uqs (.seq (.reg [(13,[0,1,1,1,1,1,0])] []) (uqs (.seq (.reg [(10,[0,1,1,1,1,0]),(10,[0,1,1,1,1,1])] []) .nil)))) .nil)) (.seq (.reg [] [{},{},{},{fl:=1}]) (.seq (.reg [(18,[])] []) (.reg [(13,[0,1,1,1,1,1,1,0])] [])))))))))))))))) [(6,[0])]) fun xs=>by kernel_rfl
def E48:FnE Tryz.prog:=⟨48,sg48,d48,sim48⟩
def d87(n:Int):Option Int:=
 (zae (β:=Int) (fun((p,a,b):Int×Int×Int)=>
 bif (decide (b<a))then
 some (Sum.inl ((w (p*10)),a,(w (b+1))))
 else
 some (Sum.inr p)) (1,n,0)).bind fun(c:Int)=>
 some c
def sg87:Sig:=⟨[(y2,.sh)],[(y2,.sh)]⟩
theorem sim87:Sim Tryz.prog 87 sg87 d87:=uqz Tryz.func87 (zaa rfl) Tryz.call87 (by kernel_rfl) (by kernel_rfl) [] (uqs (uqs (.seq (uqs (.block (.loop [(3,uqa),(4,uqa),(5,uqa)] [(.brk 0,[(3,uqa)])] (uqs (.seq (.cond .nil .nil) (.seq (.block uqr) uqr)))))) (uqs .nil)))) fun xs=>by kernel_rfl
def E87:FnE Tryz.prog:=⟨87,sg87,d87,sim87⟩
def d215(n:Int)(gs:List ub12):Option Bool:=
 bif (decide (1≤n))then
 bif (decide (n≤7))then
 (d133 n gs).bind fun r=>
 some r
 else
 some false
 else
 some false
def sg215:Sig:=⟨[(y2,.sh),(y64,.bw)],[(y4,.sh)]⟩
theorem sim215:Sim Tryz.prog 215 sg215 d215:=uqz Tryz.func215 (zaa rfl) Tryz.call215 (by kernel_rfl) (by kernel_rfl) [.fn E133] (uqs (uqs .nil)) fun xs=>by kernel_rfl
def E215:FnE Tryz.prog:=⟨215,sg215,d215,sim215⟩
def d216(a:Int)(b:Int):Option Int:=
 bif (!decide (b=0))then
 some (w (Int.tdiv (w ((w (a+b))-1)) b))
 else none
def sg216:Sig:=⟨[(y2,.sh),(y2,.sh)],[(y2,.sh)]⟩
theorem sim216:Sim Tryz.prog 216 sg216 d216:=uqz Tryz.func216 (zaa rfl) Tryz.call216 (by kernel_rfl) (by kernel_rfl) [] (uqs (uqs .nil)) fun xs=>by kernel_rfl
def E216:FnE Tryz.prog:=⟨216,sg216,d216,sim216⟩
def d152(p0:Int)(p1:List Int)(p2:List ub12):Option (ub14×Int×Bool):=
 letJ (fun((aj,l,ak,al,am):Int×ub14×ub11×Int×Bool)=>
   bif am then
    some ([],0,false)
   else
    (d87 aj).bind fun an=>
    (zae (β:=(ub14×ub11×Int×Int)⊕(ub14×Int×Bool)) (fun((m,n,o,j,g,p,c):ub14×ub11×Int×Int×ub14×Int×Int)=>
      bif (decide (c<p))then
       bif (decide (0≤c)&&decide (c<(g.length:Int)))then
        letJ (fun((ao,ap,aq,ar,au,av,ax,ay):ub14×ub11×Int×Int×ub14×Int×Int×Bool)=>
          bif ay then
           some (Sum.inr (Sum.inr ([],0,false)))
          else
           some (Sum.inl (ao,ap,aq,ar,au,av,(w (ax+1))))) fun v=>
        bif !(decide ((List.getD g (Int.toNat c) 0)<0))then
         v (m,n,o,j,g,p,c,(decide (j<(List.getD g (Int.toNat c) 0))))
        else
         v (m,n,o,j,g,p,c,true)
       else none
      else
       some (Sum.inr (Sum.inl (m,n,o,j)))) (l,ak,al,an,l,(l.length:Int),0)).bind fun
    |Sum.inl (f,x,az,ba)=>
     bif (decide ((f.length:Int)=(f.length:Int))&&(decide (0≤(f.length:Int))&&decide ((f.length:Int)≤LIM)))then
      (zae (β:=(ub14×Int)) (fun((bb,y,z,aa,h,ab,e):ub14×ub14×Int×Int×ub11×Int×Int)=>
        bif (decide (e<ab))then
         bif (decide (0≤e)&&decide (e<(h.length:Int)))then
          (zae (β:=(ub14×ub14×Int×Int×ub12×Int×ub11×Int×Int)) (fun((k,i,ac,q,s,t,ae,af,ag,b,ah,a):ub14×ub14×Int×Int×ub12×Int×ub11×Int×Int×ub14×Int×Int)=>
            bif (decide (a<ah))then
             bif (decide (0≤a)&&decide (a<(b.length:Int)))then
              bif (decide (0≤(List.getD b (Int.toNat a) 0))&&decide ((List.getD b (Int.toNat a) 0)<(k.length:Int)))then
               (d216 (w (t*(List.getD k (Int.toNat (List.getD b (Int.toNat a) 0)) 0))) q).bind fun ai=>
               bif (decide (0≤(List.getD b (Int.toNat a) 0))&&decide ((List.getD b (Int.toNat a) 0)<(i.length:Int)))then
                bif (decide (0≤(List.getD b (Int.toNat a) 0))&&decide ((List.getD b (Int.toNat a) 0)<(i.length:Int)))then
                 some (Sum.inl (k,(List.set i (Int.toNat (List.getD b (Int.toNat a) 0)) (w ((List.getD i (Int.toNat (List.getD b (Int.toNat a) 0)) 0)+(w (ai*s.2))))),ac,q,s,(w (t-ai)),ae,af,ag,b,ah,(w (a+1))))
                else none
               else none
              else none
             else none
            else
             some (Sum.inr (k,i,ac,q,s,t,ae,af,ag))) (bb,y,z,aa,(List.getD h (Int.toNat e) ([],0)),aa,h,ab,e,(List.getD h (Int.toNat e) ([],0)).1,(((List.getD h (Int.toNat e) ([],0)).1).length:Int),0)).bind fun((bc,be,bf,bg,bh,bi,bj,bk,bl):ub14×ub14×Int×Int×ub12×Int×ub11×Int×Int)=>
          some (Sum.inl (bc,be,(w (bf+(w (bi*bh.2)))),bg,bj,bk,(w (bl+1))))
         else none
        else
         some (Sum.inr (y,z))) (f,(List.replicate (Int.toNat (f.length:Int)) 0),az,ba,x,(x.length:Int),0)).bind fun((bm,bn):ub14×Int)=>
      some (bm,bn,true)
     else none
    |Sum.inr (bo,bp,bq)=>
     some (bo,bp,bq)) fun u=>
 bif !(decide (p0<1))then
  bif !(decide (6<p0))then
   (d215 (p1.length:Int) p2).bind fun r=>
   u (p0,p1,p2,0,!r)
  else
   u (p0,p1,p2,0,true)
 else
  u (p0,p1,p2,0,true)
def sg152:Sig:=⟨[(y2,.sh),(y26,.bw),(y64,.bw)],[(y26,.sh),(y2,.sh),(y4,.sh)]⟩
theorem sim152:Sim Tryz.prog 152 sg152 d152:=uqz Tryz.func152 (zaa rfl) Tryz.call152 (by kernel_rfl) (by kernel_rfl) [.fn E215,.fn E87,.fn E216] (.post (uqs (.seq (.join uqr [(0,uqa),(1,uqb),(2,.v y64 .bw),(7,uqa),(30,uqc)] (.cond (uqs .nil) .nil)) (uqs (.seq (uqs (.block (.loop [(1,uqb),(2,.v y64 .bw),(7,uqa),(9,uqa),(33,uqb),(34,uqa),(35,uqa)] [(.brk 0,[(1,uqb),(2,.v y64 .bw),(7,uqa),(9,uqa)]),(.ret,[(6,uqf),(7,uqa),(8,uqc)])] (uqs (.seq (.cond .nil .nil) (.seq (.block (uqs (.join uqr [(1,uqb),(2,.v y64 .bw),(7,uqa),(9,uqa),(33,uqb),(34,uqa),(35,uqa),(45,uqc)] (.cond (uqs .nil) .nil)))) uqr)))))) (uqs (.seq (uqs (.block (.loop [(1,uqb),(6,uqd),(7,uqa),(9,uqa),(50,.v y64 .bw),(51,uqa),(52,uqa)] [(.brk 2,[(6,uqd),(7,uqa)])] (uqs (.seq (.cond .nil .nil) (.seq (.block (uqs (uqs (.seq (uqs (.block (.loop [(1,uqb),(6,uqd),(7,uqa),(9,uqa),(13,.v (.ptr y77) (.own 0 .bw)),(14,uqa),(50,.v y64 .bw),(51,uqa),(52,uqa),(58,uqb),(59,uqa),(60,uqa)] [(.brk 4,[(1,uqb),(6,uqd),(7,uqa),(9,uqa),(13,.v (.ptr y77) (.own 0 .bw)),(14,uqa),(50,.v y64 .bw),(51,uqa),(52,uqa)])] (uqs (.seq (.cond .nil .nil) (.seq (.block (uqs (uqs (uqs uqr)))) uqr)))))) uqr)))) uqr)))))) (uqs .nil))))))) [(6,[])]) fun xs=>by kernel_rfl
def E152:FnE Tryz.prog:=⟨152,sg152,d152,sim152⟩
def d153(k:ub1)(units:List Int):Option ub9:=
 (zae (β:=ub9) (fun((c,out,b,e,a):ub1×ub9×ub14×Int×Int)=>
 bif (decide (a<e))then
 bif (decide (0≤a)&&decide (a<(b.length:Int)))then
 (d154 (List.getD b (Int.toNat a) 0) c.2.2.2.1).bind fun r=>
 bif (decide ((out.length:Int)+(([r]:List ub10).length:Int)≤LIM))then
 some (Sum.inl (c,(out++[r]),b,e,(w (a+1))))
 else none
 else none
 else
 some (Sum.inr out)) (k,[],units,(units.length:Int),0)).bind fun(f:List ub10)=>
 some f
def sg153:Sig:=⟨[(y130,.bw),(y26,.bw)],[(y97,(.own 101 .sh))]⟩
theorem sim153:Sim Tryz.prog 153 sg153 d153:=uqz Tryz.func153 (zaa rfl) Tryz.call153 (by kernel_rfl) (by kernel_rfl) [.fn E154] (uqs (.seq (.reg [] [{fl:=2}]) (.seq (uqs (.block (.loop [(0,.v y130 .bw),(5,.v y97 (.own 101 .sh)),(8,uqb),(9,uqa),(10,uqa)] [(.brk 0,[(5,.v y97 (.own 101 .sh))])] (uqs (.seq (.cond .nil .nil) (.seq (.block (uqs uqr)) uqr)))))) (uqs .nil)))) fun xs=>by kernel_rfl
def E153:FnE Tryz.prog:=⟨153,sg153,d153,sim153⟩
def d157(k:ub1)(standing:Int):Option ub14:=
 (zae (β:=ub14) (fun((c,out,b,e,a):Int×ub14×ub14×Int×Int)=>
 bif (decide (a<e))then
 letJ (fun((g,h,i,j,l):Int×ub14×ub14×Int×Int)=>
 some (Sum.inl (g,h,i,j,(w (l+1))))) fun f=>
 bif (decide (0≤a)&&decide (a<(b.length:Int)))then
 bif (decide ((List.getD b (Int.toNat a) 0)=c))then
 bif (decide ((out.length:Int)+(([a]:List Int).length:Int)≤LIM))then
 f (c,(out++[a]),b,e,a)
 else none
 else
 f (c,out,b,e,a)
 else none
 else
 some (Sum.inr out)) (standing,[],k.2.2.2.2.1,(k.2.2.2.2.1.length:Int),0)).bind fun(m:List Int)=>
 some m
def sg157:Sig:=⟨[(y130,.bw),(y2,.sh)],[(y26,(.own 3 .sh))]⟩
theorem sim157:Sim Tryz.prog 157 sg157 d157:=uqz Tryz.func157 (zaa rfl) Tryz.call157 (by kernel_rfl) (by kernel_rfl) [] (uqs (.seq (.reg [] [{fl:=2}]) (.seq (uqs (.block (.loop [(1,uqa),(5,uqd),(11,uqb),(12,uqa),(13,uqa)] [(.brk 0,[(5,uqd)])] (uqs (.seq (.cond .nil .nil) (.join (.block (uqs (uqs (.cond uqr .nil)))) [(1,uqa),(5,uqd),(11,uqb),(12,uqa),(13,uqa)] uqr)))))) (uqs .nil)))) fun xs=>by kernel_rfl
def E157:FnE Tryz.prog:=⟨157,sg157,d157,sim157⟩
def d217(c:Int)(p1:List Int)(p2:Int):Option Bool:=
 bif (decide (0≤c)&&decide (c<(p1.length:Int)))then
 some (decide ((List.getD p1 (Int.toNat c) 0)<p2))
 else none
def sg217:Sig:=⟨[(y2,.bw),((.ptr y26),.bw),(y281,.bw)],[(y4,.sh)]⟩
theorem sim217:Sim Tryz.prog 217 sg217 d217:=uqz Tryz.func217 (zaa rfl) Tryz.call217 (by kernel_rfl) (by kernel_rfl) [] (uqs (uqs .nil)) fun xs=>by kernel_rfl
def E217:FnE Tryz.prog:=⟨217,sg217,d217,sim217⟩
def d171(s:List Int)(del:(Int→Option Bool)):Option ub14:=
 (d84 s del).bind fun r=>
 bif (decide (r=(-1)))then
 some s
 else
 (zae (β:=(ub14×Int)) (fun((a,f,i,b):ub14×(Int→Option Bool)×Int×Int)=>
 bif (decide (b<(a.length:Int)))then
 letJ (fun((h,j,k,l):ub14×(Int→Option Bool)×Int×Int)=>
 some (Sum.inl (h,j,k,(w (l+1))))) fun g=>
 bif (decide (0≤b)&&decide (b<(a.length:Int)))then
 (f (List.getD a (Int.toNat b) 0)).bind fun m=>
 bif !m then
 bif (decide (0≤i)&&decide (i<(a.length:Int)))then
 g ((List.set a (Int.toNat i) (List.getD a (Int.toNat b) 0)),f,(w (i+1)),b)
 else none
 else
 g (a,f,i,b)
 else none
 else
 some (Sum.inr (a,i))) (s,del,r,(w (r+1)))).bind fun((e,c):ub14×Int)=>
 bif (zck c (e.length:Int) e.length)then
 bif (zck 0 c (List.take (Int.toNat c) e++List.replicate (e.length-(Int.toNat c)) 0).length)then
 some (List.take (Int.toNat c) (List.take (Int.toNat c) e++List.replicate (e.length-(Int.toNat c)) 0))
 else none
 else none
def sg171:Sig:=⟨[(y26,(.give (.own 3 .sh))),(y127,.bw)],[(y26,(.own 3 .sh))]⟩
theorem sim171:Sim Tryz.prog 171 sg171 d171:=uqz Tryz.func171 (zaa rfl) Tryz.call171 (by kernel_rfl) (by kernel_rfl) [.fn E84] (uqs (uqs (.seq (uqs (.cond (uqs .nil) .nil)) (.seq (uqs (.block (.loop [(0,uqd),(1,.v y127 .bw),(5,uqa),(6,uqa)] [(.brk 0,[(0,uqd),(5,uqa)])] (.seq (uqs (.cond .nil .nil)) (.join (.block (uqs (uqs (.cond (uqs uqr) .nil)))) [(0,uqd),(1,.v y127 .bw),(5,uqa),(6,uqa)] uqr))))) (uqs (uqs .nil)))))) fun xs=>by kernel_rfl
def E171:FnE Tryz.prog:=⟨171,sg171,d171,sim171⟩
def d219(a:Int)(b:Int)(p2:List Int)(p3:ub1):Option Int:=
 bif (decide (0≤a)&&decide (a<(p2.length:Int)))then
 bif (decide (0≤b)&&decide (b<(p2.length:Int)))then
 bif !(decide ((List.getD p2 (Int.toNat a) 0)=(List.getD p2 (Int.toNat b) 0)))then
 bif (decide (0≤b)&&decide (b<(p2.length:Int)))then
 bif (decide (0≤a)&&decide (a<(p2.length:Int)))then
 some (w ((List.getD p2 (Int.toNat b) 0)-(List.getD p2 (Int.toNat a) 0)))
 else none
 else none
 else
 (d180 p3.2.2.1 a).bind fun r=>
 (d180 p3.2.2.1 b).bind fun c=>
 some (w (r-c))
 else none
 else none
def sg219:Sig:=⟨[(y2,.bw),(y2,.bw),((.ptr y26),.bw),((.ptr y130),.bw)],[(y2,.sh)]⟩
theorem sim219:Sim Tryz.prog 219 sg219 d219:=uqz Tryz.func219 (zaa rfl) Tryz.call219 (by kernel_rfl) (by kernel_rfl) [.fn E180] (uqs (.seq (uqs (.cond (uqs .nil) .nil)) (uqs .nil))) fun xs=>by kernel_rfl
def E219:FnE Tryz.prog:=⟨219,sg219,d219,sim219⟩
def d288(data:List Int)(a:Int)(b:Int)(cmp:(Int→Int→Option Int)):Option ub14:=
 (zae (β:=ub14) (fun((k,u,l,v,i):ub14×Int×Int×(Int→Int→Option Int)×Int)=>
 bif (decide (i<l))then
 (zae (β:=(ub14×Int×Int×(Int→Int→Option Int)×Int)) (fun((g,h,m,j,n,e):ub14×Int×Int×(Int→Int→Option Int)×Int×Int)=>
 letJ (fun((f,o,p,q,s,c,x):ub14×Int×Int×(Int→Int→Option Int)×Int×Int×Bool)=>
 bif x then
 bif (decide (0≤(w (c-1)))&&decide ((w (c-1))<(f.length:Int)))then
 bif (decide (0≤c)&&decide (c<(f.length:Int)))then
 bif (decide (0≤c)&&decide (c<(f.length:Int)))then
 bif (decide (0≤(w (c-1)))&&decide ((w (c-1))<((List.set f (Int.toNat c) (List.getD f (Int.toNat (w (c-1))) 0)).length:Int)))then
 some (Sum.inl ((List.set (List.set f (Int.toNat c) (List.getD f (Int.toNat (w (c-1))) 0)) (Int.toNat (w (c-1))) (List.getD f (Int.toNat c) 0)),o,p,q,s,(w (c-1))))
 else none
 else none
 else none
 else none
 else
 some (Sum.inr (f,o,p,q,s))) fun t=>
 bif (decide (h<e))then
 bif (decide (0≤e)&&decide (e<(g.length:Int)))then
 bif (decide (0≤(w (e-1)))&&decide ((w (e-1))<(g.length:Int)))then
 (j (List.getD g (Int.toNat e) 0) (List.getD g (Int.toNat (w (e-1))) 0)).bind fun r=>
 t (g,h,m,j,n,e,(decide (r<0)))
 else none
 else none
 else
 t (g,h,m,j,n,e,false)) (k,u,l,v,i,i)).bind fun((y,z,aa,ab,ac):ub14×Int×Int×(Int→Int→Option Int)×Int)=>
 some (Sum.inl (y,z,aa,ab,(w (ac+1))))
 else
 some (Sum.inr k)) (data,a,b,cmp,(w (a+1)))).bind fun(ae:List Int)=>
 some ae
def sg288:Sig:=⟨[(y26,(.io (.own 3 .sh))),(y2,.sh),(y2,.sh),(y29,.bw)],[]⟩
theorem sim288:Sim Tryz.prog 288 sg288 d288:=uqz Tryz.func288 (zaa rfl) Tryz.call288 (by kernel_rfl) (by kernel_rfl) [] (uqs (.block (.loop [(0,uqd),(1,uqa),(2,uqa),(3,.v y29 .bw),(8,uqa)] [(.brk 0,[(0,uqd)])] (.seq (uqs (.cond .nil .nil)) (.seq (.block (uqs (.block (.loop [(0,uqd),(1,uqa),(2,uqa),(3,.v y29 .bw),(8,uqa),(9,uqa)] [(.brk 2,[(0,uqd),(1,uqa),(2,uqa),(3,.v y29 .bw),(8,uqa)])] (.seq (.join uqr [(0,uqd),(1,uqa),(2,uqa),(3,.v y29 .bw),(8,uqa),(9,uqa),(34,uqc)] (.cond .nil .nil)) (.seq (.block uqr) uqr)))))) uqr))))) fun xs=>by kernel_rfl
def E288:FnE Tryz.prog:=⟨288,sg288,d288,sim288⟩
def d289(_x0:List Int)(_x1:Int)(_x2:Int)(_x3:(Int→Int→Option Int)):Option ub14:=none
def sg289:Sig:=⟨[(y26,(.io (.own 3 .sh))),(y2,.sh),(y2,.sh),(y29,.bw)],[]⟩
theorem sim289:Sim Tryz.prog 289 sg289 d289:=⟨Tryz.call289,fun xs y h=>absurd (show(none:Option _)=some y from h) (by simp)⟩
def E289:FnE Tryz.prog:=⟨289,sg289,d289,sim289⟩
def d290(_x0:List Int)(_x1:Int)(_x2:Int)(_x3:(Int→Int→Option Int)):Option ub14:=none
def sg290:Sig:=⟨[(y26,(.io (.own 3 .sh))),(y2,.sh),(y2,.sh),(y29,.bw)],[]⟩
theorem sim290:Sim Tryz.prog 290 sg290 d290:=⟨Tryz.call290,fun xs y h=>absurd (show(none:Option _)=some y from h) (by simp)⟩
def E290:FnE Tryz.prog:=⟨290,sg290,d290,sim290⟩
def d291(_x0:List Int)(_x1:Int)(_x2:Int)(_x3:(Int→Int→Option Int)):Option (Int×Int×ub14):=none
def sg291:Sig:=⟨[(y26,(.io (.own 3 .sh))),(y2,.sh),(y2,.sh),(y29,.bw)],[(y2,.sh),(y2,.sh)]⟩
theorem sim291:Sim Tryz.prog 291 sg291 d291:=⟨Tryz.call291,fun xs y h=>absurd (show(none:Option _)=some y from h) (by simp)⟩
def E291:FnE Tryz.prog:=⟨291,sg291,d291,sim291⟩
def d292(_x0:List Int)(_x1:Int)(_x2:Int)(_x3:(Int→Int→Option Int)):Option ub14:=none
def sg292:Sig:=⟨[(y26,(.io (.own 3 .sh))),(y2,.sh),(y2,.sh),(y29,.bw)],[]⟩
theorem sim292:Sim Tryz.prog 292 sg292 d292:=⟨Tryz.call292,fun xs y h=>absurd (show(none:Option _)=some y from h) (by simp)⟩
def E292:FnE Tryz.prog:=⟨292,sg292,d292,sim292⟩
def d293(_x0:List Int)(_x1:Int)(_x2:Int)(_x3:(Int→Int→Option Int)):Option (Bool×ub14):=none
def sg293:Sig:=⟨[(y26,(.io (.own 3 .sh))),(y2,.sh),(y2,.sh),(y29,.bw)],[(y4,.sh)]⟩
theorem sim293:Sim Tryz.prog 293 sg293 d293:=⟨Tryz.call293,fun xs y h=>absurd (show(none:Option _)=some y from h) (by simp)⟩
def E293:FnE Tryz.prog:=⟨293,sg293,d293,sim293⟩
def d294(_x0:List Int)(_x1:Int)(_x2:Int)(_x3:Int)(_x4:(Int→Int→Option Int)):Option (Int×ub14):=none
def sg294:Sig:=⟨[(y26,(.io (.own 3 .sh))),(y2,.sh),(y2,.sh),(y2,.sh),(y29,.bw)],[(y2,.sh)]⟩
theorem sim294:Sim Tryz.prog 294 sg294 d294:=⟨Tryz.call294,fun xs y h=>absurd (show(none:Option _)=some y from h) (by simp)⟩
def E294:FnE Tryz.prog:=⟨294,sg294,d294,sim294⟩
def d295(_x0:List Int)(_x1:Int)(_x2:Int)(_x3:Int)(_x4:(Int→Int→Option Int)):Option (Int×Bool×ub14):=none
def sg295:Sig:=⟨[(y26,(.io (.own 3 .sh))),(y2,.sh),(y2,.sh),(y2,.sh),(y29,.bw)],[(y2,.sh),(y4,.sh)]⟩
theorem sim295:Sim Tryz.prog 295 sg295 d295:=⟨Tryz.call295,fun xs y h=>absurd (show(none:Option _)=some y from h) (by simp)⟩
def E295:FnE Tryz.prog:=⟨295,sg295,d295,sim295⟩
def d263F(al:ub14→Int→Int→Int→(Int→Int→Option Int)→Option ub14)(p0:List Int)(p1:Int)(p2:Int)(p3:Int)(p4:(Int→Int→Option Int)):Option ub14:=
 (zae (β:=ub14) (fun((p,b,c,u,k,v,am):ub14×Int×Int×Int×(Int→Int→Option Int)×Bool×Bool)=>
 bif (decide ((w (c-b))≤12))then
 (d288 p b c k).bind fun r=>
 some (Sum.inr r)
 else
 bif (decide (u=0))then
 (d289 p b c k).bind fun bo=>
 some (Sum.inr bo)
 else
 letJ (fun((bp,l,m,an,q,ao,ap,aq):ub14×Int×Int×Int×(Int→Int→Option Int)×Bool×Bool×Int)=>
 (d291 bp l m q).bind fun g=>
 letJ (fun((x,y,z,aa,ab,s,t,ac,ae,bq):ub14×Int×Int×Int×(Int→Int→Option Int)×Bool×Bool×Int×Int×Int)=>
 letJ (fun((h,i,ar,au,af,av,ax,ay,n):ub14×Int×Int×Int×(Int→Int→Option Int)×Bool×Bool×Int×Int)=>
 letJ (fun((az,j,e,o,f,br,bs,ba,bb,bt):ub14×Int×Int×Int×(Int→Int→Option Int)×Bool×Bool×Int×Int×Bool)=>
 bif bt then
 (d294 az j e bb f).bind fun bc=>
 some (Sum.inl (bc.2,bc.1,e,o,f,br,bs))
 else
 (d295 az j e bb f).bind fun a=>
 bif (decide ((w (a.1-j))<(w (e-a.1))))then
 (al a.2.2 j a.1 o f).bind fun bu=>
 some (Sum.inl (bu,(w (a.1+1)),e,o,f,(decide ((w (Int.tdiv ba 8))≤(w (a.1-j)))),a.2.1))
 else
 (al a.2.2 (w (a.1+1)) e o f).bind fun bv=>
 some (Sum.inl (bv,j,a.1,o,f,(decide ((w (Int.tdiv ba 8))≤(w (e-a.1)))),a.2.1))) fun be=>
 bif (decide (0<i))then
 bif (decide (0≤(w (i-1)))&&decide ((w (i-1))<(h.length:Int)))then
 bif (decide (0≤n)&&decide (n<(h.length:Int)))then
 (af (List.getD h (Int.toNat (w (i-1))) 0) (List.getD h (Int.toNat n) 0)).bind fun bx=>
 be (h,i,ar,au,af,av,ax,ay,n,!(decide (bx<0)))
 else none
 else none
 else
 be (h,i,ar,au,af,av,ax,ay,n,false)) fun bf=>
 letJ (fun((bg,ag,ah,bh,ai,bi,bj,bk,bl,bz):ub14×Int×Int×Int×(Int→Int→Option Int)×Bool×Bool×Int×Int×Bool)=>
 bif bz then
 (d293 bg ag ah ai).bind fun aj=>
 bif aj.1 then
 some (Sum.inr aj.2)
 else
 bf (aj.2,ag,ah,bh,ai,bi,bj,bk,bl)
 else
 bf (bg,ag,ah,bh,ai,bi,bj,bk,bl)) fun ak=>
 bif s then
 bif t then
 ak (x,y,z,aa,ab,s,t,ac,ae,(decide (bq=1)))
 else
 ak (x,y,z,aa,ab,s,t,ac,ae,false)
 else
 ak (x,y,z,aa,ab,s,t,ac,ae,false)) fun bm=>
 bif (decide (g.2.1=2))then
 (d292 g.2.2 l m q).bind fun ca=>
 bm (ca,l,m,an,q,ao,ap,aq,(w ((w (m-1))-(w (g.1-l)))),1)
 else
 bm (g.2.2,l,m,an,q,ao,ap,aq,g.1,g.2.1)) fun bn=>
 bif !v then
 (d290 p b c k).bind fun cb=>
 bn (cb,b,c,(w (u-1)),k,v,am,(w (c-b)))
 else
 bn (p,b,c,u,k,v,am,(w (c-b)))) (p0,p1,p2,p3,p4,true,true)).bind fun(cc:List Int)=>
 some cc
def sg263:Sig:=⟨[(y26,(.io (.own 3 .sh))),(y2,.sh),(y2,.sh),(y2,.sh),(y29,.bw)],[]⟩
def plan263:Plan:=(uqs (uqs (.block (.loop [(0,uqd),(1,uqa),(2,uqa),(3,uqa),(4,.v y29 .bw),(10,uqc),(11,uqc)] [(.ret,[(0,uqd)])] (.block (uqs (.seq (uqs (.cond (uqs .nil) .nil)) (.seq (uqs (.cond (uqs .nil) .nil)) (.join (uqs (.cond (uqs uqr) .nil)) [(0,uqd),(1,uqa),(2,uqa),(3,uqa),(4,.v y29 .bw),(10,uqc),(11,uqc),(12,uqa)] (.seq (.reg [] [{},{},{},{},{},{fl:=1}]) (.join (uqs (.cond (uqs (uqs uqr)) .nil)) [(0,uqd),(1,uqa),(2,uqa),(3,uqa),(4,.v y29 .bw),(10,uqc),(11,uqc),(12,uqa),(13,uqa),(14,uqa)] (.join (.join uqr [(0,uqd),(1,uqa),(2,uqa),(3,uqa),(4,.v y29 .bw),(10,uqc),(11,uqc),(12,uqa),(13,uqa),(75,uqc)] (.cond (uqs (.cond .nil .nil)) .nil)) [(0,uqd),(1,uqa),(2,uqa),(3,uqa),(4,.v y29 .bw),(10,uqc),(11,uqc),(12,uqa),(13,uqa)] (.seq (.join uqr [(0,uqd),(1,uqa),(2,uqa),(3,uqa),(4,.v y29 .bw),(10,uqc),(11,uqc),(12,uqa),(13,uqa),(97,uqc)] (.cond (uqs (uqs .nil)) .nil)) (.seq (.reg [] [{},{},{},{},{},{},{fl:=1}]) (uqs (uqs (uqs (uqs (.cond (uqs (uqs uqr)) (uqs (uqs uqr)))))))))))))))))))))
def d263N:Nat→Arr (ptys sg263.ps) (Option (Ret sg263.res))
 | 0=>fun _ _ _ _ _=>none
 |k+1=>d263F (d263N k)
theorem ev263(g:Arr (ptys sg263.ps) (Option (Ret sg263.res)))(h:Sim Tryz.prog 263 sg263 g)(xs:Vals (ptys sg263.ps)):evF (P:=Tryz.prog) tab [.fn E288,.fn E289,.fn E290,.fn E291,.fn E292,.fn E293,.fn E294,.fn E295,.fn ⟨263,sg263,g,h⟩] sg263 Tryz.f263.results.toList (code Tryz.f263) plan263 xs=d263F g xs.1 xs.2.1 xs.2.2.1 xs.2.2.2.1 xs.2.2.2.2.1:=by kernel_rfl
theorem sim263N:∀k,Sim Tryz.prog 263 sg263 (d263N k)
 | 0=>⟨Tryz.call263,fun xs y h=>absurd (show(none:Option _)=some y from h) (by simp)⟩
 |k+1=>sim_ev mixd tabOK Tryz.func263 (zaa rfl) Tryz.call263 (uqn (by kernel_rfl)) (by kernel_rfl) plan263 _ fun xs y h=>(ev263 _ (sim263N k) xs).trans h
def d263(p0:List Int)(p1:Int)(p2:Int)(p3:Int)(p4:(Int→Int→Option Int)):Option ub14:=d263N 2 p0 p1 p2 p3 p4
theorem sim263:Sim Tryz.prog 263 sg263 d263:=sim263N 2
def E263:FnE Tryz.prog:=⟨263,sg263,d263,sim263⟩
def d218(x:List Int)(cmp:(Int→Int→Option Int)):Option ub14:=
 (d183 (wu64 (x.length:Int))).bind fun r=>
 (d263 x 0 (x.length:Int) r cmp).bind fun a=>
 some a
def sg218:Sig:=⟨[(y26,(.io (.own 3 .sh))),(y29,.bw)],[]⟩
theorem sim218:Sim Tryz.prog 218 sg218 d218:=uqz Tryz.func218 (zaa rfl) Tryz.call218 (by kernel_rfl) (by kernel_rfl) [.fn E183,.fn E263] (uqs uqr) fun xs=>by kernel_rfl
def E218:FnE Tryz.prog:=⟨218,sg218,d218,sim218⟩
def d156(k:ub1)(votes:List Int)(quota:Int):Option ub14:=
 (d157 k 0).bind fun r=>
 (d171 r (fun a=>d217 a votes quota)).bind fun c=>
 (d218 c (fun e f=>d219 e f votes k)).bind fun b=>
 bif (zck 0 (bif (decide ((w (k.1.2.2.2.1-k.2.2.2.2.2.2.1))<(b.length:Int)))then(w (k.1.2.2.2.1-k.2.2.2.2.2.2.1))else(b.length:Int)) b.length)then
 some (List.take (Int.toNat (bif (decide ((w (k.1.2.2.2.1-k.2.2.2.2.2.2.1))<(b.length:Int)))then(w (k.1.2.2.2.1-k.2.2.2.2.2.2.1))else(b.length:Int))) b)
 else none
def sg156:Sig:=⟨[(y130,.bw),(y26,.bw),(y2,.sh)],[(y26,(.own 3 .sh))]⟩
theorem sim156:Sim Tryz.prog 156 sg156 d156:=uqz Tryz.func156 (zaa rfl) Tryz.call156 (by kernel_rfl) (by kernel_rfl) [.fn E157,.fn E171,.fn E217,.fn E218,.fn E219] (uqs (uqs (uqs (uqs .nil)))) fun xs=>by kernel_rfl
def E156:FnE Tryz.prog:=⟨156,sg156,d156,sim156⟩
def d155(k:ub1)(r:ub5)(candidates:List Int):Option ub0:=
 (zae (β:=ub0) (fun((a,b,e,g,c):ub1×ub5×ub14×Int×Int)=>
 bif (decide (c<g))then
 bif (decide (0≤c)&&decide (c<(e.length:Int)))then
 bif (decide (0≤(List.getD e (Int.toNat c) 0))&&decide ((List.getD e (Int.toNat c) 0)<(a.2.2.2.2.1.length:Int)))then
 bif (decide ((b.2.2.2.2.2.1.length:Int)+(([(List.getD e (Int.toNat c) 0)]:List Int).length:Int)≤LIM))then
 some (Sum.inl ((a.1,a.2.1,a.2.2.1,a.2.2.2.1,(List.set a.2.2.2.2.1 (Int.toNat (List.getD e (Int.toNat c) 0)) 1),a.2.2.2.2.2.1,(w (a.2.2.2.2.2.2.1+1)),a.2.2.2.2.2.2.2),(b.1,b.2.1,b.2.2.1,b.2.2.2.1,b.2.2.2.2.1,(b.2.2.2.2.2.1++[(List.getD e (Int.toNat c) 0)]),b.2.2.2.2.2.2),e,g,(w (c+1))))
 else none
 else none
 else none
 else
 some (Sum.inr (a,b))) (k,r,candidates,(candidates.length:Int),0)).bind fun((h,f):ub1×ub5)=>
 (d98 f.2.2.2.2.2.1).bind fun i=>
 some (h,(f.1,f.2.1,f.2.2.1,f.2.2.2.1,f.2.2.2.2.1,i,f.2.2.2.2.2.2))
def sg155:Sig:=⟨[(y130,(.io (.own 0 (.pr .sh (.pr .sh (.pr .sh (.pr .sh (.pr (.own 3 .sh) (.pr (.own 3 .sh) (.pr .sh (.pr (.own 97 .sh) (.pr .sh (.pr .sh (.pr .sh (.pr .sh (.pr .sh (.pr .sh (.pr (.own 103 .sh) (.own 3 .sh))))))))))))))))))),(y194,(.io (.own 0 (.pr .sh (.pr .sh (.pr .sh (.pr .sh (.pr .sh (.pr (.own 3 .sh) (.pr .sh .sh)))))))))),(y26,.bw)],[]⟩
theorem sim155:Sim Tryz.prog 155 sg155 d155:=uqz Tryz.func155 (zaa rfl) Tryz.call155 (by kernel_rfl) (by kernel_rfl) [.fn E98] (.seq (uqs (.block (.loop [(0,.v y130 (.own 0 (.pr .sh (.pr .sh (.pr .sh (.pr .sh (.pr (.own 3 .sh) (.pr (.own 3 .sh) (.pr .sh (.pr (.own 97 .sh) (.pr .sh (.pr .sh (.pr .sh (.pr .sh (.pr .sh (.pr .sh (.pr (.own 103 .sh) (.own 3 .sh)))))))))))))))))),(1,.v y194 (.own 0 (.pr .sh (.pr .sh (.pr .sh (.pr .sh (.pr .sh (.pr (.own 3 .sh) (.pr .sh .sh))))))))),(8,uqb),(9,uqa),(10,uqa)] [(.brk 0,[(0,.v y130 (.own 0 (.pr .sh (.pr .sh (.pr .sh (.pr .sh (.pr (.own 3 .sh) (.pr (.own 3 .sh) (.pr .sh (.pr (.own 97 .sh) (.pr .sh (.pr .sh (.pr .sh (.pr .sh (.pr .sh (.pr .sh (.pr (.own 103 .sh) (.own 3 .sh)))))))))))))))))),(1,.v y194 (.own 0 (.pr .sh (.pr .sh (.pr .sh (.pr .sh (.pr .sh (.pr (.own 3 .sh) (.pr .sh .sh)))))))))])] (uqs (.seq (.cond .nil .nil) (.seq (.block (uqs (uqs (uqs uqr)))) uqr)))))) uqr) fun xs=>by kernel_rfl
def E155:FnE Tryz.prog:=⟨155,sg155,d155,sim155⟩
def d220(digits:Int):Option Int:=
 letJ (fun((b,c):Int×Bool)=>
 bif c then
 some 0
 else
 (d87 (w (Int.tdiv b 2))).bind fun r=>
 some r) fun a=>
 bif !(decide (digits<1))then
 a (digits,(decide (6<digits)))
 else
 a (digits,true)
def sg220:Sig:=⟨[(y2,.sh)],[(y2,.sh)]⟩
theorem sim220:Sim Tryz.prog 220 sg220 d220:=uqz Tryz.func220 (zaa rfl) Tryz.call220 (by kernel_rfl) (by kernel_rfl) [.fn E87] (uqs (.seq (.join uqr [(0,uqa),(8,uqc)] (.cond (uqs .nil) .nil)) (uqs .nil))) fun xs=>by kernel_rfl
def E220:FnE Tryz.prog:=⟨220,sg220,d220,sim220⟩
def d158(k:ub1)(surplus:Int)(rounds:Int):Option Bool:=
 letJ (fun((a,c,e):ub1×Int×Bool)=>
 bif e then
 some true
 else
 bif (decide (0≤(w ((a.2.2.2.2.2.2.2.2.2.2.2.2.2.2.1.length:Int)-1))))then
 bif (decide (0≤(w ((a.2.2.2.2.2.2.2.2.2.2.2.2.2.2.1.length:Int)-1)))&&decide ((w ((a.2.2.2.2.2.2.2.2.2.2.2.2.2.2.1.length:Int)-1))<(a.2.2.2.2.2.2.2.2.2.2.2.2.2.2.1.length:Int)))then
 bif (decide ((((((((((List.getD a.2.2.2.2.2.2.2.2.2.2.2.2.2.2.1 (Int.toNat (w ((a.2.2.2.2.2.2.2.2.2.2.2.2.2.2.1.length:Int)-1))) ([],[],(false,[],[]),(false,[],[]),(false,[],[]),[],[],[])).2).2).2).2).2).2).1).length:Int)=0))then
 some (decide (a.2.2.2.2.2.2.2.2.2.1≤c))
 else
 some false
 else none
 else
 some false) fun b=>
 (d220 k.1.2.2.2.2.2.1).bind fun r=>
 bif !(decide (surplus<r))then
 b (k,surplus,(decide (60≤(w (rounds-k.2.2.2.2.2.2.2.2.1)))))
 else
 b (k,surplus,true)
def sg158:Sig:=⟨[(y130,.bw),(y2,.sh),(y2,.sh)],[(y4,.sh)]⟩
theorem sim158:Sim Tryz.prog 158 sg158 d158:=uqz Tryz.func158 (zaa rfl) Tryz.call158 (by kernel_rfl) (by kernel_rfl) [.fn E220] (uqs (.seq (.join uqr [(0,.v y130 .bw),(1,uqa),(24,uqc)] (.cond (uqs .nil) .nil)) (uqs (uqs .nil)))) fun xs=>by kernel_rfl
def E158:FnE Tryz.prog:=⟨158,sg158,d158,sim158⟩
def d221(c:Int)(p1:List Int)(p2:Int)(p3:Int):Option Bool:=
 bif (decide (0≤c)&&decide (c<(p1.length:Int)))then
 some (decide ((w (p2+p3))<(List.getD p1 (Int.toNat c) 0)))
 else none
def sg221:Sig:=⟨[(y2,.bw),((.ptr y26),.bw),(y281,.bw),(y281,.bw)],[(y4,.sh)]⟩
theorem sim221:Sim Tryz.prog 221 sg221 d221:=uqz Tryz.func221 (zaa rfl) Tryz.call221 (by kernel_rfl) (by kernel_rfl) [] (uqs (uqs .nil)) fun xs=>by kernel_rfl
def E221:FnE Tryz.prog:=⟨221,sg221,d221,sim221⟩
def d159(p0:ub1)(p1:ub5)(p2:List Int)(p3:Int):Option ub0:=
 (d157 p0 0).bind fun r=>
 bif (decide (0≤0)&&decide (0<(r.length:Int)))then
 bif (decide (0≤(List.getD r 0 0))&&decide ((List.getD r 0 0)<(p2.length:Int)))then
 (zae (β:=(ub1×ub5×ub14×Int×ub14×Int)) (fun((m,n,j,o,g,l,p,e):ub1×ub5×ub14×Int×ub14×Int×Int×Int)=>
 bif (decide (e<p))then
 bif (decide (0≤e)&&decide (e<(g.length:Int)))then
 bif (decide (0≤(List.getD g (Int.toNat e) 0))&&decide ((List.getD g (Int.toNat e) 0)<(j.length:Int)))then
 some (Sum.inl (m,n,j,o,g,(bif (decide ((List.getD j (Int.toNat (List.getD g (Int.toNat e) 0)) 0)<l))then(List.getD j (Int.toNat (List.getD g (Int.toNat e) 0)) 0)else l),p,(w (e+1))))
 else none
 else none
 else
 some (Sum.inr (m,n,j,o,g,l))) (p0,p1,p2,p3,r,(List.getD p2 (Int.toNat (List.getD r 0 0)) 0),(r.length:Int),0)).bind fun((b,f,t,u,v,x):ub1×ub5×ub14×Int×ub14×Int)=>
 (d171 v (fun a=>d221 a t x u)).bind fun k=>
 bif (decide (0≤0)&&decide (0<(k.length:Int)))then
 letJ (fun((c,h,i):ub1×ub5×Int)=>
 bif (decide (0≤i)&&decide (i<(c.2.2.2.2.1.length:Int)))then
 bif (decide (0≤i)&&decide (i<(c.2.2.2.2.2.1.length:Int)))then
 some ((c.1,c.2.1,c.2.2.1,c.2.2.2.1,(List.set c.2.2.2.2.1 (Int.toNat i) 2),(List.set c.2.2.2.2.2.1 (Int.toNat i) 0),c.2.2.2.2.2.2),(h.1,h.2.1,h.2.2.1,h.2.2.2.1,h.2.2.2.2.1,h.2.2.2.2.2.1,[i],h.2.2.2.2.2.2.2))
 else none
 else none) fun q=>
 bif (decide (1<(k.length:Int)))then
 (d150 b.1.2.2.2.2.2.2.1 b.2.2.2.2.2.2.2.1 k b.2.2.1 true).bind fun s=>
 q ((b.1,b.2.1,b.2.2.1,b.2.2.2.1,b.2.2.2.2.1,b.2.2.2.2.2.1,b.2.2.2.2.2.2.1,s.2.2,b.2.2.2.2.2.2.2.2),(f.1,f.2.1,f.2.2.1,f.2.2.2.1,f.2.2.2.2.1,f.2.2.2.2.2.1,f.2.2.2.2.2.2.1,k),s.1)
 else
 q (b,f,(List.getD k 0 0))
 else none
 else none
 else none
def sg159:Sig:=⟨[(y130,(.io (.own 0 (.pr .sh (.pr .sh (.pr .sh (.pr .sh (.pr (.own 3 .sh) (.pr (.own 3 .sh) (.pr .sh (.pr (.own 97 .sh) (.pr .sh (.pr .sh (.pr .sh (.pr .sh (.pr .sh (.pr .sh (.pr (.own 103 .sh) (.own 3 .sh))))))))))))))))))),(y194,(.io (.own 0 (.pr .sh (.pr .sh (.pr .sh (.pr .sh (.pr .sh (.pr (.own 3 .sh) (.pr .sh .sh)))))))))),(y26,.bw),(y2,.sh)],[]⟩
theorem sim159:Sim Tryz.prog 159 sg159 d159:=uqz Tryz.func159 (zaa rfl) Tryz.call159 (by kernel_rfl) (by kernel_rfl) [.fn E157,.fn E171,.fn E221,.fn E150] (uqs (uqs (uqs (.seq (uqs (.block (.loop [(0,.v y130 (.own 0 (.pr .sh (.pr .sh (.pr .sh (.pr .sh (.pr (.own 3 .sh) (.pr (.own 3 .sh) (.pr .sh (.pr (.own 97 .sh) (.pr .sh (.pr .sh (.pr .sh (.pr .sh (.pr .sh (.pr .sh (.pr (.own 103 .sh) (.own 3 .sh)))))))))))))))))),(1,.v y194 (.own 0 (.pr .sh (.pr .sh (.pr .sh (.pr .sh (.pr .sh (.pr (.own 3 .sh) (.pr .sh .sh))))))))),(6,.v (.ptr y26) (.own 0 .bw)),(7,.v y281 (.own 0 .sh)),(8,uqd),(9,.v y281 (.own 0 .sh)),(22,.view 8 []),(23,uqa),(24,uqa)] [(.brk 0,[(0,.v y130 (.own 0 (.pr .sh (.pr .sh (.pr .sh (.pr .sh (.pr (.own 3 .sh) (.pr (.own 3 .sh) (.pr .sh (.pr (.own 97 .sh) (.pr .sh (.pr .sh (.pr .sh (.pr .sh (.pr .sh (.pr .sh (.pr (.own 103 .sh) (.own 3 .sh)))))))))))))))))),(1,.v y194 (.own 0 (.pr .sh (.pr .sh (.pr .sh (.pr .sh (.pr .sh (.pr (.own 3 .sh) (.pr .sh .sh))))))))),(6,.v (.ptr y26) (.own 0 .bw)),(7,.v y281 (.own 0 .sh)),(8,uqd),(9,.v y281 (.own 0 .sh))])] (uqs (.seq (.cond .nil .nil) (.seq (.block (uqs uqr)) uqr)))))) (uqs (uqs (.join (uqs (.cond (.seq (.reg [(12,[])] []) (.reg [] [{},{},{},{},{},{},{},{},{},{},{},{},{},{},{},{fl:=1}])) .nil)) [(0,.v y130 (.own 0 (.pr .sh (.pr .sh (.pr .sh (.pr .sh (.pr (.own 3 .sh) (.pr (.own 3 .sh) (.pr .sh (.pr (.own 97 .sh) (.pr .sh (.pr .sh (.pr .sh (.pr .sh (.pr .sh (.pr .sh (.pr (.own 103 .sh) (.own 3 .sh)))))))))))))))))),(1,.v y194 (.own 0 (.pr .sh (.pr .sh (.pr .sh (.pr .sh (.pr .sh (.pr (.own 3 .sh) (.pr .sh .sh))))))))),(13,uqa)] (uqs (.seq (.reg [(1,[0,1,1,1,1,1,1,0])] []) uqr))))))))) fun xs=>by kernel_rfl
def E159:FnE Tryz.prog:=⟨159,sg159,d159,sim159⟩
def d160(k:ub1)(votes:List Int)(quota:Int):Option ub1:=
 (d157 k 1).bind fun r=>
 (zae (β:=ub1) (fun((b,e,f,c,g,a):ub1×ub14×Int×ub14×Int×Int)=>
 bif (decide (a<g))then
 letJ (fun((j,l,m,n,o,p):ub1×ub14×Int×ub14×Int×Int)=>
 some (Sum.inl (j,l,m,n,o,(w (p+1))))) fun h=>
 bif (decide (0≤a)&&decide (a<(c.length:Int)))then
 bif (decide (0≤(List.getD c (Int.toNat a) 0))&&decide ((List.getD c (Int.toNat a) 0)<(e.length:Int)))then
 bif (decide (0<(List.getD e (Int.toNat (List.getD c (Int.toNat a) 0)) 0)))then
 bif (decide (0≤(List.getD c (Int.toNat a) 0))&&decide ((List.getD c (Int.toNat a) 0)<(b.2.2.2.2.2.1.length:Int)))then
 (d216 (w ((List.getD b.2.2.2.2.2.1 (Int.toNat (List.getD c (Int.toNat a) 0)) 0)*f)) b.2.2.2.1).bind fun q=>
 bif (decide (0≤(List.getD c (Int.toNat a) 0))&&decide ((List.getD c (Int.toNat a) 0)<(e.length:Int)))then
 (d216 (w (q*b.2.2.2.1)) (List.getD e (Int.toNat (List.getD c (Int.toNat a) 0)) 0)).bind fun i=>
 bif (decide (0≤(List.getD c (Int.toNat a) 0))&&decide ((List.getD c (Int.toNat a) 0)<(b.2.2.2.2.2.1.length:Int)))then
 h ((b.1,b.2.1,b.2.2.1,b.2.2.2.1,b.2.2.2.2.1,(List.set b.2.2.2.2.2.1 (Int.toNat (List.getD c (Int.toNat a) 0)) (bif (decide (i<b.2.2.2.1))then i else b.2.2.2.1)),b.2.2.2.2.2.2),e,f,c,g,a)
 else none
 else none
 else none
 else
 h (b,e,f,c,g,a)
 else none
 else none
 else
 some (Sum.inr b)) (k,votes,quota,r,(r.length:Int),0)).bind fun(s:ub1)=>
 some s
def sg160:Sig:=⟨[(y130,(.io (.own 0 (.pr .sh (.pr .sh (.pr .sh (.pr .sh (.pr (.own 3 .sh) (.pr (.own 3 .sh) (.pr .sh (.pr (.own 97 .sh) (.pr .sh (.pr .sh (.pr .sh (.pr .sh (.pr .sh (.pr .sh (.pr (.own 103 .sh) (.own 3 .sh))))))))))))))))))),(y26,.bw),(y2,.sh)],[]⟩
theorem sim160:Sim Tryz.prog 160 sg160 d160:=uqz Tryz.func160 (zaa rfl) Tryz.call160 (by kernel_rfl) (by kernel_rfl) [.fn E157,.fn E216] (uqs (.block (.loop [(0,.v y130 (.own 0 (.pr .sh (.pr .sh (.pr .sh (.pr .sh (.pr (.own 3 .sh) (.pr (.own 3 .sh) (.pr .sh (.pr (.own 97 .sh) (.pr .sh (.pr .sh (.pr .sh (.pr .sh (.pr .sh (.pr .sh (.pr (.own 103 .sh) (.own 3 .sh)))))))))))))))))),(1,uqb),(2,uqa),(9,uqd),(10,uqa),(11,uqa)] [(.brk 0,[(0,.v y130 (.own 0 (.pr .sh (.pr .sh (.pr .sh (.pr .sh (.pr (.own 3 .sh) (.pr (.own 3 .sh) (.pr .sh (.pr (.own 97 .sh) (.pr .sh (.pr .sh (.pr .sh (.pr .sh (.pr .sh (.pr .sh (.pr (.own 103 .sh) (.own 3 .sh))))))))))))))))))])] (uqs (.seq (.cond .nil .nil) (.join (.block (uqs (uqs (.cond uqr .nil)))) [(0,.v y130 (.own 0 (.pr .sh (.pr .sh (.pr .sh (.pr .sh (.pr (.own 3 .sh) (.pr (.own 3 .sh) (.pr .sh (.pr (.own 97 .sh) (.pr .sh (.pr .sh (.pr .sh (.pr .sh (.pr .sh (.pr .sh (.pr (.own 103 .sh) (.own 3 .sh)))))))))))))))))),(1,uqb),(2,uqa),(9,uqd),(10,uqa),(11,uqa)] uqr)))))) fun xs=>by kernel_rfl
def E160:FnE Tryz.prog:=⟨160,sg160,d160,sim160⟩
end
end Go.Proofs.YtamgmpngdmnadaaGreat
