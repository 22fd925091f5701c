/- Part 10 of what stands below the statement. -/
import Derived.Test.YtmipjomnjkmdbaaGreatU9
open Go Go.Proofs Go.X
namespace Go.Proofs.YtmipjomnjkmdbaaGreat
set_option linter.unusedVariables false
set_option maxRecDepth 100000
noncomputable section
abbrev ub12:=(Bool×(List Int×List Int))
abbrev ub6:=(List ub12×(List ub12×(ub12×(ub12×(ub12×(List Int×(List Int×List Int)))))))
abbrev ub4:=(Int×(Int×(Int×(Int×(List ub6×List Int)))))
abbrev ub5:=(List ub6)
abbrev ub8:=(List Int×(Int×(Int×ub12)))
abbrev ub11:=(List ub12)
abbrev ub9:=(List ub11)
abbrev ub16:=(List Int×Int)
abbrev ub13:=(List ub16)
abbrev ub17:=(List Bool)
abbrev ub10:=(List ub17×(List Bool×List Int))
abbrev ub14:=(List ub17)
abbrev ub18:=(List Int)
abbrev ub7:=(List Int×(List ub18×(Int×(Int×(Int×(Int×(Int×(Int×Int))))))))
abbrev ub3:=(ub7×(List Int×(Int×(Int×(List ub8×(List Int×(List ub12×(Int×(List ub11×ub4)))))))))
abbrev ub0:=(ub4×ub3)
abbrev ub1:=(ub3×ub6)
abbrev ub2:=(ub3×ub11)
abbrev ub15:=(List ub18)
abbrev ub19:=Int×ub13×ub18×ub7×Int×Bool×Bool
def d19(gs:List ub16):Option Bool:=
 (zaa (β:=ub13⊕Bool) (fun((a,i):ub13×Int)=>
   bif (decide (i<(a.length:Int)))then
    bif (decide (0≤i)&&decide (i<(a.length:Int)))then
     bif (decide (12<(((List.getD a (Int.toNat i) ([],0)).1).length:Int)))then
      some (Sum.inr (Sum.inr false))
     else
      some (Sum.inl (a,(w (i+1))))
    else none
   else
    some (Sum.inr (Sum.inl a))) (gs,0)).bind fun
 |Sum.inl b=>
  some (decide ((b.length:Int)≤60))
 |Sum.inr c=>
  some c
def sg19:Sig:=⟨[(y25,.bw)],[(y4,.sh)]⟩
theorem sim19:Sim Tryz.prog 19 sg19 d19:=uqz Tryz.func19 (zac rfl) Tryz.call19 (by kernel_rfl) (by kernel_rfl) [] (uqs (.seq (uqs (.block (.loop [(0,uqe),(3,uqa)] [(.brk 0,[(0,uqe)]),(.ret,[(2,uqc)])] (.seq (uqs (.cond .nil .nil)) (.seq (.block (uqs (.cond (uqs .nil) .nil))) uqr))))) (uqs .nil))) fun xs=>by kernel_rfl
def E19:FnE Tryz.prog:=⟨19,sg19,d19,sim19⟩
def d20(l:List ub18):Option Bool:=
 (zaa (β:=ub15⊕Bool) (fun((a,i):ub15×Int)=>
   bif (decide (i<(a.length:Int)))then
    bif (decide (0≤i)&&decide (i<(a.length:Int)))then
     bif (decide (12<((List.getD a (Int.toNat i) []).length:Int)))then
      some (Sum.inr (Sum.inr false))
     else
      some (Sum.inl (a,(w (i+1))))
    else none
   else
    some (Sum.inr (Sum.inl a))) (l,0)).bind fun
 |Sum.inl b=>
  some (decide ((b.length:Int)≤16))
 |Sum.inr c=>
  some c
def d49(l:List Int)(x:Int):Option Bool:=
 (zaa (β:=Unit⊕Bool) (fun((a,b,i):ub18×Int×Int)=>
   bif (decide (i<(a.length:Int)))then
    bif (decide (0≤i)&&decide (i<(a.length:Int)))then
     bif (decide ((List.getD a (Int.toNat i) 0)=b))then
      some (Sum.inr (Sum.inr true))
     else
      some (Sum.inl (a,b,(w (i+1))))
    else none
   else
    some (Sum.inr (Sum.inl ()))) (l,x,0)).bind fun
 |Sum.inl _=>
  some false
 |Sum.inr c=>
  some c
def sg49:Sig:=⟨[(y26,.bw),(y2,.sh)],[(y4,.sh)]⟩
theorem sim49:Sim Tryz.prog 49 sg49 d49:=uqz Tryz.func49 (zac rfl) Tryz.call49 (by kernel_rfl) (by kernel_rfl) [] (uqs (.seq (uqs (.block (.loop [(0,uqb),(1,uqa),(5,uqa)] [(.brk 0,[]),(.ret,[(4,uqc)])] (.seq (uqs (.cond .nil .nil)) (.seq (.block (uqs (.cond (uqs .nil) .nil))) uqr))))) (uqs .nil))) fun xs=>by kernel_rfl
def E49:FnE Tryz.prog:=⟨49,sg49,d49,sim49⟩
def d32(n:Int)(p:List Int):Option Bool:=
 (zaa (β:=Unit⊕Bool) (fun((b,a,i):Int×ub18×Int)=>
   bif (decide (i<(a.length:Int)))then
    letJ (fun((e,f,g,h):Int×ub18×Int×Bool)=>
      bif h then
       some (Sum.inr (Sum.inr false))
      else
       some (Sum.inl (e,f,(w (g+1))))) fun c=>
    bif (decide (0≤i)&&decide (i<(a.length:Int)))then
     bif !(decide ((List.getD a (Int.toNat i) 0)<0))then
      bif (decide (0≤i)&&decide (i<(a.length:Int)))then
       bif !(decide (b≤(List.getD a (Int.toNat i) 0)))then
        bif (zbz 0 i a.length)then
         bif (decide (0≤i)&&decide (i<(a.length:Int)))then
          (d49 (List.drop 0 (List.take (Int.toNat i) a)) (List.getD a (Int.toNat i) 0)).bind fun r=>
          c (b,a,i,r)
         else none
        else none
       else
        c (b,a,i,true)
      else none
     else
      c (b,a,i,true)
    else none
   else
    some (Sum.inr (Sum.inl ()))) (n,p,0)).bind fun
 |Sum.inl _=>
  some true
 |Sum.inr j=>
  some j
def sg32:Sig:=⟨[(y2,.sh),(y26,.bw)],[(y4,.sh)]⟩
theorem sim32:Sim Tryz.prog 32 sg32 d32:=uqz Tryz.func32 (zac rfl) Tryz.call32 (by kernel_rfl) (by kernel_rfl) [.fn E49] (uqs (.seq (uqs (.block (.loop [(0,uqa),(1,uqb),(5,uqa)] [(.brk 0,[]),(.ret,[(4,uqc)])] (.seq (uqs (.cond .nil .nil)) (.seq (.block (.join uqr [(0,uqa),(1,uqb),(5,uqa),(34,uqc)] (.cond (uqs .nil) .nil))) uqr))))) (uqs .nil))) fun xs=>by kernel_rfl
def E32:FnE Tryz.prog:=⟨32,sg32,d32,sim32⟩
def d97(a:List Int)(b:List Int):Option Bool:=
 (zaa (β:=(ub18×ub18)⊕Bool) (fun((g,h,i):ub18×ub18×Int)=>
   letJ (fun((e,f,c,k):ub18×ub18×Int×Bool)=>
     bif k then
      bif (decide (0≤c)&&decide (c<(e.length:Int)))then
       bif (decide (0≤c)&&decide (c<(f.length:Int)))then
        bif !(decide ((List.getD e (Int.toNat c) 0)=(List.getD f (Int.toNat c) 0)))then
         bif (decide (0≤c)&&decide (c<(e.length:Int)))then
          bif (decide (0≤c)&&decide (c<(f.length:Int)))then
           some (Sum.inr (Sum.inr (decide ((List.getD e (Int.toNat c) 0)<(List.getD f (Int.toNat c) 0)))))
          else none
         else none
        else
         some (Sum.inl (e,f,(w (c+1))))
       else none
      else none
     else
      some (Sum.inr (Sum.inl (e,f)))) fun j=>
   bif (decide (i<(g.length:Int)))then
    j (g,h,i,(decide (i<(h.length:Int))))
   else
    j (g,h,i,false)) (a,b,0)).bind fun
 |Sum.inl (l,m)=>
  some (decide ((l.length:Int)<(m.length:Int)))
 |Sum.inr n=>
  some n
def sg97:Sig:=⟨[(y26,.bw),(y26,.bw)],[(y4,.sh)]⟩
theorem sim97:Sim Tryz.prog 97 sg97 d97:=uqz Tryz.func97 (zac rfl) Tryz.call97 (by kernel_rfl) (by kernel_rfl) [] (uqs (.seq (uqs (.block (.loop [(0,uqb),(1,uqb),(5,uqa)] [(.brk 0,[(0,uqb),(1,uqb)]),(.ret,[(4,uqc)])] (.seq (.join uqr [(0,uqb),(1,uqb),(5,uqa),(15,uqc)] (.cond .nil .nil)) (.seq (.block (uqs (.cond (uqs .nil) .nil))) uqr))))) (uqs .nil))) fun xs=>by kernel_rfl
def E97:FnE Tryz.prog:=⟨97,sg97,d97,sim97⟩
def d38(a:List Int)(b:List Int):Option Bool:=
 (d97 a b).bind fun r=>
 bif !r then
 (d97 b a).bind fun c=>
 some (!c)
 else
 some false
def sg38:Sig:=⟨[(y26,.bw),(y26,.bw)],[(y4,.sh)]⟩
theorem sim38:Sim Tryz.prog 38 sg38 d38:=uqz Tryz.func38 (zac rfl) Tryz.call38 (by kernel_rfl) (by kernel_rfl) [.fn E97] (uqs (uqs .nil)) fun xs=>by kernel_rfl
def E38:FnE Tryz.prog:=⟨38,sg38,d38,sim38⟩
def d98(gs:List ub16)(p:List Int)(k:Int):Option ub13:=
 (zaa (β:=(ub18×Int×ub13×Bool)) (fun((a,f,h,out,done,i):ub13×ub18×Int×ub13×Bool×Int)=>
 bif (decide (i<(a.length:Int)))then
 letJ (fun((y,z,aa,ab,ac,ae):ub13×ub18×Int×ub13×Bool×Int)=>
 some (Sum.inl (y,z,aa,ab,ac,(w (ae+1))))) fun n=>
 bif (decide (0≤i)&&decide (i<(a.length:Int)))then
 letJ (fun((af,ag,ah,o,ai,aj,q):ub13×ub18×Int×ub13×Bool×Int×ub16)=>
 bif (decide ((o.length:Int)+(([q]:List ub16).length:Int)≤LIM))then
 n (af,ag,ah,(o++[q]),ai,aj)
 else none) fun s=>
 letJ (fun((j,c,b,e,ak,l,g,al):ub13×ub18×Int×ub13×Bool×Int×ub16×Bool)=>
 bif al then
 (d38 g.1 c).bind fun am=>
 bif am then
 bif (decide ((e.length:Int)+(([(g.1,(w (g.2+b)))]:List ub16).length:Int)≤LIM))then
 n (j,c,b,(e++[(g.1,(w (g.2+b)))]),true,l)
 else none
 else
 bif (decide ((e.length:Int)+(([(c,b)]:List ub16).length:Int)≤LIM))then
 s (j,c,b,(e++[(c,b)]),true,l,g)
 else none
 else
 s (j,c,b,e,ak,l,g)) fun t=>
 bif !done then
 (d97 ((List.getD a (Int.toNat i) ([],0)).1) f).bind fun r=>
 t (a,f,h,out,done,i,(List.getD a (Int.toNat i) ([],0)),!r)
 else
 t (a,f,h,out,done,i,(List.getD a (Int.toNat i) ([],0)),false)
 else none
 else
 some (Sum.inr (f,h,out,done))) (gs,p,k,[],false,0)).bind fun((u,v,m,an):ub18×Int×ub13×Bool)=>
 letJ (fun(ao:List ub16)=>
 some ao) fun x=>
 bif !an then
 bif (decide ((m.length:Int)+(([(u,v)]:List ub16).length:Int)≤LIM))then
 x (m++[(u,v)])
 else none
 else
 x m
def sg98:Sig:=⟨[(y25,.sh),(y26,.sh),(y2,.sh)],[(y25,(.own 92 .sh))]⟩
theorem sim98:Sim Tryz.prog 98 sg98 d98:=uqz Tryz.func98 (zac rfl) Tryz.call98 (by kernel_rfl) (by kernel_rfl) [.fn E97,.fn E38] (uqs (.seq (.reg [] [{fl:=2}]) (uqs (.seq (uqs (.block (.loop [(0,.v y25 .sh),(1,uqf),(2,uqa),(7,.v y25 (.own 92 .sh)),(8,uqc),(9,uqa)] [(.brk 0,[(1,uqf),(2,uqa),(7,.v y25 (.own 92 .sh)),(8,uqc)])] (.seq (uqs (.cond .nil .nil)) (.join (.block (uqs (.join (.join uqr [(0,.v y25 .sh),(1,uqf),(2,uqa),(7,.v y25 (.own 92 .sh)),(8,uqc),(9,uqa),(10,.v (.ptr y92) (.own 0 .sh)),(29,uqc)] (.cond (uqs (.seq (uqs (.cond (uqs .nil) .nil)) uqr)) .nil)) [(0,.v y25 .sh),(1,uqf),(2,uqa),(7,.v y25 (.own 92 .sh)),(8,uqc),(9,uqa),(10,.v (.ptr y92) (.own 0 .sh))] uqr))) [(0,.v y25 .sh),(1,uqf),(2,uqa),(7,.v y25 (.own 92 .sh)),(8,uqc),(9,uqa)] uqr))))) (.join (uqs (.cond uqr .nil)) [(7,.v y25 (.own 92 .sh))] (uqs .nil)))))) fun xs=>by kernel_rfl
def E98:FnE Tryz.prog:=⟨98,sg98,d98,sim98⟩
def d48(n:Int)(ballots:List ub18):Option (ub13×Int):=
 letJ (fun((f,b,g):Int×ub15×Bool)=>
   bif g then
    some ([],4)
   else
    bif (decide (100000<(b.length:Int)))then
     some ([],7)
    else
     (zaa (β:=ub13⊕(ub13×Int)) (fun((c,a,gs,i):Int×ub15×ub13×Int)=>
       bif (decide (i<(a.length:Int)))then
        bif (decide (0≤i)&&decide (i<(a.length:Int)))then
         (d32 c (List.getD a (Int.toNat i) [])).bind fun r=>
         bif !r then
          some (Sum.inr (Sum.inr ([],8)))
         else
          bif (decide (0≤i)&&decide (i<(a.length:Int)))then
           bif (decide ((([]:List Int).length:Int)+((List.getD a (Int.toNat i) []).length:Int)≤LIM))then
            (d98 gs (List.getD a (Int.toNat i) []) 1).bind fun h=>
            some (Sum.inl (c,a,h,(w (i+1))))
           else none
          else none
        else none
       else
        some (Sum.inr (Sum.inl gs))) (f,b,[],0)).bind fun
     |Sum.inl j=>
      some (j,0)
     |Sum.inr (k,l)=>
      some (k,l)) fun e=>
 bif !(decide (n<1))then
  e (n,ballots,(decide (7<n)))
 else
  e (n,ballots,true)
def sg48:Sig:=⟨[(y2,.sh),(y27,.bw)],[(y25,.sh),(y2,.sh)]⟩
theorem sim48:Sim Tryz.prog 48 sg48 d48:=uqz Tryz.func48 (zac rfl) Tryz.call48 (by kernel_rfl) (by kernel_rfl) [.fn E32,.fn E98] (.post (uqs (.seq (.join uqr [(0,uqa),(1,.v y27 .bw),(13,uqc)] (.cond (uqs .nil) .nil)) (.seq (uqs (.cond (uqs .nil) .nil)) (.seq (.reg [] [{fl:=2}]) (.seq (uqs (.block (.loop [(0,uqa),(1,.v y27 .bw),(6,.v y25 (.own 92 .sh)),(7,uqa)] [(.brk 0,[(6,.v y25 (.own 92 .sh))]),(.ret,[(4,.v y25 .sh),(5,uqa)])] (.seq (uqs (.cond .nil .nil)) (.seq (.block (.seq (uqs (.cond (uqs .nil) .nil)) (.reg [(6,[])] [{},{},{},{},{},{},{frz:=[(35,[])]}]))) uqr))))) (uqs .nil)))))) [(4,[])]) fun xs=>by kernel_rfl
def E48:FnE Tryz.prog:=⟨48,sg48,d48,sim48⟩
def d72(n:Int):Option ub15:=
 (zaa (β:=ub15) (fun((a,out,i):Int×ub15×Int)=>
 bif (decide (i<a))then
 bif (decide ((out.length:Int)+(([[(wu8 (w (97+i)))]]:List ub18).length:Int)≤LIM))then
 some (Sum.inl (a,(out++[[(wu8 (w (97+i)))]]),(w (i+1))))
 else none
 else
 some (Sum.inr out)) (n,[],0)).bind fun(b:List ub18)=>
 some b
def sg72:Sig:=⟨[(y2,.sh)],[(y22,(.own 9 .sh))]⟩
theorem sim72:Sim Tryz.prog 72 sg72 d72:=uqz Tryz.func72 (zac rfl) Tryz.call72 (by kernel_rfl) (by kernel_rfl) [] (uqs (.seq (.reg [] [{fl:=2}]) (.seq (uqs (.block (.loop [(0,uqa),(3,.v y22 (.own 9 .sh)),(4,uqa)] [(.brk 0,[(3,.v y22 (.own 9 .sh))])] (.seq (uqs (.cond .nil .nil)) (.seq (.block uqr) uqr))))) (uqs .nil)))) fun xs=>by kernel_rfl
def E72:FnE Tryz.prog:=⟨72,sg72,d72,sim72⟩
def d24(x:Int)(n:Int):Option Int:=
 bif (!decide (n=0))then
 bif (!decide (n=0))then
 some (w (Int.tmod (w ((w (Int.tmod x n))+n)) n))
 else none
 else none
def sg24:Sig:=⟨[(y2,.sh),(y2,.sh)],[(y2,.sh)]⟩
theorem sim24:Sim Tryz.prog 24 sg24 d24:=uqz Tryz.func24 (zac rfl) Tryz.call24 (by kernel_rfl) (by kernel_rfl) [] (uqs (uqs .nil)) fun xs=>by kernel_rfl
def E24:FnE Tryz.prog:=⟨24,sg24,d24,sim24⟩
def d25(method:Int)(n:Int)(seats:Int)(digits:Int)(ties:Int):Option ub7:=
 (d72 n).bind fun r=>
 (d24 method 3).bind fun a=>
 (d24 seats 5).bind fun b=>
 (d24 ties 3).bind fun e=>
 letJ (fun((f,c):ub7×ub7)=>
 letJ (fun((k,i):ub7×ub7)=>
 some i) fun g=>
 bif (decide (c.2.2.1=1))then
 g (f,(c.1,c.2.1,c.2.2.1,1,c.2.2.2.2))
 else
 g (f,c)) fun h=>
 bif (decide ((w (1+a))=2))then
 (d24 digits 6).bind fun j=>
 h (([],[],0,0,0,0,0,0,0),([99],r,(w (1+a)),(w (1+b)),0,(w (1+j)),(w (1+e)),0,0))
 else
 h (([],[],0,0,0,0,0,0,0),([99],r,(w (1+a)),(w (1+b)),0,0,(w (1+e)),0,0))
def sg25:Sig:=⟨[(y2,.sh),(y2,.sh),(y2,.sh),(y2,.sh),(y2,.sh)],[(y23,.sh)]⟩
theorem sim25:Sim Tryz.prog 25 sg25 d25:=uqz Tryz.func25 (zac rfl) Tryz.call25 (by kernel_rfl) (by kernel_rfl) [.fn E72,.fn E24] (uqs (.seq (.reg [] [{},{},{},{},{},{},{},{},{},{},{},{frz:=[(13,[])]}]) (.join (uqs (.cond uqr .nil)) [(10,.v (.ptr y23) (.own 0 .sh)),(11,.v (.ptr y23) (.own 0 (.pr .sh (.pr .sh (.pr .sh (.pr .sh (.pr .sh (.pr .sh (.pr .sh .sh)))))))))] (.join (uqs (.cond uqr .nil)) [(10,.v (.ptr y23) (.own 0 .sh)),(11,.v (.ptr y23) (.own 0 (.pr .sh (.pr .sh (.pr .sh (.pr .sh (.pr .sh (.pr .sh (.pr .sh .sh)))))))))] (uqs .nil))))) fun xs=>by kernel_rfl
def E25:FnE Tryz.prog:=⟨25,sg25,d25,sim25⟩
def d165(n:Int)(prefs:List Int):Option Bool:=
 (zaa (β:=Unit⊕Bool) (fun((c,seen,b,e,a):Int×ub17×ub18×Int×Int)=>
   bif (decide (a<e))then
    bif (decide (0≤a)&&decide (a<(b.length:Int)))then
     letJ (fun((g,h,p,i,j,k,l):Int×ub17×Int×ub18×Int×Int×Bool)=>
       bif l then
        some (Sum.inr (Sum.inr false))
       else
        bif (decide (0≤p)&&decide (p<7))then
         some (Sum.inl (g,(List.set h (Int.toNat p) true),i,j,(w (k+1))))
        else none) fun f=>
     bif !(decide ((List.getD b (Int.toNat a) 0)<0))then
      bif !(decide (c≤(List.getD b (Int.toNat a) 0)))then
       bif (decide (0≤(List.getD b (Int.toNat a) 0))&&decide ((List.getD b (Int.toNat a) 0)<7))then
        f (c,seen,(List.getD b (Int.toNat a) 0),b,e,a,(List.getD seen (Int.toNat (List.getD b (Int.toNat a) 0)) false))
       else none
      else
       f (c,seen,(List.getD b (Int.toNat a) 0),b,e,a,true)
     else
      f (c,seen,(List.getD b (Int.toNat a) 0),b,e,a,true)
    else none
   else
    some (Sum.inr (Sum.inl ()))) (n,[false,false,false,false,false,false,false],prefs,(prefs.length:Int),0)).bind fun
 |Sum.inl _=>
  some true
 |Sum.inr m=>
  some m
def sg165:Sig:=⟨[(y2,.sh),(y26,.bw)],[(y4,.sh)]⟩
theorem sim165:Sim Tryz.prog 165 sg165 d165:=uqz Tryz.func165 (zac rfl) Tryz.call165 (by kernel_rfl) (by kernel_rfl) [] (uqs (uqs (.seq (uqs (.block (.loop [(0,uqa),(5,.v (.ptr y200) (.own 0 .sh)),(8,uqb),(9,uqa),(10,uqa)] [(.brk 0,[]),(.ret,[(4,uqc)])] (uqs (.seq (.cond .nil .nil) (.seq (.block (uqs (.seq (.join uqr [(0,uqa),(5,.v (.ptr y200) (.own 0 .sh)),(7,uqa),(8,uqb),(9,uqa),(10,uqa),(25,uqc)] (.cond (uqs .nil) .nil)) uqr))) uqr)))))) (uqs .nil)))) fun xs=>by kernel_rfl
def E165:FnE Tryz.prog:=⟨165,sg165,d165,sim165⟩
def d215(x:Int):Option Bool:=
 some (!(decide (x=x)))
def sg215:Sig:=⟨[(y2,.sh)],[(y4,.sh)]⟩
theorem sim215:Sim Tryz.prog 215 sg215 d215:=uqz Tryz.func215 (zac rfl) Tryz.call215 (by kernel_rfl) (by kernel_rfl) [] (uqs (uqs .nil)) fun xs=>by kernel_rfl
def E215:FnE Tryz.prog:=⟨215,sg215,d215,sim215⟩
def d198(x:Int)(y:Int):Option Int:=
 (d215 x).bind fun r=>
 (d215 y).bind fun a=>
 bif r then
 bif a then
 some 0
 else
 some (-1)
 else
 bif a then
 some 1
 else
 bif (decide (x<y))then
 some (-1)
 else
 bif (decide (y<x))then
 some 1
 else
 some 0
def sg198:Sig:=⟨[(y2,.sh),(y2,.sh)],[(y2,.sh)]⟩
theorem sim198:Sim Tryz.prog 198 sg198 d198:=uqz Tryz.func198 (zac rfl) Tryz.call198 (by kernel_rfl) (by kernel_rfl) [.fn E215] (uqs (uqs (uqs (.seq (uqs (.cond (.seq (uqs (.cond (uqs .nil) .nil)) (uqs .nil)) .nil)) (.seq (uqs (.cond (uqs .nil) .nil)) (.seq (uqs (.cond (uqs .nil) .nil)) (.seq (uqs (.cond (uqs .nil) .nil)) (uqs .nil)))))))) fun xs=>by kernel_rfl
def E198:FnE Tryz.prog:=⟨198,sg198,d198,sim198⟩
def d166(s1:List Int)(s2:List Int):Option Int:=
 (zaa (β:=(ub18×ub18)⊕Int) (fun((e,b,c,f,a):ub18×ub18×ub18×Int×Int)=>
   bif (decide (a<f))then
    bif (decide (0≤a)&&decide (a<(c.length:Int)))then
     bif (decide ((b.length:Int)≤a))then
      some (Sum.inr (Sum.inr 1))
     else
      bif (decide (0≤a)&&decide (a<(b.length:Int)))then
       (d198 (List.getD c (Int.toNat a) 0) (List.getD b (Int.toNat a) 0)).bind fun r=>
       bif !(decide (r=0))then
        some (Sum.inr (Sum.inr r))
       else
        some (Sum.inl (e,b,c,f,(w (a+1))))
      else none
    else none
   else
    some (Sum.inr (Sum.inl (e,b)))) (s1,s2,s1,(s1.length:Int),0)).bind fun
 |Sum.inl (g,h)=>
  bif (decide ((g.length:Int)<(h.length:Int)))then
   some (-1)
  else
   some 0
 |Sum.inr i=>
  some i
def sg166:Sig:=⟨[(y26,.bw),(y26,.bw)],[(y2,.sh)]⟩
theorem sim166:Sim Tryz.prog 166 sg166 d166:=uqz Tryz.func166 (zac rfl) Tryz.call166 (by kernel_rfl) (by kernel_rfl) [.fn E198] (uqs (.seq (uqs (.block (.loop [(0,uqb),(1,uqb),(9,uqb),(10,uqa),(11,uqa)] [(.brk 0,[(0,uqb),(1,uqb)]),(.ret,[(4,uqa)])] (uqs (.seq (.cond .nil .nil) (.seq (.block (uqs (.seq (uqs (.cond (uqs .nil) .nil)) (uqs (uqs (uqs (.cond (uqs .nil) .nil))))))) uqr)))))) (.seq (uqs (.cond (uqs .nil) .nil)) (uqs .nil)))) fun xs=>by kernel_rfl
def E166:FnE Tryz.prog:=⟨166,sg166,d166,sim166⟩
def d124(n:Int)(gs:List ub16):Option Bool:=
 (zaa (β:=Unit⊕Bool) (fun((c,h,total,b,e,a):Int×ub13×Int×ub13×Int×Int)=>
   bif (decide (a<e))then
    bif (decide (0≤a)&&decide (a<(b.length:Int)))then
     letJ (fun((k,f,l,i,g,m,o,p,s):Int×ub13×Int×Int×ub16×ub13×Int×Int×Bool)=>
       bif s then
        some (Sum.inr (Sum.inr false))
       else
        letJ (fun((t,u,v,x,y,z,aa,ab):Int×ub13×Int×ub16×ub13×Int×Int×Bool)=>
          bif ab then
           some (Sum.inr (Sum.inr false))
          else
           some (Sum.inl (t,u,(w (v+x.2)),y,z,(w (aa+1))))) fun q=>
        bif (decide (0<i))then
         bif (decide (0≤(w (i-1)))&&decide ((w (i-1))<(f.length:Int)))then
          (d166 ((List.getD f (Int.toNat (w (i-1))) ([],0)).1) g.1).bind fun ac=>
          q (k,f,l,g,m,o,p,(decide (0≤ac)))
         else none
        else
         q (k,f,l,g,m,o,p,false)) fun j=>
     bif !(decide ((List.getD b (Int.toNat a) ([],0)).2<1))then
      bif !(decide ((w (100000-total))<(List.getD b (Int.toNat a) ([],0)).2))then
       (d165 c ((List.getD b (Int.toNat a) ([],0)).1)).bind fun r=>
       j (c,h,total,a,(List.getD b (Int.toNat a) ([],0)),b,e,a,!r)
      else
       j (c,h,total,a,(List.getD b (Int.toNat a) ([],0)),b,e,a,true)
     else
      j (c,h,total,a,(List.getD b (Int.toNat a) ([],0)),b,e,a,true)
    else none
   else
    some (Sum.inr (Sum.inl ()))) (n,gs,0,gs,(gs.length:Int),0)).bind fun
 |Sum.inl _=>
  some true
 |Sum.inr ae=>
  some ae
def sg124:Sig:=⟨[(y2,.sh),(y25,.bw)],[(y4,.sh)]⟩
theorem sim124:Sim Tryz.prog 124 sg124 d124:=uqz Tryz.func124 (zac rfl) Tryz.call124 (by kernel_rfl) (by kernel_rfl) [.fn E165,.fn E166] (uqs (uqs (.seq (uqs (.block (.loop [(0,uqa),(1,uqe),(5,uqa),(8,uqe),(9,uqa),(10,uqa)] [(.brk 0,[]),(.ret,[(4,uqc)])] (uqs (.seq (.cond .nil .nil) (.seq (.block (uqs (.seq (.join uqr [(0,uqa),(1,uqe),(5,uqa),(6,uqa),(7,.v (.ptr y92) (.own 0 .bw)),(8,uqe),(9,uqa),(10,uqa),(31,uqc)] (.cond (uqs .nil) .nil)) (.seq (.join uqr [(0,uqa),(1,uqe),(5,uqa),(7,.v (.ptr y92) (.own 0 .bw)),(8,uqe),(9,uqa),(10,uqa),(45,uqc)] (.cond (uqs .nil) .nil)) uqr)))) uqr)))))) (uqs .nil)))) fun xs=>by kernel_rfl
def E124:FnE Tryz.prog:=⟨124,sg124,d124,sim124⟩
def d125(l:List Int)(n:Int):Option Bool:=
 bif (decide ((l.length:Int)=n))then
 (d165 n l).bind fun r=>
 some r
 else
 some false
def sg125:Sig:=⟨[(y26,.bw),(y2,.sh)],[(y4,.sh)]⟩
theorem sim125:Sim Tryz.prog 125 sg125 d125:=uqz Tryz.func125 (zac rfl) Tryz.call125 (by kernel_rfl) (by kernel_rfl) [.fn E165] (uqs (uqs .nil)) fun xs=>by kernel_rfl
def E125:FnE Tryz.prog:=⟨125,sg125,d125,sim125⟩
def d66(p0:Int)(p1:ub7)(p2:List ub16)(p3:List Int):Option Int:=
 letJ (fun((a,j,k,c,l,m):Int×ub13×ub18×ub7×Int×Bool)=>
 letJ (fun((y,z,aa,ab,e,ac,aq):ub19)=>
 bif aq then
 some 5
 else
 letJ (fun((ar,au,ae,av):ub13×ub18×Int×Bool)=>
 bif av then
 some 4
 else
 (d124 ae ar).bind fun r=>
 bif !r then
 some 8
 else
 (d125 au ae).bind fun ax=>
 bif !ax then
 some 13
 else
 some 0) fun b=>
 letJ (fun((af,n,o,f,p,ag,ah):ub19)=>
 bif ah then
 b (n,o,p,ah)
 else
 letJ (fun((ay,q,s,t,u,ai,aj):ub19)=>
 bif aj then
 b (q,s,u,aj)
 else
 letJ (fun((g,h,ak,i,al,am):ub13×ub18×ub7×Int×Bool×Bool)=>
 bif am then
 b (g,h,i,am)
 else
 bif !al then
 b (g,h,i,!al)
 else
 bif !(decide (ak.2.2.2.2.2.2.1<1))then
 b (g,h,i,(decide (3<ak.2.2.2.2.2.2.1)))
 else
 b (g,h,i,true)) fun an=>
 bif (decide (ay=1))then
 an (q,s,t,u,ai,!(decide (t.2.2.2.1=1)))
 else
 an (q,s,t,u,ai,false)) fun ao=>
 bif !(decide (f.2.2.2.1<1))then
 ao (af,n,o,f,p,ag,(decide (5<f.2.2.2.1)))
 else
 ao (af,n,o,f,p,ag,true)) fun ap=>
 bif !(decide (e<1))then
 ap (y,z,aa,ab,e,ac,(decide (7<e)))
 else
 ap (y,z,aa,ab,e,ac,true)) fun v=>
 bif !(decide (a<1))then
 bif !(decide (3<a))then
 v (a,j,k,c,l,m,!(decide (c.2.2.1=a)))
 else
 v (a,j,k,c,l,m,true)
 else
 v (a,j,k,c,l,m,true)) fun x=>
 bif (decide (p0=2))then
 bif (decide (1≤p1.2.2.2.2.2.1))then
 x (p0,p2,p3,p1,(p1.2.1.length:Int),(decide (p1.2.2.2.2.2.1≤6)))
 else
 x (p0,p2,p3,p1,(p1.2.1.length:Int),false)
 else
 x (p0,p2,p3,p1,(p1.2.1.length:Int),(decide (p1.2.2.2.2.2.1=0)))
def sg66:Sig:=⟨[(y2,.sh),(y23,.bw),(y25,.bw),(y26,.bw)],[(y2,.sh)]⟩
theorem sim66:Sim Tryz.prog 66 sg66 d66:=uqz Tryz.func66 (zac rfl) Tryz.call66 (by kernel_rfl) (by kernel_rfl) [.fn E124,.fn E125] (uqs (uqs (uqs (.join (uqs (.cond uqr .nil)) [(0,uqa),(2,uqe),(3,uqb),(5,.v (.ptr y23) (.own 0 .bw)),(9,uqa),(10,uqc)] (.seq (.block (.join uqr [(0,uqa),(2,uqe),(3,uqb),(5,.v (.ptr y23) (.own 0 .bw)),(9,uqa),(10,uqc),(27,uqc)] (.cond (uqs .nil) (.join (.join uqr [(0,uqa),(2,uqe),(3,uqb),(5,.v (.ptr y23) (.own 0 .bw)),(9,uqa),(10,uqc),(40,uqc)] (.cond .nil (.join uqr [(0,uqa),(2,uqe),(3,uqb),(5,.v (.ptr y23) (.own 0 .bw)),(9,uqa),(10,uqc),(40,uqc)] (.cond .nil (.join uqr [(2,uqe),(3,uqb),(5,.v (.ptr y23) (.own 0 .bw)),(9,uqa),(10,uqc),(40,uqc)] (.cond .nil (uqs (.cond .nil uqr)))))))) [(2,uqe),(3,uqb),(9,uqa),(40,uqc)] (.cond (uqs .nil) (uqs (.cond (uqs .nil) (uqs (.cond (uqs .nil) .nil))))))))) (uqs .nil)))))) fun xs=>by kernel_rfl
def E66:FnE Tryz.prog:=⟨66,sg66,d66,sim66⟩
def d100(gs:List ub16):Option Bool:=
 (d124 7 gs).bind fun r=>
 some r
def d104(l:List ub16)(number:(ub16→Option Int)):Option Int:=
 (zaa (β:=Int) (fun((c,n,b,e,a):(ub16→Option Int)×Int×ub13×Int×Int)=>
 bif (decide (a<e))then
 bif (decide (0≤a)&&decide (a<(b.length:Int)))then
 (c (List.getD b (Int.toNat a) ([],0))).bind fun r=>
 some (Sum.inl (c,(w (n+r)),b,e,(w (a+1))))
 else none
 else
 some (Sum.inr n)) (number,0,l,(l.length:Int),0)).bind fun(f:Int)=>
 some f
def d126(g:ub16):Option Int:=
 some g.2
def d67(gs:List ub16):Option Int:=
 (d100 gs).bind fun r=>
 bif !r then
 some 0
 else
 (d104 gs (fun a=>d126 a)).bind fun b=>
 some b
def d105(g:ub16):Option Int:=
 bif (decide ((g.1.length:Int)=0))then
 some 0
 else
 some g.2
def d52(gs:List ub16):Option Int:=
 (d100 gs).bind fun r=>
 bif !r then
 some 0
 else
 (d104 gs (fun a=>d105 a)).bind fun b=>
 some b
def d30(ballots:Int)(seats:Int):Option Int:=
 letJ (fun((c,b,e):Int×Int×Bool)=>
 bif e then
 some 0
 else
 bif (!decide ((w (b+1))=0))then
 some (w ((w (Int.tdiv c (w (b+1))))+1))
 else none) fun a=>
 bif !(decide (ballots<0))then
 bif !(decide (100000<ballots))then
 bif !(decide (seats<1))then
 a (ballots,seats,(decide (5<seats)))
 else
 a (ballots,seats,true)
 else
 a (ballots,seats,true)
 else
 a (ballots,seats,true)
def d135(k:ub3)(standing:Int):Option ub18:=
 (zaa (β:=ub18) (fun((c,out,b,e,a):Int×ub18×ub18×Int×Int)=>
 bif (decide (a<e))then
 letJ (fun((g,h,i,j,l):Int×ub18×ub18×Int×Int)=>
 some (Sum.inl (g,h,i,j,(w (l+1))))) fun f=>
 bif (decide (0≤a)&&decide (a<(b.length:Int)))then
 bif (decide ((List.getD b (Int.toNat a) 0)=c))then
 bif (decide ((out.length:Int)+(([a]:List Int).length:Int)≤LIM))then
 f (c,(out++[a]),b,e,a)
 else none
 else
 f (c,out,b,e,a)
 else none
 else
 some (Sum.inr out)) (standing,[],k.2.2.2.2.2.1,(k.2.2.2.2.2.1.length:Int),0)).bind fun(m:List Int)=>
 some m
def d130(p0:ub3):Option ub11:=
 (zaa (β:=ub2) (fun((l,g,m,n):ub3×ub11×Int×Int)=>
 bif (decide (n<m))then
 (d68 0).bind fun r=>
 bif (decide ((g.length:Int)+(([r]:List ub12).length:Int)≤LIM))then
 some (Sum.inl (l,(g++[r]),m,(w (n+1))))
 else none
 else
 some (Sum.inr (l,g))) (p0,[],(p0.2.2.2.2.2.1.length:Int),0)).bind fun((h,u):ub3×ub11)=>
 (zaa (β:=ub2) (fun((i,e,b,j,a):ub3×ub11×(List ub8)×Int×Int)=>
 bif (decide (a<j))then
 letJ (fun((v,x,y,z,aa):ub3×ub11×(List ub8)×Int×Int)=>
 some (Sum.inl (v,x,y,z,(w (aa+1))))) fun o=>
 bif (decide (0≤a)&&decide (a<(b.length:Int)))then
 bif (decide ((((List.getD b (Int.toNat a) ([],0,0,false,[],[])).2).2).1<(((List.getD b (Int.toNat a) ([],0,0,false,[],[])).1).length:Int)))then
 bif (decide (0≤(((List.getD b (Int.toNat a) ([],0,0,false,[],[])).2).2).1)&&decide ((((List.getD b (Int.toNat a) ([],0,0,false,[],[])).2).2).1<(((List.getD b (Int.toNat a) ([],0,0,false,[],[])).1).length:Int)))then
 bif (decide (0≤(List.getD ((List.getD b (Int.toNat a) ([],0,0,false,[],[])).1) (Int.toNat ((((List.getD b (Int.toNat a) ([],0,0,false,[],[])).2).2).1)) 0))&&decide ((List.getD ((List.getD b (Int.toNat a) ([],0,0,false,[],[])).1) (Int.toNat ((((List.getD b (Int.toNat a) ([],0,0,false,[],[])).2).2).1)) 0)<(e.length:Int)))then
 (d68 (((List.getD b (Int.toNat a) ([],0,0,false,[],[])).2).1)).bind fun ab=>
 (d172 ((((List.getD b (Int.toNat a) ([],0,0,false,[],[])).2).2).2) ab).bind fun ac=>
 (d138 (List.getD e (Int.toNat (List.getD ((List.getD b (Int.toNat a) ([],0,0,false,[],[])).1) (Int.toNat ((((List.getD b (Int.toNat a) ([],0,0,false,[],[])).2).2).1)) 0)) (false,[],[])) ac).bind fun ae=>
 bif (decide (0≤(List.getD ((List.getD b (Int.toNat a) ([],0,0,false,[],[])).1) (Int.toNat ((((List.getD b (Int.toNat a) ([],0,0,false,[],[])).2).2).1)) 0))&&decide ((List.getD ((List.getD b (Int.toNat a) ([],0,0,false,[],[])).1) (Int.toNat ((((List.getD b (Int.toNat a) ([],0,0,false,[],[])).2).2).1)) 0)<(e.length:Int)))then
 o (i,(List.set e (Int.toNat (List.getD ((List.getD b (Int.toNat a) ([],0,0,false,[],[])).1) (Int.toNat ((((List.getD b (Int.toNat a) ([],0,0,false,[],[])).2).2).1)) 0)) ae),b,j,a)
 else none
 else none
 else none
 else
 o (i,e,b,j,a)
 else none
 else
 some (Sum.inr (i,e))) (h,u,h.2.2.2.2.1,(h.2.2.2.2.1.length:Int),0)).bind fun((p,af):ub3×ub11)=>
 (d135 p 2).bind fun q=>
 (zaa (β:=ub11) (fun((s,k,f,t,c):ub3×ub11×ub18×Int×Int)=>
 bif (decide (c<t))then
 bif (decide (0≤c)&&decide (c<(f.length:Int)))then
 (d68 s.2.2.2.1).bind fun ag=>
 bif (decide (0≤(List.getD f (Int.toNat c) 0))&&decide ((List.getD f (Int.toNat c) 0)<(k.length:Int)))then
 some (Sum.inl (s,(List.set k (Int.toNat (List.getD f (Int.toNat c) 0)) ag),f,t,(w (c+1))))
 else none
 else none
 else
 some (Sum.inr k)) (p,af,q,(q.length:Int),0)).bind fun(ah:List ub12)=>
 some ah
def d131(l:List ub12):Option ub11:=
 (zaa (β:=ub11) (fun((out,b,c,a):ub11×ub11×Int×Int)=>
 bif (decide (a<c))then
 bif (decide (0≤a)&&decide (a<(b.length:Int)))then
 (d173 (((List.getD b (Int.toNat a) (false,[],[])).2).1)).bind fun r=>
 (d173 (((List.getD b (Int.toNat a) (false,[],[])).2).2)).bind fun e=>
 bif (decide ((out.length:Int)+(([((List.getD b (Int.toNat a) (false,[],[])).1,r,e)]:List ub12).length:Int)≤LIM))then
 some (Sum.inl ((out++[((List.getD b (Int.toNat a) (false,[],[])).1,r,e)]),b,c,(w (a+1))))
 else none
 else none
 else
 some (Sum.inr out)) ([],l,(l.length:Int),0)).bind fun(f:List ub12)=>
 some f
def d136(c:Int)(p1:ub6):Option Bool:=
 bif (decide (0≤c)&&decide (c<(p1.1.length:Int)))then
 (d137 (List.getD p1.1 (Int.toNat c) (false,[],[])) p1.2.2.1).bind fun r=>
 some (decide (r<0))
 else none
def d101(s:List Int)(f:(Int→Option Bool)):Option Int:=
 (zaa (β:=Unit⊕Int) (fun((b,c,e,a):ub18×(Int→Option Bool)×Int×Int)=>
   bif (decide (a<e))then
    bif (decide (0≤a)&&decide (a<(b.length:Int)))then
     (c (List.getD b (Int.toNat a) 0)).bind fun r=>
     bif r then
      some (Sum.inr (Sum.inr a))
     else
      some (Sum.inl (b,c,e,(w (a+1))))
    else none
   else
    some (Sum.inr (Sum.inl ()))) (s,f,(s.length:Int),0)).bind fun
 |Sum.inl _=>
  some (-1)
 |Sum.inr g=>
  some g
def sg101:Sig:=⟨[(y26,.bw),(y128,.bw)],[(y2,.sh)]⟩
theorem sim101:Sim Tryz.prog 101 sg101 d101:=uqz Tryz.func101 (zac rfl) Tryz.call101 (by kernel_rfl) (by kernel_rfl) [] (uqs (.seq (uqs (.block (.loop [(0,uqb),(1,.v y128 .bw),(7,uqa),(8,uqa)] [(.brk 0,[]),(.ret,[(4,uqa)])] (uqs (.seq (.cond .nil .nil) (.seq (.block (uqs (uqs (.cond (uqs .nil) .nil)))) uqr)))))) (uqs .nil))) fun xs=>by kernel_rfl
def E101:FnE Tryz.prog:=⟨101,sg101,d101,sim101⟩
def d134(s:List Int)(del:(Int→Option Bool)):Option ub18:=
 (d101 s del).bind fun r=>
 bif (decide (r=(-1)))then
 some s
 else
 (zaa (β:=(ub18×Int)) (fun((a,f,i,b):ub18×(Int→Option Bool)×Int×Int)=>
 bif (decide (b<(a.length:Int)))then
 letJ (fun((h,j,k,l):ub18×(Int→Option Bool)×Int×Int)=>
 some (Sum.inl (h,j,k,(w (l+1))))) fun g=>
 bif (decide (0≤b)&&decide (b<(a.length:Int)))then
 (f (List.getD a (Int.toNat b) 0)).bind fun m=>
 bif !m then
 bif (decide (0≤i)&&decide (i<(a.length:Int)))then
 g ((List.set a (Int.toNat i) (List.getD a (Int.toNat b) 0)),f,(w (i+1)),b)
 else none
 else
 g (a,f,i,b)
 else none
 else
 some (Sum.inr (a,i))) (s,del,r,(w (r+1)))).bind fun((e,c):ub18×Int)=>
 bif (zbz c (e.length:Int) e.length)then
 bif (zbz 0 c (List.take (Int.toNat c) e++List.replicate (e.length-(Int.toNat c)) 0).length)then
 some (List.take (Int.toNat c) (List.take (Int.toNat c) e++List.replicate (e.length-(Int.toNat c)) 0))
 else none
 else none
def sg134:Sig:=⟨[(y26,(.give (.own 3 .sh))),(y128,.bw)],[(y26,(.own 3 .sh))]⟩
theorem sim134:Sim Tryz.prog 134 sg134 d134:=uqz Tryz.func134 (zac rfl) Tryz.call134 (by kernel_rfl) (by kernel_rfl) [.fn E101] (uqs (uqs (.seq (uqs (.cond (uqs .nil) .nil)) (.seq (uqs (.block (.loop [(0,uqd),(1,.v y128 .bw),(5,uqa),(6,uqa)] [(.brk 0,[(0,uqd),(5,uqa)])] (.seq (uqs (.cond .nil .nil)) (.join (.block (uqs (uqs (.cond (uqs uqr) .nil)))) [(0,uqd),(1,.v y128 .bw),(5,uqa),(6,uqa)] uqr))))) (uqs (uqs .nil)))))) fun xs=>by kernel_rfl
def E134:FnE Tryz.prog:=⟨134,sg134,d134,sim134⟩
def d133(k:ub3)(r:ub6)(candidates:List Int):Option ub1:=
 (zaa (β:=ub1) (fun((a,b,e,g,c):ub3×ub6×ub18×Int×Int)=>
 bif (decide (c<g))then
 bif (decide (0≤c)&&decide (c<(e.length:Int)))then
 bif (decide (0≤(List.getD e (Int.toNat c) 0))&&decide ((List.getD e (Int.toNat c) 0)<(a.2.2.2.2.2.1.length:Int)))then
 bif (decide ((b.2.2.2.2.2.1.length:Int)+(([(List.getD e (Int.toNat c) 0)]:List Int).length:Int)≤LIM))then
 some (Sum.inl ((a.1,a.2.1,a.2.2.1,a.2.2.2.1,a.2.2.2.2.1,(List.set a.2.2.2.2.2.1 (Int.toNat (List.getD e (Int.toNat c) 0)) 1),a.2.2.2.2.2.2.1,(w (a.2.2.2.2.2.2.2.1+1)),a.2.2.2.2.2.2.2.2),(b.1,b.2.1,b.2.2.1,b.2.2.2.1,b.2.2.2.2.1,(b.2.2.2.2.2.1++[(List.getD e (Int.toNat c) 0)]),b.2.2.2.2.2.2),e,g,(w (c+1))))
 else none
 else none
 else none
 else
 some (Sum.inr (a,b))) (k,r,candidates,(candidates.length:Int),0)).bind fun((h,f):ub3×ub6)=>
 (d174 f.2.2.2.2.2.1).bind fun i=>
 some (h,(f.1,f.2.1,f.2.2.1,f.2.2.2.1,f.2.2.2.2.1,i,f.2.2.2.2.2.2))
def d185(p0:Int)(p1:List Int)(p2:List Int):Option Bool:=
 letJ (fun((s,r,t,u):ub18×ub18×Int×Bool)=>
   bif u then
    some false
   else
    (zaa (β:=(ub18×Int)⊕Bool) (fun((k,g,l,c,m,a):ub18×Int×ub17×ub18×Int×Int)=>
      bif (decide (a<m))then
       bif (decide (0≤a)&&decide (a<(c.length:Int)))then
        letJ (fun((v,x,y,o,z,aa,ab,ac):ub18×Int×ub17×Int×ub18×Int×Int×Bool)=>
          bif ac then
           some (Sum.inr (Sum.inr false))
          else
           bif (decide (0≤o)&&decide (o<7))then
            some (Sum.inl (v,x,(List.set y (Int.toNat o) true),z,aa,(w (ab+1))))
           else none) fun p=>
        bif !(decide ((List.getD c (Int.toNat a) 0)<0))then
         bif !(decide (g≤(List.getD c (Int.toNat a) 0)))then
          bif (decide (0≤(List.getD c (Int.toNat a) 0))&&decide ((List.getD c (Int.toNat a) 0)<7))then
           p (k,g,l,(List.getD c (Int.toNat a) 0),c,m,a,(List.getD l (Int.toNat (List.getD c (Int.toNat a) 0)) false))
          else none
         else
          p (k,g,l,(List.getD c (Int.toNat a) 0),c,m,a,true)
        else
         p (k,g,l,(List.getD c (Int.toNat a) 0),c,m,a,true)
       else none
      else
       some (Sum.inr (Sum.inl (k,g)))) (s,t,[false,false,false,false,false,false,false],r,(r.length:Int),0)).bind fun
    |Sum.inl (q,ae)=>
     (zaa (β:=Unit⊕Bool) (fun((f,h,e,i,b):ub18×Int×ub18×Int×Int)=>
       bif (decide (b<i))then
        bif (decide (0≤b)&&decide (b<(e.length:Int)))then
         letJ (fun((af,ag,ah,ai,aj,ak):ub18×Int×ub18×Int×Int×Bool)=>
           bif ak then
            some (Sum.inr (Sum.inr false))
           else
            some (Sum.inl (af,ag,ah,ai,(w (aj+1))))) fun n=>
         bif !(decide ((List.getD e (Int.toNat b) 0)<0))then
          bif !(decide (h≤(List.getD e (Int.toNat b) 0)))then
           bif (decide (0<b))then
            bif (decide (0≤(w (b-1)))&&decide ((w (b-1))<(f.length:Int)))then
             n (f,h,e,i,b,(decide ((List.getD e (Int.toNat b) 0)≤(List.getD f (Int.toNat (w (b-1))) 0))))
            else none
           else
            n (f,h,e,i,b,false)
          else
           n (f,h,e,i,b,true)
         else
          n (f,h,e,i,b,true)
        else none
       else
        some (Sum.inr (Sum.inl ()))) (q,ae,q,(q.length:Int),0)).bind fun
     |Sum.inl _=>
      some true
     |Sum.inr al=>
      some al
    |Sum.inr am=>
     some am) fun j=>
 bif !(decide (p0<1))then
  bif !(decide (3<p0))then
   bif !(decide ((p2.length:Int)<1))then
    bif !(decide (7<(p2.length:Int)))then
     j (p1,p2,(p2.length:Int),(decide ((p1.length:Int)=0)))
    else
     j (p1,p2,(p2.length:Int),true)
   else
    j (p1,p2,(p2.length:Int),true)
  else
   j (p1,p2,(p2.length:Int),true)
 else
  j (p1,p2,(p2.length:Int),true)
def sg185:Sig:=⟨[(y2,.sh),(y26,.bw),(y26,.bw)],[(y4,.sh)]⟩
theorem sim185:Sim Tryz.prog 185 sg185 d185:=uqz Tryz.func185 (zac rfl) Tryz.call185 (by kernel_rfl) (by kernel_rfl) [] (uqs (uqs (.seq (.join uqr [(1,uqb),(2,uqb),(7,uqa),(33,uqc)] (.cond (uqs .nil) .nil)) (uqs (.seq (uqs (.block (.loop [(1,uqb),(7,uqa),(8,.v (.ptr y200) (.own 0 .sh)),(34,uqb),(35,uqa),(36,uqa)] [(.brk 0,[(1,uqb),(7,uqa)]),(.ret,[(6,uqc)])] (uqs (.seq (.cond .nil .nil) (.seq (.block (uqs (.seq (.join uqr [(1,uqb),(7,uqa),(8,.v (.ptr y200) (.own 0 .sh)),(10,uqa),(34,uqb),(35,uqa),(36,uqa),(51,uqc)] (.cond (uqs .nil) .nil)) uqr))) uqr)))))) (.seq (uqs (.block (.loop [(1,uqb),(7,uqa),(55,uqb),(56,uqa),(57,uqa)] [(.brk 2,[]),(.ret,[(6,uqc)])] (uqs (.seq (.cond .nil .nil) (.seq (.block (uqs (.join uqr [(1,uqb),(7,uqa),(55,uqb),(56,uqa),(57,uqa),(81,uqc)] (.cond (uqs .nil) .nil)))) uqr)))))) (uqs .nil))))))) fun xs=>by kernel_rfl
def E185:FnE Tryz.prog:=⟨185,sg185,d185,sim185⟩
def d213(round:List ub12)(candidate:Int):Option ub12:=
 bif (decide (candidate<(round.length:Int)))then
 bif (decide (0≤candidate)&&decide (candidate<(round.length:Int)))then
 some (List.getD round (Int.toNat candidate) (false,[],[]))
 else none
 else
 (d68 0).bind fun r=>
 some r
def sg213:Sig:=⟨[(y53,.sh),(y2,.sh)],[(y57,.sh)]⟩
theorem sim213:Sim Tryz.prog 213 sg213 d213:=uqz Tryz.func213 (zac rfl) Tryz.call213 (by kernel_rfl) (by kernel_rfl) [.fn E68] (uqs (.seq (uqs (.cond (uqs .nil) .nil)) (uqs .nil))) fun xs=>by kernel_rfl
def E213:FnE Tryz.prog:=⟨213,sg213,d213,sim213⟩
def d187(candidates:List Int)(round:List ub12)(least:Bool):Option ub18:=
 (zaa (β:=ub18) (fun((e,f,out,b,g,a):ub11×Bool×ub18×ub18×Int×Int)=>
 bif (decide (a<g))then
 letJ (fun((aa,ab,ac,ae,af,ag):ub11×Bool×ub18×ub18×Int×Int)=>
 some (Sum.inl (aa,ab,ac,ae,af,(w (ag+1))))) fun k=>
 bif (decide (0≤a)&&decide (a<(b.length:Int)))then
 letJ (fun((l,m,h,n,ah,o,p,q):ub11×Bool×ub18×Int×Int×ub18×Int×Int)=>
 bif (decide (ah≤0))then
 bif (decide ((h.length:Int)+(([n]:List Int).length:Int)≤LIM))then
 k (l,m,(h++[n]),o,p,q)
 else none
 else
 k (l,m,h,o,p,q)) fun i=>
 bif (decide (0<(out.length:Int)))then
 (d213 e (List.getD b (Int.toNat a) 0)).bind fun r=>
 bif (decide (0≤0)&&decide (0<(out.length:Int)))then
 (d213 e (List.getD out 0 0)).bind fun ai=>
 (d137 r ai).bind fun s=>
 letJ (fun((t,u,j,c,order,v,x,y):ub11×Bool×ub18×Int×Int×ub18×Int×Int)=>
 bif (decide (order<0))then
 bif (zbz 0 0 j.length)then
 i (t,u,(List.take 0 j),c,order,v,x,y)
 else none
 else
 i (t,u,j,c,order,v,x,y)) fun z=>
 bif !f then
 z (e,f,out,(List.getD b (Int.toNat a) 0),(w (0-s)),b,g,a)
 else
 z (e,f,out,(List.getD b (Int.toNat a) 0),s,b,g,a)
 else none
 else
 i (e,f,out,(List.getD b (Int.toNat a) 0),(-1),b,g,a)
 else none
 else
 some (Sum.inr out)) (round,least,[],candidates,(candidates.length:Int),0)).bind fun(aj:List Int)=>
 some aj
def sg187:Sig:=⟨[(y26,.bw),(y53,.sh),(y4,.sh)],[(y26,(.own 3 .sh))]⟩
theorem sim187:Sim Tryz.prog 187 sg187 d187:=uqz Tryz.func187 (zac rfl) Tryz.call187 (by kernel_rfl) (by kernel_rfl) [.fn E213,.fn E137] (uqs (.seq (.reg [] [{fl:=2}]) (.seq (uqs (.block (.loop [(1,.v y53 .sh),(2,uqc),(7,uqd),(11,uqb),(12,uqa),(13,uqa)] [(.brk 0,[(7,uqd)])] (uqs (.seq (.cond .nil .nil) (.join (.block (uqs (uqs (.join (uqs (.cond (uqs (.join (uqs (.cond uqr .nil)) [(1,.v y53 .sh),(2,uqc),(7,uqd),(9,uqa),(10,uqa),(11,uqb),(12,uqa),(13,uqa)] (uqs (.cond uqr .nil)))) .nil)) [(1,.v y53 .sh),(2,uqc),(7,uqd),(9,uqa),(10,uqa),(11,uqb),(12,uqa),(13,uqa)] (uqs (.cond uqr .nil)))))) [(1,.v y53 .sh),(2,uqc),(7,uqd),(11,uqb),(12,uqa),(13,uqa)] uqr)))))) (uqs .nil)))) fun xs=>by kernel_rfl
def E187:FnE Tryz.prog:=⟨187,sg187,d187,sim187⟩
def d189(s:List Int)(v:Int):Option Int:=
 (zaa (β:=Unit⊕Int) (fun((b,c,e,a):ub18×Int×Int×Int)=>
   bif (decide (a<e))then
    bif (decide (0≤a)&&decide (a<(b.length:Int)))then
     bif (decide (c=(List.getD b (Int.toNat a) 0)))then
      some (Sum.inr (Sum.inr a))
     else
      some (Sum.inl (b,c,e,(w (a+1))))
    else none
   else
    some (Sum.inr (Sum.inl ()))) (s,v,(s.length:Int),0)).bind fun
 |Sum.inl _=>
  some (-1)
 |Sum.inr f=>
  some f
def sg189:Sig:=⟨[(y26,.bw),(y2,.sh)],[(y2,.sh)]⟩
theorem sim189:Sim Tryz.prog 189 sg189 d189:=uqz Tryz.func189 (zac rfl) Tryz.call189 (by kernel_rfl) (by kernel_rfl) [] (uqs (.seq (uqs (.block (.loop [(0,uqb),(1,uqa),(7,uqa),(8,uqa)] [(.brk 0,[]),(.ret,[(4,uqa)])] (uqs (.seq (.cond .nil .nil) (.seq (.block (uqs (uqs (.cond (uqs .nil) .nil)))) uqr)))))) (uqs .nil))) fun xs=>by kernel_rfl
def E189:FnE Tryz.prog:=⟨189,sg189,d189,sim189⟩
def d188(a:Int)(b:Int)(p2:List Int):Option Int:=
 (d189 p2 a).bind fun r=>
 (d189 p2 b).bind fun c=>
 some (w (r-c))
def sg188:Sig:=⟨[(y2,.bw),(y2,.bw),((.ptr y26),.bw)],[(y2,.sh)]⟩
theorem sim188:Sim Tryz.prog 188 sg188 d188:=uqz Tryz.func188 (zac rfl) Tryz.call188 (by kernel_rfl) (by kernel_rfl) [.fn E189] (uqs (uqs .nil)) fun xs=>by kernel_rfl
def E188:FnE Tryz.prog:=⟨188,sg188,d188,sim188⟩
def d190(x:List Int)(cmp:(Int→Int→Option Int)):Option Int:=
 bif (decide ((x.length:Int)<1))then
 none
 else
 bif (decide (0≤0)&&decide (0<(x.length:Int)))then
 (zaa (β:=Int) (fun((a,b,m,i):ub18×(Int→Int→Option Int)×Int×Int)=>
 bif (decide (i<(a.length:Int)))then
 letJ (fun((e,f,g,h):ub18×(Int→Int→Option Int)×Int×Int)=>
 some (Sum.inl (e,f,g,(w (h+1))))) fun c=>
 bif (decide (0≤i)&&decide (i<(a.length:Int)))then
 (b (List.getD a (Int.toNat i) 0) m).bind fun r=>
 bif (decide (0<r))then
 bif (decide (0≤i)&&decide (i<(a.length:Int)))then
 c (a,b,(List.getD a (Int.toNat i) 0),i)
 else none
 else
 c (a,b,m,i)
 else none
 else
 some (Sum.inr m)) (x,cmp,(List.getD x 0 0),1)).bind fun(j:Int)=>
 some j
 else none
def sg190:Sig:=⟨[(y26,.bw),(y38,.bw)],[(y2,.sh)]⟩
theorem sim190:Sim Tryz.prog 190 sg190 d190:=uqz Tryz.func190 (zac rfl) Tryz.call190 (by kernel_rfl) (by kernel_rfl) [] (uqs (.seq (uqs (.cond uqr .nil)) (uqs (.seq (uqs (.block (.loop [(0,uqb),(1,.v y38 .bw),(5,uqa),(6,uqa)] [(.brk 0,[(5,uqa)])] (.seq (uqs (.cond .nil .nil)) (.join (.block (uqs (.cond uqr .nil))) [(0,uqb),(1,.v y38 .bw),(5,uqa),(6,uqa)] uqr))))) (uqs .nil))))) fun xs=>by kernel_rfl
def E190:FnE Tryz.prog:=⟨190,sg190,d190,sim190⟩
def d191(x:List Int)(cmp:(Int→Int→Option Int)):Option Int:=
 bif (decide ((x.length:Int)<1))then
 none
 else
 bif (decide (0≤0)&&decide (0<(x.length:Int)))then
 (zaa (β:=Int) (fun((a,b,m,i):ub18×(Int→Int→Option Int)×Int×Int)=>
 bif (decide (i<(a.length:Int)))then
 letJ (fun((e,f,g,h):ub18×(Int→Int→Option Int)×Int×Int)=>
 some (Sum.inl (e,f,g,(w (h+1))))) fun c=>
 bif (decide (0≤i)&&decide (i<(a.length:Int)))then
 (b (List.getD a (Int.toNat i) 0) m).bind fun r=>
 bif (decide (r<0))then
 bif (decide (0≤i)&&decide (i<(a.length:Int)))then
 c (a,b,(List.getD a (Int.toNat i) 0),i)
 else none
 else
 c (a,b,m,i)
 else none
 else
 some (Sum.inr m)) (x,cmp,(List.getD x 0 0),1)).bind fun(j:Int)=>
 some j
 else none
def sg191:Sig:=⟨[(y26,.bw),(y38,.bw)],[(y2,.sh)]⟩
theorem sim191:Sim Tryz.prog 191 sg191 d191:=uqz Tryz.func191 (zac rfl) Tryz.call191 (by kernel_rfl) (by kernel_rfl) [] (uqs (.seq (uqs (.cond uqr .nil)) (uqs (.seq (uqs (.block (.loop [(0,uqb),(1,.v y38 .bw),(5,uqa),(6,uqa)] [(.brk 0,[(5,uqa)])] (.seq (uqs (.cond .nil .nil)) (.join (.block (uqs (.cond uqr .nil))) [(0,uqb),(1,.v y38 .bw),(5,uqa),(6,uqa)] uqr))))) (uqs .nil))))) fun xs=>by kernel_rfl
def E191:FnE Tryz.prog:=⟨191,sg191,d191,sim191⟩
def d155(p0:Int)(p1:List ub11)(p2:List Int)(p3:List Int)(p4:Bool):Option (Int×Bool×ub9):=
 (d185 p0 p2 p3).bind fun r=>
 bif !r then
 some ((-1),false,p1)
 else
 (d186 p2).bind fun v=>
 (zaa (β:=(ub9×Bool×ub18×ub18)) (fun((f,g,j,k,h,i):Int×ub9×Bool×ub18×ub18×Int)=>
 letJ (fun((l,b,m,n,o,c,x):Int×ub9×Bool×ub18×ub18×Int×Bool)=>
 bif x then
 bif (decide (0≤c)&&decide (c<(b.length:Int)))then
 letJ (fun((y,z,s,aa,ab,ac,ae):Int×ub9×Bool×ub18×ub18×Int×ub11)=>
 (d187 ab ae s).bind fun af=>
 some (Sum.inl (y,z,s,aa,af,(w (ac+1))))) fun t=>
 bif (decide (l=1))then
 bif (decide (0≤(w ((w ((b.length:Int)-1))-c)))&&decide ((w ((w ((b.length:Int)-1))-c))<(b.length:Int)))then
 t (l,b,m,n,o,c,(List.getD b (Int.toNat (w ((w ((b.length:Int)-1))-c))) []))
 else none
 else
 t (l,b,m,n,o,c,(List.getD b (Int.toNat c) []))
 else none
 else
 some (Sum.inr (b,m,n,o))) fun p=>
 bif (decide (i<(g.length:Int)))then
 bif (decide (1<(h.length:Int)))then
 p (f,g,j,k,h,i,!(decide (f=3)))
 else
 p (f,g,j,k,h,i,false)
 else
 p (f,g,j,k,h,i,false)) (p0,p1,p4,p3,v,0)).bind fun((q,ag,u,e):ub9×Bool×ub18×ub18)=>
 bif (decide ((e.length:Int)=1))then
 bif (decide (0≤0)&&decide (0<(e.length:Int)))then
 some ((List.getD e 0 0),false,q)
 else none
 else
 bif ag then
 (d190 e (fun a ah=>d188 a ah u)).bind fun ai=>
 some (ai,true,q)
 else
 (d191 e (fun aj ak=>d188 aj ak u)).bind fun al=>
 some (al,true,q)
def sg155:Sig:=⟨[(y2,.sh),(y96,(.io (.own 53 .sh))),(y26,.bw),(y26,.bw),(y4,.sh)],[(y2,.sh),(y4,.sh)]⟩
theorem sim155:Sim Tryz.prog 155 sg155 d155:=uqz Tryz.func155 (zac rfl) Tryz.call155 (by kernel_rfl) (by kernel_rfl) [.fn E185,.fn E186,.fn E187,.fn E190,.fn E188,.fn E191] (uqs (.seq (uqs (.cond (uqs .nil) .nil)) (uqs (.seq (uqs (.block (.loop [(0,uqa),(1,.v y96 (.own 53 .sh)),(4,uqc),(8,.v (.ptr y26) (.own 0 .bw)),(12,uqd),(13,uqa)] [(.brk 0,[(1,.v y96 (.own 53 .sh)),(4,uqc),(8,.v (.ptr y26) (.own 0 .bw)),(12,uqd)])] (.seq (.join uqr [(0,uqa),(1,.v y96 (.own 53 .sh)),(4,uqc),(8,.v (.ptr y26) (.own 0 .bw)),(12,uqd),(13,uqa),(35,uqc)] (.cond .nil .nil)) (.seq (.block (uqs (.join (uqs (.cond uqr .nil)) [(0,uqa),(1,.v y96 (.own 53 .sh)),(4,uqc),(8,.v (.ptr y26) (.own 0 .bw)),(12,uqd),(13,uqa),(14,.v y53 .sh)] uqr))) uqr))))) (.seq (uqs (.cond (uqs .nil) .nil)) (uqs (.seq (uqs (.cond (uqs .nil) .nil)) (uqs .nil)))))))) fun xs=>by kernel_rfl
def E155:FnE Tryz.prog:=⟨155,sg155,d155,sim155⟩
def d178(p0:ub3)(p1:ub6)(p2:List Int)(p3:Bool):Option (Int×ub3×ub6):=
 (zaa (β:=(ub3×ub6×Bool×ub18)) (fun((j,f,h,e,c,k,b):ub3×ub6×Bool×ub18×ub18×Int×Int)=>
 bif (decide (b<k))then
 letJ (fun((z,aa,ab,ac,ae,af,ag):ub3×ub6×Bool×ub18×ub18×Int×Int)=>
 some (Sum.inl (z,aa,ab,ac,ae,af,(w (ag+1))))) fun l=>
 bif (decide (0≤b)&&decide (b<(c.length:Int)))then
 letJ (fun((m,n,o,p,q,x,s,t,u):ub3×ub6×Bool×ub18×Int×Int×ub18×Int×Int)=>
 bif (decide (x<0))then
 l (m,n,o,[q],s,t,u)
 else
 bif (decide (x=0))then
 bif (decide ((p.length:Int)+(([q]:List Int).length:Int)≤LIM))then
 l (m,n,o,(p++[q]),s,t,u)
 else none
 else
 l (m,n,o,p,s,t,u)) fun v=>
 bif (decide (0<(e.length:Int)))then
 bif (decide (0≤(List.getD c (Int.toNat b) 0))&&decide ((List.getD c (Int.toNat b) 0)<(f.1.length:Int)))then
 bif (decide (0≤0)&&decide (0<(e.length:Int)))then
 bif (decide (0≤(List.getD e 0 0))&&decide ((List.getD e 0 0)<(f.1.length:Int)))then
 (d137 (List.getD f.1 (Int.toNat (List.getD c (Int.toNat b) 0)) (false,[],[])) (List.getD f.1 (Int.toNat (List.getD e 0 0)) (false,[],[]))).bind fun r=>
 bif !h then
 v (j,f,h,e,(List.getD c (Int.toNat b) 0),(w (0-r)),c,k,b)
 else
 v (j,f,h,e,(List.getD c (Int.toNat b) 0),r,c,k,b)
 else none
 else none
 else none
 else
 v (j,f,h,e,(List.getD c (Int.toNat b) 0),(-1),c,k,b)
 else none
 else
 some (Sum.inr (j,f,h,e))) (p0,p1,p3,[],p2,(p2.length:Int),0)).bind fun((a,g,ah,i):ub3×ub6×Bool×ub18)=>
 bif (decide ((i.length:Int)=1))then
 bif (decide (0≤0)&&decide (0<(i.length:Int)))then
 some ((List.getD i 0 0),a,g)
 else none
 else
 (d155 a.1.2.2.2.2.2.2.1 a.2.2.2.2.2.2.2.2.1 i a.2.1 ah).bind fun y=>
 some (y.1,(a.1,a.2.1,a.2.2.1,a.2.2.2.1,a.2.2.2.2.1,a.2.2.2.2.2.1,a.2.2.2.2.2.2.1,a.2.2.2.2.2.2.2.1,y.2.2,a.2.2.2.2.2.2.2.2.2),(g.1,g.2.1,g.2.2.1,g.2.2.2.1,g.2.2.2.2.1,g.2.2.2.2.2.1,g.2.2.2.2.2.2.1,i))
def d180(p0:ub3)(p1:Int)(p2:ub12):Option ub3:=
 (zaa (β:=ub3) (fun((e,g,j,h,c):ub3×Int×ub12×Int×Int)=>
 bif (decide (c<h))then
 letJ (fun((aa,ab,ac,ae,af):ub3×Int×ub12×Int×Int)=>
 some (Sum.inl (aa,ab,ac,ae,(w (af+1))))) fun k=>
 bif (decide (0≤c)&&decide (c<(e.2.2.2.2.1.length:Int)))then
 letJ (fun((a,l,i,t7x,m,n,ag):ub3×Int×ub12×Int×Int×Int×Bool)=>
 bif ag then
 k (a,l,i,m,n)
 else
 (d172 ((((List.getD a.2.2.2.2.1 (Int.toNat t7x) ([],0,0,false,[],[])).2).2).2) i).bind fun r=>
 (zaa (β:=(ub3×Int×ub12×Int×Int)) (fun((b,o,p,t7x_1,q,s):ub3×Int×ub12×Int×Int×Int)=>
 letJ (fun((f,t,u,t7x_2,v,x,ah):ub3×Int×ub12×Int×Int×Int×Bool)=>
 bif ah then
 some (Sum.inl ((f.1,f.2.1,f.2.2.1,f.2.2.2.1,(List.set f.2.2.2.2.1 (Int.toNat t7x_2) ((List.getD f.2.2.2.2.1 (Int.toNat t7x_2) ([],0,0,false,[],[])).1,((List.getD f.2.2.2.2.1 (Int.toNat t7x_2) ([],0,0,false,[],[])).2).1,(w (((((List.getD f.2.2.2.2.1 (Int.toNat t7x_2) ([],0,0,false,[],[])).2).2).1)+1)),(((List.getD f.2.2.2.2.1 (Int.toNat t7x_2) ([],0,0,false,[],[])).2).2).2)),f.2.2.2.2.2),t,u,(((Int.toNat t7x_2):Nat):Int),v,x))
 else
 some (Sum.inr (f,t,u,v,x))) fun y=>
 bif (decide ((((List.getD b.2.2.2.2.1 (Int.toNat t7x_1) ([],0,0,false,[],[])).2).2).1<(((List.getD b.2.2.2.2.1 (Int.toNat t7x_1) ([],0,0,false,[],[])).1).length:Int)))then
 bif (decide (0≤(((List.getD b.2.2.2.2.1 (Int.toNat t7x_1) ([],0,0,false,[],[])).2).2).1)&&decide ((((List.getD b.2.2.2.2.1 (Int.toNat t7x_1) ([],0,0,false,[],[])).2).2).1<(((List.getD b.2.2.2.2.1 (Int.toNat t7x_1) ([],0,0,false,[],[])).1).length:Int)))then
 bif (decide (0≤(List.getD ((List.getD b.2.2.2.2.1 (Int.toNat t7x_1) ([],0,0,false,[],[])).1) (Int.toNat ((((List.getD b.2.2.2.2.1 (Int.toNat t7x_1) ([],0,0,false,[],[])).2).2).1)) 0))&&decide ((List.getD ((List.getD b.2.2.2.2.1 (Int.toNat t7x_1) ([],0,0,false,[],[])).1) (Int.toNat ((((List.getD b.2.2.2.2.1 (Int.toNat t7x_1) ([],0,0,false,[],[])).2).2).1)) 0)<(b.2.2.2.2.2.1.length:Int)))then
 y (b,o,p,(((Int.toNat t7x_1):Nat):Int),q,s,!(decide ((List.getD b.2.2.2.2.2.1 (Int.toNat (List.getD ((List.getD b.2.2.2.2.1 (Int.toNat t7x_1) ([],0,0,false,[],[])).1) (Int.toNat ((((List.getD b.2.2.2.2.1 (Int.toNat t7x_1) ([],0,0,false,[],[])).2).2).1)) 0)) 0)=0)))
 else none
 else none
 else
 y (b,o,p,(((Int.toNat t7x_1):Nat):Int),q,s,false)) ((a.1,a.2.1,a.2.2.1,a.2.2.2.1,(List.set (List.set a.2.2.2.2.1 (Int.toNat t7x) ((List.getD a.2.2.2.2.1 (Int.toNat t7x) ([],0,0,false,[],[])).1,((List.getD a.2.2.2.2.1 (Int.toNat t7x) ([],0,0,false,[],[])).2).1,(((List.getD a.2.2.2.2.1 (Int.toNat t7x) ([],0,0,false,[],[])).2).2).1,r)) (Int.toNat t7x) ((List.getD (List.set a.2.2.2.2.1 (Int.toNat t7x) ((List.getD a.2.2.2.2.1 (Int.toNat t7x) ([],0,0,false,[],[])).1,((List.getD a.2.2.2.2.1 (Int.toNat t7x) ([],0,0,false,[],[])).2).1,(((List.getD a.2.2.2.2.1 (Int.toNat t7x) ([],0,0,false,[],[])).2).2).1,r)) (Int.toNat t7x) ([],0,0,false,[],[])).1,((List.getD (List.set a.2.2.2.2.1 (Int.toNat t7x) ((List.getD a.2.2.2.2.1 (Int.toNat t7x) ([],0,0,false,[],[])).1,((List.getD a.2.2.2.2.1 (Int.toNat t7x) ([],0,0,false,[],[])).2).1,(((List.getD a.2.2.2.2.1 (Int.toNat t7x) ([],0,0,false,[],[])).2).2).1,r)) (Int.toNat t7x) ([],0,0,false,[],[])).2).1,(w (((((List.getD (List.set a.2.2.2.2.1 (Int.toNat t7x) ((List.getD a.2.2.2.2.1 (Int.toNat t7x) ([],0,0,false,[],[])).1,((List.getD a.2.2.2.2.1 (Int.toNat t7x) ([],0,0,false,[],[])).2).1,(((List.getD a.2.2.2.2.1 (Int.toNat t7x) ([],0,0,false,[],[])).2).2).1,r)) (Int.toNat t7x) ([],0,0,false,[],[])).2).2).1)+1)),(((List.getD (List.set a.2.2.2.2.1 (Int.toNat t7x) ((List.getD a.2.2.2.2.1 (Int.toNat t7x) ([],0,0,false,[],[])).1,((List.getD a.2.2.2.2.1 (Int.toNat t7x) ([],0,0,false,[],[])).2).1,(((List.getD a.2.2.2.2.1 (Int.toNat t7x) ([],0,0,false,[],[])).2).2).1,r)) (Int.toNat t7x) ([],0,0,false,[],[])).2).2).2)),a.2.2.2.2.2),l,i,(((Int.toNat t7x):Nat):Int),m,n)).bind fun((ai,aj,ak,al,am):ub3×Int×ub12×Int×Int)=>
 k (ai,aj,ak,al,am)) fun z=>
 bif !(decide ((((List.getD e.2.2.2.2.1 (Int.toNat c) ([],0,0,false,[],[])).1).length:Int)≤(((List.getD e.2.2.2.2.1 (Int.toNat c) ([],0,0,false,[],[])).2).2).1))then
 bif (decide (0≤(((List.getD e.2.2.2.2.1 (Int.toNat c) ([],0,0,false,[],[])).2).2).1)&&decide ((((List.getD e.2.2.2.2.1 (Int.toNat c) ([],0,0,false,[],[])).2).2).1<(((List.getD e.2.2.2.2.1 (Int.toNat c) ([],0,0,false,[],[])).1).length:Int)))then
 z (e,g,j,(((Int.toNat c):Nat):Int),h,c,!(decide ((List.getD ((List.getD e.2.2.2.2.1 (Int.toNat c) ([],0,0,false,[],[])).1) (Int.toNat ((((List.getD e.2.2.2.2.1 (Int.toNat c) ([],0,0,false,[],[])).2).2).1)) 0)=g)))
 else none
 else
 z (e,g,j,(((Int.toNat c):Nat):Int),h,c,true)
 else none
 else
 some (Sum.inr e)) (p0,p1,p2,(p0.2.2.2.2.1.length:Int),0)).bind fun(an:ub3)=>
 some an
def d139(k:ub3)(r:ub6):Option ub1:=
 (d135 k 1).bind fun e=>
 (d178 k r e false).bind fun a=>
 bif (decide (0≤a.1)&&decide (a.1<(a.2.2.1.length:Int)))then
 (d68 a.2.1.2.2.2.1).bind fun f=>
 (d132 (List.getD a.2.2.1 (Int.toNat a.1) (false,[],[])) f).bind fun g=>
 bif (decide (0≤a.1)&&decide (a.1<(a.2.2.1.length:Int)))then
 (d179 g (List.getD a.2.2.1 (Int.toNat a.1) (false,[],[]))).bind fun c=>
 (d180 a.2.1 a.1 c.1).bind fun b=>
 bif (decide (0≤a.1)&&decide (a.1<(b.2.2.2.2.2.1.length:Int)))then
 bif (decide (0≤a.1)&&decide (a.1<(b.2.2.2.2.2.2.1.length:Int)))then
 some ((b.1,b.2.1,b.2.2.1,b.2.2.2.1,b.2.2.2.2.1,(List.set b.2.2.2.2.2.1 (Int.toNat a.1) 2),(List.set b.2.2.2.2.2.2.1 (Int.toNat a.1) c.1),b.2.2.2.2.2.2.2),a.2.2)
 else none
 else none
 else none
 else none
def d140(k:ub3)(r:ub6):Option ub1:=
 (d135 k 0).bind fun b=>
 (d178 k r b true).bind fun a=>
 bif (decide (0≤a.1)&&decide (a.1<(a.2.1.2.2.2.2.2.1.length:Int)))then
 (d68 0).bind fun c=>
 bif (decide (0≤a.1)&&decide (a.1<(a.2.1.2.2.2.2.2.2.1.length:Int)))then
 (d68 1).bind fun e=>
 (d180 (a.2.1.1,a.2.1.2.1,a.2.1.2.2.1,a.2.1.2.2.2.1,a.2.1.2.2.2.2.1,(List.set a.2.1.2.2.2.2.2.1 (Int.toNat a.1) 3),(List.set a.2.1.2.2.2.2.2.2.1 (Int.toNat a.1) c),a.2.1.2.2.2.2.2.2.2) a.1 e).bind fun f=>
 some (f,(a.2.2.1,a.2.2.2.1,a.2.2.2.2.1,a.2.2.2.2.2.1,a.2.2.2.2.2.2.1,a.2.2.2.2.2.2.2.1,[a.1],a.2.2.2.2.2.2.2.2.2))
 else none
 else none
def d69(p0:ub3):Option (Bool×ub3):=
 (d130 p0).bind fun r=>
 (d131 p0.2.2.2.2.2.2.1).bind fun aa=>
 (d68 p0.2.2.2.1).bind fun ab=>
 (d68 p0.2.2.1).bind fun ac=>
 (zaa (β:=ub1) (fun((o,h,n,p,j):ub3×ub6×ub11×Int×Int)=>
 bif (decide (j<p))then
 bif (decide (0≤j)&&decide (j<(n.length:Int)))then
 (d132 h.2.2.2.1 (List.getD n (Int.toNat j) (false,[],[]))).bind fun ae=>
 some (Sum.inl (o,(h.1,h.2.1,h.2.2.1,ae,h.2.2.2.2),n,p,(w (j+1))))
 else none
 else
 some (Sum.inr (o,h))) (p0,(r,aa,ab,ac,(false,[],[]),[],[],[]),r,(r.length:Int),0)).bind fun((q,s):ub3×ub6)=>
 (d135 q 0).bind fun af=>
 (d134 af (fun a=>d136 a s)).bind fun ag=>
 (d133 q s ag).bind fun f=>
 (d68 0).bind fun ah=>
 (d135 f.1 1).bind fun t=>
 (zaa (β:=ub1) (fun((u,e,k,v,g):ub3×ub6×ub18×Int×Int)=>
 bif (decide (g<v))then
 bif (decide (0≤g)&&decide (g<(k.length:Int)))then
 bif (decide (0≤(List.getD k (Int.toNat g) 0))&&decide ((List.getD k (Int.toNat g) 0)<(e.1.length:Int)))then
 (d132 (List.getD e.1 (Int.toNat (List.getD k (Int.toNat g) 0)) (false,[],[])) e.2.2.1).bind fun ai=>
 (d138 e.2.2.2.2.1 ai).bind fun aj=>
 some (Sum.inl (u,(e.1,e.2.1,e.2.2.1,e.2.2.2.1,aj,e.2.2.2.2.2),k,v,(w (g+1))))
 else none
 else none
 else
 some (Sum.inr (u,e))) (f.1,(f.2.1,f.2.2.1,f.2.2.2.1,f.2.2.2.2.1,ah,f.2.2.2.2.2.2),t,(t.length:Int),0)).bind fun((c,l):ub3×ub6)=>
 letJ (fun((b,i,ak):ub3×ub6×Bool)=>
 bif (decide ((b.2.2.2.2.2.2.2.2.1.length:Int)+(([i.1]:List ub11).length:Int)≤LIM))then
 bif (decide ((b.2.2.2.2.2.2.2.2.2.2.2.2.2.1.length:Int)+(([i]:List ub6).length:Int)≤LIM))then
 bif (decide ((b.2.2.2.2.2.2.2.2.2.2.2.2.2.2.length:Int)+(i.2.2.2.2.2.1.length:Int)≤LIM))then
 some (!ak,(b.1,b.2.1,b.2.2.1,b.2.2.2.1,b.2.2.2.2.1,b.2.2.2.2.2.1,b.2.2.2.2.2.2.1,b.2.2.2.2.2.2.2.1,(b.2.2.2.2.2.2.2.2.1++[i.1]),b.2.2.2.2.2.2.2.2.2.1,b.2.2.2.2.2.2.2.2.2.2.1,b.2.2.2.2.2.2.2.2.2.2.2.1,b.2.2.2.2.2.2.2.2.2.2.2.2.1,(b.2.2.2.2.2.2.2.2.2.2.2.2.2.1++[i]),(b.2.2.2.2.2.2.2.2.2.2.2.2.2.2++i.2.2.2.2.2.1)))
 else none
 else none
 else none) fun m=>
 bif (decide (c.2.2.2.2.2.2.2.1=c.1.2.2.2.1))then
 m (c,l,(decide (c.2.2.2.2.2.2.2.1=c.1.2.2.2.1)))
 else
 (d135 c 0).bind fun al=>
 bif (decide ((w (c.2.2.2.2.2.2.2.1+(al.length:Int)))≤c.1.2.2.2.1))then
 (d135 c 0).bind fun am=>
 (d133 c l am).bind fun x=>
 m (x.1,x.2,true)
 else
 (d135 c 1).bind fun an=>
 bif (decide (0<(an.length:Int)))then
 (d139 c l).bind fun y=>
 m (y.1,y.2,(decide (c.2.2.2.2.2.2.2.1=c.1.2.2.2.1)))
 else
 (d140 c l).bind fun z=>
 m (z.1,z.2,(decide (c.2.2.2.2.2.2.2.1=c.1.2.2.2.1)))
def d22(p0:ub7)(p1:List ub16)(p2:List Int):Option (ub4×Int):=
 (d66 3 p0 p1 p2).bind fun r=>
 bif !(decide (r=0))then
 some ((0,0,0,0,[],[]),r)
 else
 (d67 p1).bind fun q=>
 (d52 p1).bind fun s=>
 (d30 s p0.2.2.2.1).bind fun t=>
 bif (decide ((p0.2.1.length:Int)=(p0.2.1.length:Int))&&(decide (0≤(p0.2.1.length:Int))&&decide ((p0.2.1.length:Int)≤LIM)))then
 (zaa (β:=(ub13×ub4×ub3)) (fun((g,h,a,i,j):ub13×ub4×ub3×Int×Int)=>
 bif (decide (j<i))then
 (d68 1).bind fun k=>
 bif (decide ((a.2.2.2.2.2.2.1.length:Int)+(([k]:List ub12).length:Int)≤LIM))then
 some (Sum.inl (g,h,(a.1,a.2.1,a.2.2.1,a.2.2.2.1,a.2.2.2.2.1,a.2.2.2.2.2.1,(a.2.2.2.2.2.2.1++[k]),a.2.2.2.2.2.2.2),i,(w (j+1))))
 else none
 else
 some (Sum.inr (g,h,a))) (p1,(0,0,0,0,[],[]),(p0,p2,q,t,[],(List.replicate (Int.toNat (p0.2.1.length:Int)) 0),[],0,[],3,p0.2.2.2.1,0,(p0.2.1.length:Int),[],[]),(p0.2.1.length:Int),0)).bind fun((l,u,v):ub13×ub4×ub3)=>
 (zaa (β:=ub0) (fun((m,b,e,n,c):ub4×ub3×ub13×Int×Int)=>
 bif (decide (c<n))then
 bif (decide (0≤c)&&decide (c<(e.length:Int)))then
 (d68 1).bind fun o=>
 bif (decide ((b.2.2.2.2.1.length:Int)+(([((List.getD e (Int.toNat c) ([],0)).1,(List.getD e (Int.toNat c) ([],0)).2,0,o)]:List ub8).length:Int)≤LIM))then
 some (Sum.inl (m,(b.1,b.2.1,b.2.2.1,b.2.2.2.1,(b.2.2.2.2.1++[((List.getD e (Int.toNat c) ([],0)).1,(List.getD e (Int.toNat c) ([],0)).2,0,o)]),b.2.2.2.2.2),e,n,(w (c+1))))
 else none
 else none
 else
 some (Sum.inr (m,b))) (u,v,l,(l.length:Int),0)).bind fun((x,y):ub4×ub3)=>
 (zaa (β:=ub0) (fun((p,z):ub4×ub3)=>
 (d69 z).bind fun f=>
 bif f.1 then
 some (Sum.inl (p,f.2))
 else
 some (Sum.inr (p,f.2))) (x,y)).bind fun((ab,aa):ub4×ub3)=>
 some (aa.2.2.2.2.2.2.2.2.2,0)
 else none
def d122(a:Int)(b:Int):Option Int:=
 (zaa (β:=Int) (fun((e,c):Int×Int)=>
 bif (decide (0<c))then
 bif (!decide (c=0))then
 some (Sum.inl (c,(w (Int.tmod e c))))
 else none
 else
 some (Sum.inr e)) (a,b)).bind fun(f:Int)=>
 some f
def d123(n:Int):Option ub18:=
 (zaa (β:=ub18) (fun((out,x):ub18×Int)=>
 bif (decide (0<x))then
 bif (decide ((out.length:Int)+(([(wu32 x)]:List Int).length:Int)≤LIM))then
 some (Sum.inl ((out++[(wu32 x)]),(wu64 (Int.fdiv x (2^(min (Int.toNat 32) 64))))))
 else none
 else
 some (Sum.inr out)) ([],(wu64 n))).bind fun(a:List Int)=>
 some a
def d65(a:Int)(b:Int):Option ub12:=
 (d122 a b).bind fun r=>
 bif (!decide (r=0))then
 (d123 (w (Int.tdiv a r))).bind fun c=>
 bif (!decide (r=0))then
 (d123 (w (Int.tdiv b r))).bind fun e=>
 some (false,c,e)
 else none
 else none
def d39(n:Int):Option ub12:=
 (d65 n 1).bind fun r=>
 some r
def d21:Option Bool:=
 (d48 3 [[0,1],[0,1],[0,1],[0,1],[0,1],[0,1],[2],[2],[2]]).bind fun r=>
 (d25 2 3 1 0 2).bind fun e=>
 (d22 e r.1 [0,1,2]).bind fun a=>
 letJ (fun((b,f):ub4×Bool)=>
 bif f then
 some false
 else
 bif (decide (0≤1)&&decide (1<(b.2.2.2.2.1.length:Int)))then
 bif (decide (0≤0)&&decide (0<((((List.getD b.2.2.2.2.1 1 ([],[],(false,[],[]),(false,[],[]),(false,[],[]),[],[],[])).2).1).length:Int)))then
 (d65 1 3).bind fun g=>
 (d37 (List.getD (((List.getD b.2.2.2.2.1 1 ([],[],(false,[],[]),(false,[],[]),(false,[],[]),[],[],[])).2).1) 0 (false,[],[])) g).bind fun h=>
 bif h then
 bif (decide (0≤2)&&decide (2<(b.2.2.2.2.1.length:Int)))then
 (d39 2).bind fun i=>
 (d37 (((((List.getD b.2.2.2.2.1 2 ([],[],(false,[],[]),(false,[],[]),(false,[],[]),[],[],[])).2).2).2).1) i).bind fun j=>
 bif j then
 (d30 9 2).bind fun k=>
 some (decide (k=4))
 else
 some false
 else none
 else
 some false
 else none
 else none) fun c=>
 bif !(!(decide (a.2=0)))then
 bif !(!(decide ((a.1.2.2.2.2.1.length:Int)=3)))then
 bif (decide (0≤1)&&decide (1<(a.1.2.2.2.2.1.length:Int)))then
 bif !(!(decide (((((List.getD a.1.2.2.2.2.1 1 ([],[],(false,[],[]),(false,[],[]),(false,[],[]),[],[],[])).2).1).length:Int)=3)))then
 (d38 a.1.2.2.2.2.2 [0,2]).bind fun l=>
 c (a.1,!l)
 else
 c (a.1,true)
 else none
 else
 c (a.1,true)
 else
 c (a.1,true)
def d70(p0:Int)(p1:List ub16):Option Bool:=
 letJ (fun((j,k,l):Int×ub13×Bool)=>
   bif l then
    some false
   else
    (zaa (β:=Unit⊕Bool) (fun((c,b,e,a):Int×ub13×Int×Int)=>
      bif (decide (a<(b.length:Int)))then
       letJ (fun((m,h,n,g,o):Int×ub13×Int×Int×Bool)=>
         bif o then
          some (Sum.inr (Sum.inr false))
         else
          bif (decide (0≤g)&&decide (g<(h.length:Int)))then
           some (Sum.inl (m,h,(w (n-((List.getD h (Int.toNat g) ([],0)).2))),(w (g+1))))
          else none) fun f=>
       bif (decide (0≤a)&&decide (a<(b.length:Int)))then
        (d32 c ((List.getD b (Int.toNat a) ([],0)).1)).bind fun r=>
        bif !(!r)then
         bif (decide (0≤a)&&decide (a<(b.length:Int)))then
          bif !(decide ((List.getD b (Int.toNat a) ([],0)).2<1))then
           bif (decide (0≤a)&&decide (a<(b.length:Int)))then
            bif !(decide (e<(List.getD b (Int.toNat a) ([],0)).2))then
             bif (decide (0<a))then
              bif (decide (0≤(w (a-1)))&&decide ((w (a-1))<(b.length:Int)))then
               bif (decide (0≤a)&&decide (a<(b.length:Int)))then
                (d97 ((List.getD b (Int.toNat (w (a-1))) ([],0)).1) ((List.getD b (Int.toNat a) ([],0)).1)).bind fun p=>
                f (c,b,e,a,!p)
               else none
              else none
             else
              f (c,b,e,a,false)
            else
             f (c,b,e,a,true)
           else none
          else
           f (c,b,e,a,true)
         else none
        else
         f (c,b,e,a,true)
       else none
      else
       some (Sum.inr (Sum.inl ()))) (j,k,100000,0)).bind fun
    |Sum.inl _=>
     some true
    |Sum.inr q=>
     some q) fun i=>
 bif !(decide (p0<1))then
  i (p0,p1,(decide (7<p0)))
 else
  i (p0,p1,true)
def sg70:Sig:=⟨[(y2,.sh),(y25,.bw)],[(y4,.sh)]⟩
theorem sim70:Sim Tryz.prog 70 sg70 d70:=uqz Tryz.func70 (zac rfl) Tryz.call70 (by kernel_rfl) (by kernel_rfl) [.fn E32,.fn E97] (uqs (.seq (.join uqr [(0,uqa),(1,uqe),(12,uqc)] (.cond (uqs .nil) .nil)) (uqs (.seq (uqs (.block (.loop [(0,uqa),(1,uqe),(5,uqa),(6,uqa)] [(.brk 0,[]),(.ret,[(4,uqc)])] (.seq (uqs (.cond .nil .nil)) (.seq (.block (.seq (.join uqr [(0,uqa),(1,uqe),(5,uqa),(6,uqa),(62,uqc)] (.cond (uqs .nil) .nil)) uqr)) uqr))))) (uqs .nil))))) fun xs=>by kernel_rfl
def E70:FnE Tryz.prog:=⟨70,sg70,d70,sim70⟩
def d71(n:Int)(l:List Int):Option Bool:=
 bif (decide ((l.length:Int)=n))then
 (d32 n l).bind fun r=>
 some r
 else
 some false
def d23(p0:Int)(p1:ub7)(p2:List ub16)(p3:List Int):Option Int:=
 letJ (fun((h,i,j,g,k,p):Int×ub13×ub18×ub7×Int×Bool)=>
 bif p then
 some 5
 else
 letJ (fun((q,b,c,f,a,n):Int×ub13×ub18×ub7×Int×Bool)=>
 letJ (fun((s,t,o,u):ub13×ub18×Int×Bool)=>
 bif u then
 some 4
 else
 (d70 o s).bind fun r=>
 bif !r then
 some 8
 else
 (d71 o t).bind fun v=>
 bif !v then
 some 13
 else
 some 0) fun e=>
 bif !(decide (a<1))then
 bif !(decide (7<a))then
 bif !(decide (f.2.2.2.1<1))then
 bif !(decide (5<f.2.2.2.1))then
 bif (decide (q=1))then
 bif !(!(decide (f.2.2.2.1=1)))then
 bif !(!n)then
 bif !(decide (f.2.2.2.2.2.2.1<1))then
 e (b,c,a,(decide (3<f.2.2.2.2.2.2.1)))
 else
 e (b,c,a,true)
 else
 e (b,c,a,true)
 else
 e (b,c,a,true)
 else
 bif !(!n)then
 bif !(decide (f.2.2.2.2.2.2.1<1))then
 e (b,c,a,(decide (3<f.2.2.2.2.2.2.1)))
 else
 e (b,c,a,true)
 else
 e (b,c,a,true)
 else
 e (b,c,a,true)
 else
 e (b,c,a,true)
 else
 e (b,c,a,true)
 else
 e (b,c,a,true)) fun l=>
 bif (decide (h=2))then
 bif (decide (1≤g.2.2.2.2.2.1))then
 l (h,i,j,g,k,(decide (g.2.2.2.2.2.1≤6)))
 else
 l (h,i,j,g,k,false)
 else
 l (h,i,j,g,k,(decide (g.2.2.2.2.2.1=0)))) fun m=>
 bif !(decide (p0<1))then
 bif !(decide (3<p0))then
 m (p0,p2,p3,p1,(p1.2.1.length:Int),!(decide (p1.2.2.1=p0)))
 else
 m (p0,p2,p3,p1,(p1.2.1.length:Int),true)
 else
 m (p0,p2,p3,p1,(p1.2.1.length:Int),true)
def d99(n:Int)(l:List Int):Option ub18:=
 (zaa (β:=ub18) (fun((e,f,out,i):Int×ub18×ub18×Int)=>
 letJ (fun((g,c,a,b,k):Int×ub18×ub18×Int×Bool)=>
 bif k then
 letJ (fun((m,o,p,q):Int×ub18×ub18×Int)=>
 some (Sum.inl (m,o,p,(w (q+1))))) fun h=>
 bif (decide (0≤b)&&decide (b<(c.length:Int)))then
 (d24 (List.getD c (Int.toNat b) 0) g).bind fun r=>
 (d49 a r).bind fun s=>
 bif !s then
 bif (decide ((a.length:Int)+(([r]:List Int).length:Int)≤LIM))then
 h (g,c,(a++[r]),b)
 else none
 else
 h (g,c,a,b)
 else none
 else
 some (Sum.inr a)) fun j=>
 bif (decide (i<(f.length:Int)))then
 j (e,f,out,i,(decide ((out.length:Int)<e)))
 else
 j (e,f,out,i,false)) (n,l,[],0)).bind fun(t:List Int)=>
 some t
def sg99:Sig:=⟨[(y2,.sh),(y26,.bw)],[(y26,(.own 3 .sh))]⟩
theorem sim99:Sim Tryz.prog 99 sg99 d99:=uqz Tryz.func99 (zac rfl) Tryz.call99 (by kernel_rfl) (by kernel_rfl) [.fn E24,.fn E49] (uqs (.seq (.reg [] [{fl:=2}]) (.seq (uqs (.block (.loop [(0,uqa),(1,uqb),(5,uqd),(6,uqa)] [(.brk 0,[(5,uqd)])] (.seq (.join uqr [(0,uqa),(1,uqb),(5,uqd),(6,uqa),(17,uqc)] (.cond .nil .nil)) (.join (.block (uqs (uqs (.cond uqr .nil)))) [(0,uqa),(1,uqb),(5,uqd),(6,uqa)] uqr))))) (uqs .nil)))) fun xs=>by kernel_rfl
def E99:FnE Tryz.prog:=⟨99,sg99,d99,sim99⟩
def d46(n:Int)(l:List ub18)(most:Int):Option ub15:=
 (zaa (β:=ub15) (fun((g,c,e,out,i):Int×ub15×Int×ub15×Int)=>
 letJ (fun((h,b,k,f,a,m):Int×ub15×Int×ub15×Int×Bool)=>
 bif m then
 bif (decide (0≤a)&&decide (a<(b.length:Int)))then
 bif (decide (0≤a)&&decide (a<(b.length:Int)))then
 bif (zbz 0 (bif (decide (12<((List.getD b (Int.toNat a) []).length:Int)))then 12 else((List.getD b (Int.toNat a) []).length:Int)) (List.getD b (Int.toNat a) []).length)then
 (d99 h (List.drop 0 (List.take (Int.toNat (bif (decide (12<((List.getD b (Int.toNat a) []).length:Int)))then 12 else((List.getD b (Int.toNat a) []).length:Int))) (List.getD b (Int.toNat a) [])))).bind fun r=>
 bif (decide ((f.length:Int)+(([r]:List ub18).length:Int)≤LIM))then
 some (Sum.inl (h,b,k,(f++[r]),(w (a+1))))
 else none
 else none
 else none
 else none
 else
 some (Sum.inr f)) fun j=>
 bif (decide (i<(c.length:Int)))then
 j (g,c,e,out,i,(decide (i<e)))
 else
 j (g,c,e,out,i,false)) (n,l,most,[],0)).bind fun(o:List ub18)=>
 some o
def sg46:Sig:=⟨[(y2,.sh),(y27,.bw),(y2,.sh)],[(y27,(.own 26 .sh))]⟩
theorem sim46:Sim Tryz.prog 46 sg46 d46:=uqz Tryz.func46 (zac rfl) Tryz.call46 (by kernel_rfl) (by kernel_rfl) [.fn E99] (uqs (.seq (.reg [] [{fl:=2}]) (.seq (uqs (.block (.loop [(0,uqa),(1,.v y27 .bw),(2,uqa),(7,.v y27 (.own 26 .sh)),(8,uqa)] [(.brk 0,[(7,.v y27 (.own 26 .sh))])] (.seq (.join uqr [(0,uqa),(1,.v y27 .bw),(2,uqa),(7,.v y27 (.own 26 .sh)),(8,uqa),(17,uqc)] (.cond .nil .nil)) (.seq (.block (.reg [] [{},{},{},{},{},{},{},{},{},{},{},{},{},{},{frz:=[(33,[])]}])) uqr))))) (uqs .nil)))) fun xs=>by kernel_rfl
def E46:FnE Tryz.prog:=⟨46,sg46,d46,sim46⟩
def d26(n:Int)(l:List ub18)(most:Int):Option ub13:=
 (d46 n l most).bind fun r=>
 (d48 n r).bind fun a=>
 some a.1
def sg26:Sig:=⟨[(y2,.sh),(y27,.bw),(y2,.sh)],[(y25,.sh)]⟩
theorem sim26:Sim Tryz.prog 26 sg26 d26:=uqz Tryz.func26 (zac rfl) Tryz.call26 (by kernel_rfl) (by kernel_rfl) [.fn E46,.fn E48] (uqs (.seq (.reg [] [{},{},{},{},{},{},{fl:=1}]) (uqs .nil))) fun xs=>by kernel_rfl
def E26:FnE Tryz.prog:=⟨26,sg26,d26,sim26⟩
def d27(n:Int)(c:Int):Option ub18:=
 (zaa (β:=ub18) (fun((a,b,out,i):Int×Int×ub18×Int)=>
 bif (decide (i<a))then
 (d24 b (w (i+1))).bind fun r=>
 bif (!decide ((w (i+1))=0))then
 bif (zbz 0 r out.length)then
 bif (decide ((([]:List Int).length:Int)+((List.drop 0 (List.take (Int.toNat r) out)).length:Int)≤LIM))then
 bif (decide (((List.drop 0 (List.take (Int.toNat r) out)).length:Int)+(([i]:List Int).length:Int)≤LIM))then
 bif (zbz r (out.length:Int) out.length)then
 bif (decide ((((List.drop 0 (List.take (Int.toNat r) out))++[i]).length:Int)+((List.drop (Int.toNat r) (List.take (Int.toNat (out.length:Int)) out)).length:Int)≤LIM))then
 some (Sum.inl (a,(w (Int.tdiv b (w (i+1)))),(((List.drop 0 (List.take (Int.toNat r) out))++[i])++(List.drop (Int.toNat r) (List.take (Int.toNat (out.length:Int)) out))),(w (i+1))))
 else none
 else none
 else none
 else none
 else none
 else none
 else
 some (Sum.inr out)) (n,c,[],0)).bind fun(e:List Int)=>
 some e
def d146(gs:List ub16):Option Bool:=
 (d70 7 gs).bind fun r=>
 some r
def d83(gs:List ub16):Option Int:=
 (zaa (β:=Int) (fun((a,n,i):ub13×Int×Int)=>
 letJ (fun((c,e,b,g):ub13×Int×Int×Bool)=>
 bif g then
 bif (decide (0≤b)&&decide (b<(c.length:Int)))then
 some (Sum.inl (c,(w (e+((List.getD c (Int.toNat b) ([],0)).2))),(w (b+1))))
 else none
 else
 some (Sum.inr e)) fun f=>
 bif (decide (i<(a.length:Int)))then
 (d146 a).bind fun r=>
 f (a,n,i,r)
 else
 f (a,n,i,false)) (gs,0,0)).bind fun(h:Int)=>
 some h
def d74(gs:List ub16):Option Int:=
 (d83 gs).bind fun r=>
 letJ (fun(e:Int)=>
 some e) fun a=>
 letJ (fun((b,n,f):ub13×Int×Bool)=>
 bif f then
 bif (decide (0≤0)&&decide (0<(b.length:Int)))then
 a (w (n-((List.getD b 0 ([],0)).2)))
 else none
 else
 a n) fun c=>
 bif (decide (0<r))then
 bif (decide (0≤0)&&decide (0<(gs.length:Int)))then
 c (gs,r,(decide ((((List.getD gs 0 ([],0)).1).length:Int)=0)))
 else none
 else
 c (gs,r,false)
def d73(ballots:Int)(seats:Int):Option Int:=
 letJ (fun((c,b,e):Int×Int×Bool)=>
 bif e then
 some 0
 else
 bif (!decide ((w (b+1))=0))then
 some (w ((w (Int.tdiv c (w (b+1))))+1))
 else none) fun a=>
 bif !(decide (ballots<0))then
 bif !(decide (100000<ballots))then
 bif !(decide (seats<1))then
 a (ballots,seats,(decide (5<seats)))
 else
 a (ballots,seats,true)
 else
 a (ballots,seats,true)
 else
 a (ballots,seats,true)
def d75(n:Int):Option ub17:=
 (d93 (wu64 n)).bind fun r=>
 some r
def d76(p0:ub10)(p1:List ub16)(p2:List Int)(p3:Int):Option ub14:=
 (zaa (β:=ub14) (fun((t,i,o,p,q,g):ub13×ub18×Int×ub10×ub14×Int)=>
 bif (decide (g<(i.length:Int)))then
 (d75 0).bind fun r=>
 letJ (fun((af,ag,ah,ai,aj,ak,al):ub13×ub18×Int×ub10×ub14×Int×ub17)=>
 (zaa (β:=(ub13×ub18×Int×ub10×ub14×Int×ub17)) (fun((b,h,j,c,k,e,l,a):ub13×ub18×Int×ub10×ub14×Int×ub17×Int)=>
 bif (decide (a<(b.length:Int)))then
 letJ (fun((am,an,ao,ap,aq,ar,au,av):ub13×ub18×Int×ub10×ub14×Int×ub17×Int)=>
 some (Sum.inl (am,an,ao,ap,aq,ar,au,(w (av+1))))) fun u=>
 letJ (fun((m,v,x,n,y,z,aa,f,ax):ub13×ub18×Int×ub10×ub14×Int×ub17×Int×Bool)=>
 bif ax then
 bif (decide (0≤f)&&decide (f<(m.length:Int)))then
 (d75 ((List.getD m (Int.toNat f) ([],0)).2)).bind fun ay=>
 bif (decide (0≤f)&&decide (f<(n.1.length:Int)))then
 (d77 ay (List.getD n.1 (Int.toNat f) [])).bind fun az=>
 (d79 aa az).bind fun ba=>
 u (m,v,x,n,y,z,ba,f)
 else none
 else none
 else
 u (m,v,x,n,y,z,aa,f)) fun s=>
 bif (decide (0≤a)&&decide (a<(c.2.2.length:Int)))then
 bif (decide (0≤a)&&decide (a<(b.length:Int)))then
 bif (decide ((List.getD c.2.2 (Int.toNat a) 0)<(((List.getD b (Int.toNat a) ([],0)).1).length:Int)))then
 bif (decide (0≤a)&&decide (a<(b.length:Int)))then
 bif (decide (0≤a)&&decide (a<(c.2.2.length:Int)))then
 bif (decide (0≤(List.getD c.2.2 (Int.toNat a) 0))&&decide ((List.getD c.2.2 (Int.toNat a) 0)<(((List.getD b (Int.toNat a) ([],0)).1).length:Int)))then
 bif (decide ((List.getD ((List.getD b (Int.toNat a) ([],0)).1) (Int.toNat (List.getD c.2.2 (Int.toNat a) 0)) 0)=e))then
 bif (decide (0≤e)&&decide (e<(h.length:Int)))then
 s (b,h,j,c,k,e,l,a,(decide ((List.getD h (Int.toNat e) 0)<2)))
 else none
 else
 s (b,h,j,c,k,e,l,a,false)
 else none
 else none
 else none
 else
 s (b,h,j,c,k,e,l,a,false)
 else none
 else none
 else
 some (Sum.inr (b,h,j,c,k,e,l))) (af,ag,ah,ai,aj,ak,al,0)).bind fun((bb,bc,be,bf,ab,bg,ac):ub13×ub18×Int×ub10×ub14×Int×ub17)=>
 bif (decide ((ab.length:Int)+(([ac]:List ub17).length:Int)≤LIM))then
 some (Sum.inl (bb,bc,be,bf,(ab++[ac]),(w (bg+1))))
 else none) fun ae=>
 bif (decide (0≤g)&&decide (g<(i.length:Int)))then
 bif (decide ((List.getD i (Int.toNat g) 0)=2))then
 (d75 o).bind fun bh=>
 (d77 bh p.2.1).bind fun bi=>
 ae (t,i,o,p,q,g,bi)
 else
 ae (t,i,o,p,q,g,r)
 else none
 else
 some (Sum.inr q)) (p1,p2,p3,p0,[],0)).bind fun(bj:List ub17)=>
 some bj
def d78(a:List Bool)(d:List Bool):Option ub12:=
 (d75 1).bind fun r=>
 (d75 1).bind fun b=>
 (d144 (false,a,r) (false,d,b)).bind fun c=>
 (d143 c).bind fun e=>
 some e
def d81(l:List Int)(c:Int):Option ub18:=
 (zaa (β:=(ub18×Int×ub18)) (fun((b,f,out,i):ub18×Int×ub18×Int)=>
 bif (decide (i<(b.length:Int)))then
 letJ (fun((o,p,q,r):ub18×Int×ub18×Int)=>
 some (Sum.inl (o,p,q,(w (r+1))))) fun k=>
 bif (decide (0≤i)&&decide (i<(b.length:Int)))then
 bif (decide ((List.getD b (Int.toNat i) 0)<f))then
 bif (decide (0≤i)&&decide (i<(b.length:Int)))then
 bif (decide ((out.length:Int)+(([(List.getD b (Int.toNat i) 0)]:List Int).length:Int)≤LIM))then
 k (b,f,(out++[(List.getD b (Int.toNat i) 0)]),i)
 else none
 else none
 else
 k (b,f,out,i)
 else none
 else
 some (Sum.inr (b,f,out))) (l,c,[],0)).bind fun((s,h,m):ub18×Int×ub18)=>
 bif (decide ((m.length:Int)+(([h]:List Int).length:Int)≤LIM))then
 (zaa (β:=ub18) (fun((e,j,g,a):ub18×Int×ub18×Int)=>
 bif (decide (a<(e.length:Int)))then
 letJ (fun((t,u,v,x):ub18×Int×ub18×Int)=>
 some (Sum.inl (t,u,v,(w (x+1))))) fun n=>
 bif (decide (0≤a)&&decide (a<(e.length:Int)))then
 bif (decide (j<(List.getD e (Int.toNat a) 0)))then
 bif (decide (0≤a)&&decide (a<(e.length:Int)))then
 bif (decide ((g.length:Int)+(([(List.getD e (Int.toNat a) 0)]:List Int).length:Int)≤LIM))then
 n (e,j,(g++[(List.getD e (Int.toNat a) 0)]),a)
 else none
 else none
 else
 n (e,j,g,a)
 else none
 else
 some (Sum.inr g)) (s,h,(m++[h]),0)).bind fun(y:List Int)=>
 some y
 else none
def d84(state:List Int)(s:Int):Option Int:=
 (zaa (β:=Int) (fun((a,b,n,i):ub18×Int×Int×Int)=>
 bif (decide (i<(a.length:Int)))then
 letJ (fun((e,f,g,h):ub18×Int×Int×Int)=>
 some (Sum.inl (e,f,g,(w (h+1))))) fun c=>
 bif (decide (0≤i)&&decide (i<(a.length:Int)))then
 bif (decide ((List.getD a (Int.toNat i) 0)=b))then
 c (a,b,(w (n+1)),i)
 else
 c (a,b,n,i)
 else none
 else
 some (Sum.inr n)) (state,s,0,0)).bind fun(j:Int)=>
 some j
def d85(elected:List Int)(state:List Int):Option (ub18×ub18):=
 (zaa (β:=(ub18×ub18)) (fun((b,a,i):ub18×ub18×Int)=>
 bif (decide (i<(a.length:Int)))then
 letJ (fun((e,f,g):ub18×ub18×Int)=>
 some (Sum.inl (e,f,(w (g+1))))) fun c=>
 bif (decide (0≤i)&&decide (i<(a.length:Int)))then
 bif (decide ((List.getD a (Int.toNat i) 0)=0))then
 (d81 b i).bind fun r=>
 bif (decide (0≤i)&&decide (i<(a.length:Int)))then
 c (r,(List.set a (Int.toNat i) 1),i)
 else none
 else
 c (b,a,i)
 else none
 else
 some (Sum.inr (b,a))) (elected,state,0)).bind fun((h,j):ub18×ub18)=>
 some (h,j)
def d86(t:ub4):Option ub18:=
 (zaa (β:=ub18) (fun((a,out,i):ub4×ub18×Int)=>
 bif (decide (i<(a.2.2.2.2.1.length:Int)))then
 bif (decide (0≤i)&&decide (i<(a.2.2.2.2.1.length:Int)))then
 bif (decide ((out.length:Int)+((((((((List.getD a.2.2.2.2.1 (Int.toNat i) ([],[],(false,[],[]),(false,[],[]),(false,[],[]),[],[],[])).2).2).2).2).2).1).length:Int)≤LIM))then
 some (Sum.inl (a,(out++((((((List.getD a.2.2.2.2.1 (Int.toNat i) ([],[],(false,[],[]),(false,[],[]),(false,[],[]),[],[],[])).2).2).2).2).2).1),(w (i+1))))
 else none
 else none
 else
 some (Sum.inr out)) (t,[],0)).bind fun(b:List Int)=>
 some b
def d87(p0:List ub17)(p1:List Int)(p2:Int)(p3:Bool):Option ub18:=
 (zaa (β:=ub18) (fun((o,m,p,ah,q,k):ub14×ub18×Int×Bool×ub18×Int)=>
 bif (decide (k<(o.length:Int)))then
 letJ (fun((ai,aj,ak,al,am,an):ub14×ub18×Int×Bool×ub18×Int)=>
 some (Sum.inl (ai,aj,ak,al,am,(w (an+1))))) fun s=>
 bif (decide (0≤k)&&decide (k<(m.length:Int)))then
 (zaa (β:=(ub14×ub18×Int×Bool×ub18×Int×Bool)) (fun((b,f,g,c,h,e,i,a):ub14×ub18×Int×Bool×ub18×Int×Bool×Int)=>
 bif (decide (a<(b.length:Int)))then
 letJ (fun((ao,ap,aq,ar,au,av,ax,ay):ub14×ub18×Int×Bool×ub18×Int×Bool×Int)=>
 some (Sum.inl (ao,ap,aq,ar,au,av,ax,(w (ay+1))))) fun t=>
 bif (decide (0≤a)&&decide (a<(b.length:Int)))then
 bif (decide (0≤e)&&decide (e<(b.length:Int)))then
 (d80 (List.getD b (Int.toNat a) []) (List.getD b (Int.toNat e) [])).bind fun r=>
 letJ (fun((u,v,x,y,z,aa,az,ab,ba):ub14×ub18×Int×Bool×ub18×Int×Bool×Int×Bool)=>
 bif ba then
 t (u,v,x,y,z,aa,false,ab)
 else
 t (u,v,x,y,z,aa,az,ab)) fun j=>
 bif (decide (0≤a)&&decide (a<(f.length:Int)))then
 bif (decide ((List.getD f (Int.toNat a) 0)=g))then
 bif c then
 bif !(decide (0<r))then
 bif !c then
 j (b,f,g,c,h,e,i,a,(decide (r<0)))
 else
 j (b,f,g,c,h,e,i,a,false)
 else
 j (b,f,g,c,h,e,i,a,true)
 else
 bif !c then
 j (b,f,g,c,h,e,i,a,(decide (r<0)))
 else
 j (b,f,g,c,h,e,i,a,false)
 else
 j (b,f,g,c,h,e,i,a,false)
 else none
 else none
 else none
 else
 some (Sum.inr (b,f,g,c,h,e,i))) (o,m,p,ah,q,k,(decide ((List.getD m (Int.toNat k) 0)=p)),0)).bind fun((ac,ae,af,ag,n,l,bb):ub14×ub18×Int×Bool×ub18×Int×Bool)=>
 bif bb then
 bif (decide ((n.length:Int)+(([l]:List Int).length:Int)≤LIM))then
 s (ac,ae,af,ag,(n++[l]),l)
 else none
 else
 s (ac,ae,af,ag,n,l)
 else none
 else
 some (Sum.inr q)) (p0,p1,p2,p3,[],0)).bind fun(bc:List Int)=>
 some bc
def d89(rounds:List ub6):Option (ub9×ub5):=
 (zaa (β:=(ub5×ub9)) (fun((a,out,i):ub5×ub9×Int)=>
 bif (decide (i<(a.length:Int)))then
 bif (decide (0≤i)&&decide (i<(a.length:Int)))then
 bif (decide ((out.length:Int)+(([(List.getD a (Int.toNat i) ([],[],(false,[],[]),(false,[],[]),(false,[],[]),[],[],[])).1]:List ub11).length:Int)≤LIM))then
 some (Sum.inl (a,(out++[(List.getD a (Int.toNat i) ([],[],(false,[],[]),(false,[],[]),(false,[],[]),[],[],[])).1]),(w (i+1))))
 else none
 else none
 else
 some (Sum.inr (a,out))) (rounds,[],0)).bind fun((b,c):ub5×ub9)=>
 some (c,b)
def d147(rule:Int)(tied:List Int)(lots:List Int):Option Bool:=
 letJ (fun((c,e):ub18×Bool)=>
   bif e then
    some false
   else
    (zaa (β:=Unit⊕Bool) (fun((b,i):ub18×Int)=>
      bif (decide (i<(b.length:Int)))then
       bif (decide (0≤(w (i-1)))&&decide ((w (i-1))<(b.length:Int)))then
        bif (decide (0≤i)&&decide (i<(b.length:Int)))then
         bif (decide ((List.getD b (Int.toNat i) 0)≤(List.getD b (Int.toNat (w (i-1))) 0)))then
          some (Sum.inr (Sum.inr false))
         else
          some (Sum.inl (b,(w (i+1))))
        else none
       else none
      else
       some (Sum.inr (Sum.inl ()))) (c,1)).bind fun
    |Sum.inl _=>
     some true
    |Sum.inr f=>
     some f) fun a=>
 bif !(decide (rule<1))then
  bif !(decide (3<rule))then
   bif !(decide ((lots.length:Int)<1))then
    bif !(decide (7<(lots.length:Int)))then
     (d71 (lots.length:Int) lots).bind fun r=>
     bif !(!r)then
      bif !(decide ((tied.length:Int)=0))then
       (d32 (lots.length:Int) tied).bind fun g=>
       a (tied,!g)
      else
       a (tied,true)
     else
      a (tied,true)
    else
     a (tied,true)
   else
    a (tied,true)
  else
   a (tied,true)
 else
  a (tied,true)
def d183(votes:List ub12)(c:Int):Option ub12:=
 bif (decide (c<(votes.length:Int)))then
 bif (decide (0≤c)&&decide (c<(votes.length:Int)))then
 some (List.getD votes (Int.toNat c) (false,[],[]))
 else none
 else
 (d39 0).bind fun r=>
 some r
def d211(a:ub12):Option Bool:=
 bif !a.1 then
 bif (decide ((a.2.1.length:Int)≤1))then
 bif (decide ((a.2.2.length:Int)=1))then
 bif (decide (0≤0)&&decide (0<(a.2.2.length:Int)))then
 some (decide (0<(List.getD a.2.2 0 0)))
 else none
 else
 some false
 else
 some false
 else
 some false
def d212(a:ub12)(b:ub12):Option Int:=
 bif (decide ((a.2.1.length:Int)=0))then
 some 0
 else
 bif (decide (0≤0)&&decide (0<(a.2.1.length:Int)))then
 bif (decide (0≤0)&&decide (0<(b.2.2.length:Int)))then
 some (wu64 ((wu64 (List.getD a.2.1 0 0))*(wu64 (List.getD b.2.2 0 0))))
 else none
 else none
def d182(a:ub12)(b:ub12):Option Int:=
 letJ (fun((c,e,i):ub12×ub12×Bool)=>
 bif i then
 (d34 c).bind fun j=>
 (d34 e).bind fun k=>
 (d36 j k).bind fun l=>
 some l
 else
 (d212 c e).bind fun f=>
 (d212 e c).bind fun g=>
 bif (decide (f<g))then
 some (-1)
 else
 bif (decide (g<f))then
 some 1
 else
 some 0) fun h=>
 (d211 a).bind fun r=>
 bif !(!r)then
 (d211 b).bind fun m=>
 h (a,b,!m)
 else
 h (a,b,true)
def d148(votes:List ub12)(l:List Int)(least:Bool):Option ub18:=
 (zaa (β:=ub18) (fun((ab,o,ac,out,i):ub11×ub18×Bool×ub18×Int)=>
 bif (decide (i<(o.length:Int)))then
 letJ (fun((ae,af,ag,ah,ai):ub11×ub18×Bool×ub18×Int)=>
 some (Sum.inl (ae,af,ag,ah,(w (ai+1))))) fun p=>
 (zaa (β:=(ub11×ub18×Bool×ub18×Int×Bool)) (fun((e,a,b,f,c,best,k):ub11×ub18×Bool×ub18×Int×Bool×Int)=>
 bif (decide (k<(a.length:Int)))then
 letJ (fun((aj,ak,al,am,an,ao,ap):ub11×ub18×Bool×ub18×Int×Bool×Int)=>
 some (Sum.inl (aj,ak,al,am,an,ao,(w (ap+1))))) fun q=>
 bif (decide (0≤k)&&decide (k<(a.length:Int)))then
 (d183 e (List.getD a (Int.toNat k) 0)).bind fun r=>
 bif (decide (0≤c)&&decide (c<(a.length:Int)))then
 (d183 e (List.getD a (Int.toNat c) 0)).bind fun aq=>
 (d182 r aq).bind fun m=>
 letJ (fun((s,t,u,v,x,ar,y,au):ub11×ub18×Bool×ub18×Int×Bool×Int×Bool)=>
 bif au then
 q (s,t,u,v,x,false,y)
 else
 q (s,t,u,v,x,ar,y)) fun h=>
 bif b then
 bif !(decide (m<0))then
 bif !b then
 h (e,a,b,f,c,best,k,(decide (0<m)))
 else
 h (e,a,b,f,c,best,k,false)
 else
 h (e,a,b,f,c,best,k,true)
 else
 bif !b then
 h (e,a,b,f,c,best,k,(decide (0<m)))
 else
 h (e,a,b,f,c,best,k,false)
 else none
 else none
 else
 some (Sum.inr (e,a,b,f,c,best))) (ab,o,ac,out,i,true,0)).bind fun((z,j,aa,n,g,av):ub11×ub18×Bool×ub18×Int×Bool)=>
 bif av then
 bif (decide (0≤g)&&decide (g<(j.length:Int)))then
 bif (decide ((n.length:Int)+(([(List.getD j (Int.toNat g) 0)]:List Int).length:Int)≤LIM))then
 p (z,j,aa,(n++[(List.getD j (Int.toNat g) 0)]),g)
 else none
 else none
 else
 p (z,j,aa,n,g)
 else
 some (Sum.inr out)) (votes,l,least,[],0)).bind fun(ax:List Int)=>
 some ax
def d149(p:List Int)(x:Int):Option Int:=
 (zaa (β:=ub18⊕Int) (fun((a,b,i):ub18×Int×Int)=>
   bif (decide (i<(a.length:Int)))then
    bif (decide (0≤i)&&decide (i<(a.length:Int)))then
     bif (decide ((List.getD a (Int.toNat i) 0)=b))then
      some (Sum.inr (Sum.inr i))
     else
      some (Sum.inl (a,b,(w (i+1))))
    else none
   else
    some (Sum.inr (Sum.inl a))) (p,x,0)).bind fun
 |Sum.inl c=>
  some (c.length:Int)
 |Sum.inr e=>
  some e
def d88(p0:Int)(p1:List ub11)(p2:List Int)(p3:List Int)(p4:Bool):Option (Int×Bool):=
 (d147 p0 p2 p3).bind fun r=>
 bif !r then
 some ((-1),false)
 else
 (zaa (β:=(ub18×Bool×ub18)) (fun((h,i,v,x,y,j):Int×ub9×ub18×Bool×ub18×Int)=>
 letJ (fun((k,l,m,n,o,e,ah):Int×ub9×ub18×Bool×ub18×Int×Bool)=>
 bif ah then
 letJ (fun((ai,aj,ak,al,am,an):Int×ub9×ub18×Bool×ub18×Int)=>
 some (Sum.inl (ai,aj,ak,al,am,(w (an+1))))) fun z=>
 letJ (fun((aa,f,ab,p,q,ac,s):Int×ub9×ub18×Bool×ub18×Int×Int)=>
 bif (decide (1<(q.length:Int)))then
 bif (decide (0≤s)&&decide (s<(f.length:Int)))then
 (d148 (List.getD f (Int.toNat s) []) q p).bind fun ao=>
 z (aa,f,ab,p,ao,ac)
 else none
 else
 z (aa,f,ab,p,q,ac)) fun ae=>
 bif (decide (k=1))then
 ae (k,l,m,n,o,e,(w ((w ((l.length:Int)-1))-e)))
 else
 ae (k,l,m,n,o,e,e)
 else
 some (Sum.inr (m,n,o))) fun af=>
 bif (decide (j<(i.length:Int)))then
 af (h,i,v,x,y,j,!(decide (h=3)))
 else
 af (h,i,v,x,y,j,false)) (p0,p1,p3,p4,p2,0)).bind fun((ap,aq,c):ub18×Bool×ub18)=>
 bif (decide ((c.length:Int)=1))then
 bif (decide (0≤0)&&decide (0<(c.length:Int)))then
 some ((List.getD c 0 0),false)
 else none
 else
 bif (decide (0≤0)&&decide (0<(c.length:Int)))then
 (zaa (β:=Int) (fun((g,t,b,u,a):ub18×Bool×ub18×Int×Int)=>
 bif (decide (a<(b.length:Int)))then
 letJ (fun((ar,au,av,ax,ay):ub18×Bool×ub18×Int×Int)=>
 some (Sum.inl (ar,au,av,ax,(w (ay+1))))) fun ag=>
 bif (decide (0≤a)&&decide (a<(b.length:Int)))then
 (d149 g (List.getD b (Int.toNat a) 0)).bind fun az=>
 (d149 g u).bind fun ba=>
 bif ((decide (ba<az)) == t)then
 bif (decide (0≤a)&&decide (a<(b.length:Int)))then
 ag (g,t,b,(List.getD b (Int.toNat a) 0),a)
 else none
 else
 ag (g,t,b,u,a)
 else none
 else
 some (Sum.inr u)) (ap,aq,c,(List.getD c 0 0),1)).bind fun(bb:Int)=>
 some (bb,true)
 else none
def d150(p:List Int)(state:List Int)(k:Int):Option Int:=
 (zaa (β:=Int) (fun((b,c,a):ub18×ub18×Int)=>
 letJ (fun((g,h,e,i):ub18×ub18×Int×Bool)=>
 bif i then
 some (Sum.inl (g,h,(w (e+1))))
 else
 some (Sum.inr e)) fun f=>
 bif (decide (a<(b.length:Int)))then
 bif (decide (0≤a)&&decide (a<(b.length:Int)))then
 bif (decide (0≤(List.getD b (Int.toNat a) 0))&&decide ((List.getD b (Int.toNat a) 0)<(c.length:Int)))then
 f (b,c,a,!(decide ((List.getD c (Int.toNat (List.getD b (Int.toNat a) 0)) 0)=0)))
 else none
 else none
 else
 f (b,c,a,false)) (p,state,k)).bind fun(j:Int)=>
 some j
end
end Go.Proofs.YtmipjomnjkmdbaaGreat
