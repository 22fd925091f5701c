/- A part of the proof. -/
import Derived.Test.YtamgmpngdmnadaaGreatJ15
set_option linter.defProp false
set_option linter.unusedVariables false
set_option linter.unusedSimpArgs false
set_option linter.unnecessarySimpa false
namespace Go.Proofs.YtamgmpngdmnadaaGreat
open Go Go.Proofs Go.X
open Tryz
set_option maxRecDepth 100000
noncomputable section
abbrev uk17:=(Bool×(List Int×List Int))
abbrev uk11:=(List uk17×(List uk17×(uk17×(uk17×(uk17×(List Int×(List Int×List Int)))))))
abbrev uk7:=(Int×(Int×(Int×(Int×(List uk11×List Int)))))
abbrev uk9:=(Int×uk11)
abbrev uk10:=(List uk11)
abbrev uk16:=(List uk17)
abbrev uk15:=(List uk16)
abbrev uk20:=(List Int×Int)
abbrev uk18:=(List uk20)
abbrev uk21:=(List Int)
abbrev uk14:=(List Int×(List uk21×(Int×(Int×(Int×(Int×(Int×(Int×Int))))))))
abbrev uk6:=((uk14×(List uk20×(List Int×(List Bool×(List Bool×(Int×List uk16))))))×(Int×(List Bool×(List Bool×(List uk17×(List uk21×List uk17))))))
abbrev uk0:=(uk6×uk11×Bool)
abbrev uk1:=(uk6×uk11)
abbrev uk8:=((uk14×(List uk20×(List Int×(List Bool×(List Bool×(Int×List uk16))))))×(Int×(List Int×(Int×(Bool×Int)))))
abbrev uk2:=(uk8×uk11×Bool×uk21×Int×Int)
abbrev uk3:=(uk8×uk11)
abbrev uk12:=((uk14×(List uk20×(List Int×(List Bool×(List Bool×(Int×List uk16))))))×Unit)
abbrev uk4:=(uk12×uk11)
abbrev uk13(Z:Type):=((uk14×(List uk20×(List Int×(List Bool×(List Bool×(Int×List uk16))))))×Z)
abbrev uk5(Z:Type):=((uk13 Z)×uk11)
abbrev uk19:=(List uk21)
abbrev uk22:=uk8×uk11×Bool×uk21×Int×Int×uk21×Int×Int
def d336(p0:uk8):Option (uk21×Int):=bif (decide ((p0.2.2.1.length:Int)=(p0.2.2.1.length:Int))&&(decide (0<=(p0.2.2.1.length:Int))&&decide ((p0.2.2.1.length:Int)<=LIM)))then (zac (β:=(uk21×Int)) (λ((j,k,l,f,m,e):uk8×uk21×Int×uk18×Int×Int)=>bif (decide (e<m))then bif (decide (0<=e)&&decide (e<(f.length:Int)))then (zac (β:=(uk8×uk21×Int×uk20×Int×uk18×Int×Int)) (λ((c,g,n,i,h,o,p,q,b,r,a):uk8×uk21×Int×uk20×Int×uk18×Int×Int×uk21×Int×Int)=>bif (decide (a<r))then bif (decide (0<=a)&&decide (a<(b.length:Int)))then bif (decide (0<=(b.getD a.toNat 0))&&decide ((b.getD a.toNat 0)<(c.2.2.1.length:Int)))then bif (!decide (c.2.1=0))then bif (decide (0<=(b.getD a.toNat 0))&&decide ((b.getD a.toNat 0)<(g.length:Int)))then bif (decide (0<=(b.getD a.toNat 0))&&decide ((b.getD a.toNat 0)<(g.length:Int)))then some (Sum.inl (c,(List.set g (Int.toNat (b.getD a.toNat 0)) (w ((g.getD (Int.toNat (b.getD a.toNat 0)) 0)+(w (i.2*(w (h-(w (Int.tdiv (w (h*(w (c.2.1-(c.2.2.1.getD (Int.toNat (b.getD a.toNat 0)) 0))))) c.2.1))))))))),n,i,(w (Int.tdiv (w (h*(w (c.2.1-(c.2.2.1.getD (Int.toNat (b.getD a.toNat 0)) 0))))) c.2.1)),o,p,q,b,r,(w (a+1))))else none else none else none else none else none else some (Sum.inr (c,g,n,i,h,o,p,q))) (j,k,l,(f.getD e.toNat ([],0)),j.2.1,f,m,e,(f.getD e.toNat ([],0)).1,(((f.getD e.toNat ([],0)).1).length:Int),0)).bind λ((s,t,u,v,x,y,z,aa):uk8×uk21×Int×uk20×Int×uk18×Int×Int)=>some (Sum.inl (s,t,(w (u+(w (v.2*x)))),y,z,(w (aa+1))))else none else some (Sum.inr (k,l))) (p0,(List.replicate (Int.toNat (p0.2.2.1.length:Int)) 0),0,p0.1.2.1,(p0.1.2.1.length:Int),0)).bind λ((ab,ac):uk21×Int)=>some (ab,ac)else none
def E336:=uqy 336 ⟨[(y178,.bw)],[(y26,zmk),(y2,.sh)]⟩ d336 func336 call336 [] (uqs (uqs (.seq (uqs (.block (.loop [(0,.v y178 .bw),(2,uqd),(3,uqa),(20,.v y64 .bw),(21,uqa),(22,uqa)] [(.brk 0,[(2,uqd),(3,uqa)])] (uqs (.seq zfh (.seq (.block (uqs (uqs (.seq (uqs (.block (.loop [(0,.v y178 .bw),(2,uqd),(3,uqa),(5,.v (.ptr y77) umap),(6,uqa),(20,.v y64 .bw),(21,uqa),(22,uqa),(31,uqb),(32,uqa),(33,uqa)] [(.brk 2,[(0,.v y178 .bw),(2,uqd),(3,uqa),(5,.v (.ptr y77) umap),(6,uqa),(20,.v y64 .bw),(21,uqa),(22,uqa)])] upae))) uqr)))) uqr)))))) zds)))
def d337(k:uk8)(units:Int):Option uk17:=(d154 units k.2.1).bind λr=>some r
def E337:=uqy 337 ⟨[(y178,.bw),(y2,.sh)],[(y101,.sh)]⟩ d337 func337 call337 [.fn E154] zfy
def elG{Z:Type}(s:(uk13 Z))(r:uk11)(c:Int):Option (uk5 Z):=bif (decide (0<=c)&&decide (c<(s.1.2.2.2.1.length:Int)))then bif (decide (0<=c)&&decide (c<(s.1.2.2.2.2.1.length:Int)))then bif (decide ((r.2.2.2.2.2.1.length:Int)+(([c]:List Int).length:Int)<=LIM))then (d98 (r.2.2.2.2.2.1++[c])).bind λr_1=>some (((s.1.1,s.1.2.1,s.1.2.2.1,(List.set s.1.2.2.2.1 (Int.toNat c) false),(List.set s.1.2.2.2.2.1 (Int.toNat c) true),(w (s.1.2.2.2.2.2.1+1)),s.1.2.2.2.2.2.2),s.2),(r.1,r.2.1,r.2.2.1,r.2.2.2.1,r.2.2.2.2.1,r_1,r.2.2.2.2.2.2))else none else none else none
def ztv(s:uk12)(r:uk11)(c:Int):Option uk4:=
 elG s r c
def sg325177:Sig:=⟨[(y175,(.io umao)),(y194,(.io umaf)),(y2,.sh)],[]⟩
def zwa:Plan:=(.seq (.reg [] [{fl:=11},{},{},{},{},{fl:=11}]) (.seq (.reg [] [{fl:=11}]) (uqs uqr)))
def ev325177(xs:zek (zft sg325177.ps)):evF (P:=prog) tab [.fn E98] sg325177 Tryz.f325.results.toList (code Tryz.f325) zwa xs=ztv xs.1 xs.2.1 xs.2.2.1:=by kernel_rfl
def sim325177:Sim prog 325 sg325177 ztv:=zeg zuo zic func325 (zca rfl) call325 (uqn (by kernel_rfl)) (by kernel_rfl) zwa _ λxs y h=>(ev325177 xs).trans h
def E325177:FnE prog:=⟨325,sg325177,ztv,sim325177⟩
def ztu(s:uk8)(r:uk11)(c:Int):Option uk3:=
 elG s r c
def sg325180:Sig:=⟨[(y178,(.io umag)),(y194,(.io umaf)),(y2,.sh)],[]⟩
def zvz:Plan:=(.seq (.reg [] [{fl:=11},{},{},{},{},{fl:=11}]) (.seq (.reg [] [{fl:=11}]) (uqs uqr)))
def ev325180(xs:zek (zft sg325180.ps)):evF (P:=prog) tab [.fn E98] sg325180 Tryz.f325.results.toList (code Tryz.f325) zvz xs=ztu xs.1 xs.2.1 xs.2.2.1:=by kernel_rfl
def sim325180:Sim prog 325 sg325180 ztu:=zeg zuo zic func325 (zca rfl) call325 (uqn (by kernel_rfl)) (by kernel_rfl) zvz _ λxs y h=>(ev325180 xs).trans h
def E325180:FnE prog:=⟨325,sg325180,ztu,sim325180⟩
def ztt(s:uk6)(r:uk11)(c:Int):Option uk1:=
 elG s r c
def sg325183:Sig:=⟨[(y181,(.io umad)),(y194,(.io umaf)),(y2,.sh)],[]⟩
def zvy:Plan:=(.seq (.reg [] [{fl:=11},{},{},{},{},{fl:=11}]) (.seq (.reg [] [{fl:=11}]) (uqs uqr)))
def ev325183(xs:zek (zft sg325183.ps)):evF (P:=prog) tab [.fn E98] sg325183 Tryz.f325.results.toList (code Tryz.f325) zvy xs=ztt xs.1 xs.2.1 xs.2.2.1:=by kernel_rfl
def sim325183:Sim prog 325 sg325183 ztt:=zeg zuo zic func325 (zca rfl) call325 (uqn (by kernel_rfl)) (by kernel_rfl) zvy _ λxs y h=>(ev325183 xs).trans h
def E325183:FnE prog:=⟨325,sg325183,ztt,sim325183⟩
def d338(p0:uk8)(p1:uk11)(p2:List Int)(p3:Int):Option uk3:=(zac (β:=uk3⊕uk3) (λ((g,l,z,aa):uk8×uk11×uk21×Int)=>bif (decide (g.1.2.2.2.2.2.1<g.1.1.2.2.2.1))then (zac (β:=(uk8×uk11×uk21×Int×Int)) (λ((f,i,c,h,e,b,j,a):uk8×uk11×uk21×Int×Int×uk21×Int×Int)=>bif (decide (a<j))then zbl (λ((ab,ac,ae,af,ag,ah,ai,aj):uk8×uk11×uk21×Int×Int×uk21×Int×Int)=>some (Sum.inl (ab,ac,ae,af,ag,ah,ai,(w (aj+1))))) λm=>bif (decide (0<=a)&&decide (a<(b.length:Int)))then zbl (λ((n,o,p,q,ak,al,s,t,u,am):uk8×uk11×uk21×Int×Int×Int×uk21×Int×Int×Bool)=>bif am then m (n,o,p,q,al,s,t,u)else m (n,o,p,q,ak,s,t,u)) λk=>bif (decide (0<=(b.getD a.toNat 0))&&decide ((b.getD a.toNat 0)<(f.1.2.2.2.1.length:Int)))then bif (f.1.2.2.2.1.getD (Int.toNat (b.getD a.toNat 0)) false)then bif (decide (0<=(b.getD a.toNat 0))&&decide ((b.getD a.toNat 0)<(c.length:Int)))then bif (decide (h<=(c.getD (Int.toNat (b.getD a.toNat 0)) 0)))then bif !(decide (e<0))then bif (decide (0<=(b.getD a.toNat 0))&&decide ((b.getD a.toNat 0)<(c.length:Int)))then bif (decide (0<=e)&&decide (e<(c.length:Int)))then k (f,i,c,h,e,(b.getD a.toNat 0),b,j,a,(decide ((c.getD e.toNat 0)<(c.getD (Int.toNat (b.getD a.toNat 0)) 0))))else none else none else k (f,i,c,h,e,(b.getD a.toNat 0),b,j,a,true)else k (f,i,c,h,e,(b.getD a.toNat 0),b,j,a,false)else none else k (f,i,c,h,e,(b.getD a.toNat 0),b,j,a,false)else none else none else some (Sum.inr (f,i,c,h,e))) (g,l,z,aa,(-1),g.1.2.2.1,(g.1.2.2.1.length:Int),0)).bind λ((v,x,an,ao,y):uk8×uk11×uk21×Int×Int)=>bif (decide (y<0))then some (Sum.inr (Sum.inr (v,x)))else (ztu v x y).bind λr=>some (Sum.inl (r.1,r.2,an,ao))else some (Sum.inr (Sum.inl (g,l)))) (p0,p1,p2,p3)).bind λ
 |Sum.inl (ap,aq)=>some (ap,aq)
 |Sum.inr (ar,au)=>some (ar,au)
def E338:=uqy 338 ⟨[(y178,(.io umag)),(y194,(.io umaf)),(y26,.bw),(y2,.sh)],[]⟩ d338 func338 call338 [.fn E325180] (.block (.loop [ujab,ujbb,(2,uqb),(3,uqa)] [(.brk 0,[ujab,ujbb]),(.ret,[ujab,ujbb])] (.seq zxh (.block (uqs (.seq (uqs (.block (.loop ulaf [(.brk 2,[ujab,ujbb,(2,uqb),(3,uqa),(8,uqa)])] (uqs (.seq zfh (.join (.block (uqs (.join uqr [ujab,ujbb,(2,uqb),(3,uqa),(8,uqa),zmz,(27,uqf),(28,uqa),(29,uqa),(63,uqc)] upbg))) ulaf uqr)))))) (.seq zxh upan)))))))
def d324(e:List Bool):Option uk21:=(zac (β:=uk21) (λ((out,b,c,a):uk21×(List Bool)×Int×Int)=>bif (decide (a<c))then zbl (λ((g,h,i,j):uk21×(List Bool)×Int×Int)=>some (Sum.inl (g,h,i,(w (j+1))))) λf=>bif (decide (0<=a)&&decide (a<(b.length:Int)))then bif (b.getD a.toNat false)then bif (decide ((out.length:Int)+(([a]:List Int).length:Int)<=LIM))then f ((out++[a]),b,c,a)else none else f (out,b,c,a)else none else some (Sum.inr out)) ([],e,(e.length:Int),0)).bind λ(k:List Int)=>some k
def E324:=uqy 324 ⟨[(y49,.bw)],[(y26,zmk)]⟩ d324 func324 call324 [] (uqs (.seq zxi (.seq (uqs (.block (.loop ulay [(.brk 0,[(3,uqd)])] (uqs (.seq zfh (.join upau ulay uqr)))))) zds)))
def d138(digits:Int):Option Int:=bif (decide (0<=digits)&&decide (digits<7))then some (List.getD [1,10,100,1000,10000,100000,1000000] digits.toNat 0)else none
def E138:=uqy 138 ⟨[(y2,.sh)],[(y2,.sh)]⟩ d138 func138 call138 [] zfy
def lfG{Z:Type}(s:(uk13 Z)):Option Int:=(d324 s.1.2.2.2.2.1).bind λr=>(d324 s.1.2.2.2.1).bind λr_1=>some (w ((r.length:Int)+(r_1.length:Int)))
def ztx(s:uk8):Option Int:=
 lfG s
def sg321180:Sig:=⟨[(y178,.bw)],[(y2,.sh)]⟩
def zwc:Plan:=(uqs (.seq (.reg [] [{fl:=11},{},{},{},{},{},{fl:=11}]) .nil))
def ev321180(xs:zek (zft sg321180.ps)):evF (P:=prog) tab [.fn E324] sg321180 Tryz.f321.results.toList (code Tryz.f321) zwc xs=ztx xs.1:=by kernel_rfl
def sim321180:Sim prog 321 sg321180 ztx:=zeg zuo zic func321 (zca rfl) call321 (uqn (by kernel_rfl)) (by kernel_rfl) zwc _ λxs y h=>(ev321180 xs).trans h
def E321180:FnE prog:=⟨321,sg321180,ztx,sim321180⟩
def ztw(s:uk6):Option Int:=
 lfG s
def sg321183:Sig:=⟨[(y181,.bw)],[(y2,.sh)]⟩
def zwb:Plan:=(uqs (.seq (.reg [] [{fl:=11},{},{},{},{},{},{fl:=11}]) .nil))
def ev321183(xs:zek (zft sg321183.ps)):evF (P:=prog) tab [.fn E324] sg321183 Tryz.f321.results.toList (code Tryz.f321) zwb xs=ztw xs.1:=by kernel_rfl
def sim321183:Sim prog 321 sg321183 ztw:=zeg zuo zic func321 (zca rfl) call321 (uqn (by kernel_rfl)) (by kernel_rfl) zwb _ λxs y h=>(ev321183 xs).trans h
def E321183:FnE prog:=⟨321,sg321183,ztw,sim321183⟩
def eaG{Z:Type}(s:(uk13 Z))(r:uk11):Option (uk5 Z):=(d324 s.1.2.2.2.1).bind λr_1=>(zac (β:=(uk5 Z)) (λ((s_1,r_2,t10,t11,t12):(uk13 Z)×uk11×uk21×Int×Int)=>bif (decide (t12<t11))then bif (decide (0<=t12)&&decide (t12<(t10.length:Int)))then (elG s_1 r_2 (List.getD t10 (Int.toNat t12) 0)).bind λr_3=>some (Sum.inl (r_3.1,r_3.2,t10,t11,(w (t12+1))))else none else some (Sum.inr (s_1,r_2))) (s,r,r_1,(r_1.length:Int),0)).bind λ((s_2,r_4):(uk13 Z)×uk11)=>some (s_2,r_4)
def ztn(s:uk8)(r:uk11):Option uk3:=
 eaG s r
def sg339180:Sig:=⟨[(y178,(.io umag)),(y194,(.io umaf))],[]⟩
def zvo:Plan:=(.seq (.reg [] [{fl:=11}]) (.block (.loop [(0,.v y178 (.own 0 (.pr (.pr .sh (.pr .sh (.pr .sh (.pr (.own 4 .sh) (.pr (.own 4 .sh) (.pr .sh (.own 97 .sh))))))) (.pr .sh (.pr (.own 3 .sh) (.pr .sh (.pr .sh .sh))))))),(1,.v y194 (.own 0 (.pr .sh (.pr .sh (.pr .sh (.pr .sh (.pr .sh (.pr (.own 3 .sh) .sh)))))))),(10,uqd),(11,uqa),(12,uqa)] [(.brk 0,[(0,.v y178 (.own 0 (.pr (.pr .sh (.pr .sh (.pr .sh (.pr (.own 4 .sh) (.pr (.own 4 .sh) (.pr .sh (.own 97 .sh))))))) (.pr .sh (.pr (.own 3 .sh) (.pr .sh (.pr .sh .sh))))))),(1,.v y194 (.own 0 (.pr .sh (.pr .sh (.pr .sh (.pr .sh (.pr .sh (.pr (.own 3 .sh) .sh))))))))])] (uqs (.seq (.cond .nil .nil) (.seq (.block (uqs uqr)) uqr))))))
def ev339180(xs:zek (zft sg339180.ps)):evF (P:=prog) tab [.fn E324,.fn E325180] sg339180 Tryz.f339.results.toList (code Tryz.f339) zvo xs=ztn xs.1 xs.2.1:=by kernel_rfl
def sim339180:Sim prog 339 sg339180 ztn:=zeg zuo zic func339 (zca rfl) call339 (uqn (by kernel_rfl)) (by kernel_rfl) zvo _ λxs y h=>(ev339180 xs).trans h
def E339180:FnE prog:=⟨339,sg339180,ztn,sim339180⟩
def ztm(s:uk6)(r:uk11):Option uk1:=
 eaG s r
def sg339183:Sig:=⟨[(y181,(.io umad)),(y194,(.io umaf))],[]⟩
def zvn:Plan:=(.seq (.reg [] [{fl:=11}]) (.block (.loop [(0,.v y181 (.own 0 (.pr (.pr .sh (.pr .sh (.pr .sh (.pr (.own 4 .sh) (.pr (.own 4 .sh) (.pr .sh (.own 97 .sh))))))) (.pr .sh (.pr (.own 4 .sh) (.pr (.own 4 .sh) (.pr (.own 101 .sh) (.pr (.own 26 .sh) (.own 101 .sh))))))))),(1,.v y194 (.own 0 (.pr .sh (.pr .sh (.pr .sh (.pr .sh (.pr .sh (.pr (.own 3 .sh) .sh)))))))),(10,uqd),(11,uqa),(12,uqa)] [(.brk 0,[(0,.v y181 (.own 0 (.pr (.pr .sh (.pr .sh (.pr .sh (.pr (.own 4 .sh) (.pr (.own 4 .sh) (.pr .sh (.own 97 .sh))))))) (.pr .sh (.pr (.own 4 .sh) (.pr (.own 4 .sh) (.pr (.own 101 .sh) (.pr (.own 26 .sh) (.own 101 .sh))))))))),(1,.v y194 (.own 0 (.pr .sh (.pr .sh (.pr .sh (.pr .sh (.pr .sh (.pr (.own 3 .sh) .sh))))))))])] (uqs (.seq (.cond .nil .nil) (.seq (.block (uqs uqr)) uqr))))))
def ev339183(xs:zek (zft sg339183.ps)):evF (P:=prog) tab [.fn E324,.fn E325183] sg339183 Tryz.f339.results.toList (code Tryz.f339) zvn xs=ztm xs.1 xs.2.1:=by kernel_rfl
def sim339183:Sim prog 339 sg339183 ztm:=zeg zuo zic func339 (zca rfl) call339 (uqn (by kernel_rfl)) (by kernel_rfl) zvn _ λxs y h=>(ev339183 xs).trans h
def E339183:FnE prog:=⟨339,sg339183,ztm,sim339183⟩
def d342(d:Int)(p1:List Int)(p2:Int)(p3:Int):Option Bool:=bif (decide (0<=p2)&&decide (p2<(p1.length:Int)))then bif (decide (0<=d)&&decide (d<(p1.length:Int)))then some (decide ((w ((p1.getD d.toNat 0)+p3))<(p1.getD p2.toNat 0)))else none else none
def E342:=uqy 342 ⟨[(y2,.bw),((.ptr y26),.bw),(y281,.bw),(y281,.bw)],[(y4,.sh)]⟩ d342 func342 call342 [] zfy
def d333(s:List Int)(f:(Int->Option Bool)):Option Bool:=(d84 s f).bind λr=>some (decide (0<=r))
def E333:=uqy 333 ⟨[(y26,.bw),(y127,.bw)],[(y4,.sh)]⟩ d333 func333 call333 [.fn E84] zfy
def d341(c:Int)(p1:List Int)(p2:List Int)(p3:Int):Option Bool:=(d333 p1 (λa=>d342 a p2 c p3)).bind λr=>some r
def E341:=uqy 341 ⟨[(y2,.bw),((.ptr y26),.bw),((.ptr y26),.bw),(y281,.bw)],[(y4,.sh)]⟩ d341 func341 call341 [.fn E333,.fn E342] zfy
def sooG{Z:Type}(p0:(uk13 Z))(p1:Int)(p2:Int)(p3:Bool):Option Bool:=(zac (β:=((uk13 Z)×Int×Int×Bool)⊕Bool) (λ((t0,t1,t2,t3,t16,t17):(uk13 Z)×Int×Int×Bool×Int×Int)=>bif (decide (t17<t16))then bif (decide (0<=t17)&&decide (t17<(t0.1.2.2.2.2.2.2.length:Int)))then zbl (λ((t0_1,t1_1,t2_1,t3_1,t10,t16_1,t17_1):(uk13 Z)×Int×Int×Bool×uk16×Int×Int)=>bif (decide (0<=t1_1)&&decide (t1_1<(t10.length:Int)))then bif (decide (0<=t2_1)&&decide (t2_1<(t10.length:Int)))then (d174 (List.getD t10 (Int.toNat t1_1) (false,[],[])) (List.getD t10 (Int.toNat t2_1) (false,[],[]))).bind λr=>zbl (λ((t0_2,t1_2,t2_2,t3_2,t11,t16_2,t17_2,t65):(uk13 Z)×Int×Int×Bool×Int×Int×Int×Bool)=>bif t65 then some (Sum.inr (Sum.inr ((decide (t11<0)) == t3_2)))else some (Sum.inl (t0_2,t1_2,t2_2,t3_2,t16_2,(w (t17_2+1))))) λj__1=>bif !(decide (r=0))then j__1 (t0_1,t1_1,t2_1,t3_1,r,t16_1,t17_1,!(decide (t0_1.1.1.2.2.2.2.2.2.1=3)))else j__1 (t0_1,t1_1,t2_1,t3_1,r,t16_1,t17_1,false)else none else none) λj_=>bif (decide (t0.1.1.2.2.2.2.2.2.1=1))then bif (decide (0<=(w ((w ((t0.1.2.2.2.2.2.2.length:Int)-1))-t17)))&&decide ((w ((w ((t0.1.2.2.2.2.2.2.length:Int)-1))-t17))<(t0.1.2.2.2.2.2.2.length:Int)))then j_ (t0,t1,t2,t3,(List.getD t0.1.2.2.2.2.2.2 (Int.toNat (w ((w ((t0.1.2.2.2.2.2.2.length:Int)-1))-t17))) []),t16,t17)else none else j_ (t0,t1,t2,t3,(List.getD t0.1.2.2.2.2.2.2 (Int.toNat t17) []),t16,t17)else none else some (Sum.inr (Sum.inl (t0,t1,t2,t3)))) (p0,p1,p2,p3,(p0.1.2.2.2.2.2.2.length:Int),0)).bind λ
 |Sum.inl (t0_3,t1_3,t2_3,t3_3)=>(d180 t0_3.1.2.2.1 t1_3).bind λr_1=>(d180 t0_3.1.2.2.1 t2_3).bind λr_2=>some ((decide (r_2<r_1)) == t3_3)
 |Sum.inr t8=>some t8
def d331177(p0:uk12)(p1:Int)(p2:Int)(p3:Bool):Option Bool:=sooG p0 p1 p2 p3
def sg331177:Sig:=⟨[(y175,.bw),(y2,.sh),(y2,.sh),(y4,.sh)],[(y4,.sh)]⟩
def zvr:Plan:=(uqs (.seq (.seq (.reg [] [{fl:=11}]) (.block (.loop [(0,.v y175 .bw),(1,uqa),(2,uqa),(3,uqc),(16,uqa),(17,uqa)] [(.brk 0,[(0,.v y175 .bw),(1,uqa),(2,uqa),(3,uqc)]),(.ret,[(8,uqc)])] (uqs (.seq (.cond .nil .nil) (.seq (.block (uqs (.seq (.reg [] [{fl:=11}]) (.join (.seq (.reg [] [{fl:=11}]) (.cond (.reg [] [{fl:=11},{},{},{},{fl:=11}]) .nil)) [(0,.v y175 .bw),(1,uqa),(2,uqa),(3,uqc),(10,.v y97 .bw),(16,uqa),(17,uqa)] (uqs (.join (.reg [] [{},{},{},{fl:=11}]) [(0,.v y175 .bw),(1,uqa),(2,uqa),(3,uqc),(11,uqa),(16,uqa),(17,uqa),(65,uqc)] (.cond (uqs .nil) .nil))))))) uqr)))))) (.seq (.reg [] [{fl:=11},{},{},{},{},{},{fl:=11}]) .nil)))
def ev331177(xs:zek (zft sg331177.ps)):evF (P:=prog) tab [.fn E174,.fn E180] sg331177 Tryz.f331.results.toList (code Tryz.f331) zvr xs=d331177 xs.1 xs.2.1 xs.2.2.1 xs.2.2.2.1:=by kernel_rfl
def sim331177:Sim prog 331 sg331177 d331177:=zeg zuo zic func331 (zca rfl) call331 (uqn (by kernel_rfl)) (by kernel_rfl) zvr _ λxs y h=>(ev331177 xs).trans h
def E331177:FnE prog:=⟨331,sg331177,d331177,sim331177⟩
def d331180(p0:uk8)(p1:Int)(p2:Int)(p3:Bool):Option Bool:=sooG p0 p1 p2 p3
def sg331180:Sig:=⟨[(y178,.bw),(y2,.sh),(y2,.sh),(y4,.sh)],[(y4,.sh)]⟩
def zvq:Plan:=(uqs (.seq (.seq (.reg [] [{fl:=11}]) (.block (.loop [(0,.v y178 .bw),(1,uqa),(2,uqa),(3,uqc),(16,uqa),(17,uqa)] [(.brk 0,[(0,.v y178 .bw),(1,uqa),(2,uqa),(3,uqc)]),(.ret,[(8,uqc)])] (uqs (.seq (.cond .nil .nil) (.seq (.block (uqs (.seq (.reg [] [{fl:=11}]) (.join (.seq (.reg [] [{fl:=11}]) (.cond (.reg [] [{fl:=11},{},{},{},{fl:=11}]) .nil)) [(0,.v y178 .bw),(1,uqa),(2,uqa),(3,uqc),(10,.v y97 .bw),(16,uqa),(17,uqa)] (uqs (.join (.reg [] [{},{},{},{fl:=11}]) [(0,.v y178 .bw),(1,uqa),(2,uqa),(3,uqc),(11,uqa),(16,uqa),(17,uqa),(65,uqc)] (.cond (uqs .nil) .nil))))))) uqr)))))) (.seq (.reg [] [{fl:=11},{},{},{},{},{},{fl:=11}]) .nil)))
def ev331180(xs:zek (zft sg331180.ps)):evF (P:=prog) tab [.fn E174,.fn E180] sg331180 Tryz.f331.results.toList (code Tryz.f331) zvq xs=d331180 xs.1 xs.2.1 xs.2.2.1 xs.2.2.2.1:=by kernel_rfl
def sim331180:Sim prog 331 sg331180 d331180:=zeg zuo zic func331 (zca rfl) call331 (uqn (by kernel_rfl)) (by kernel_rfl) zvq _ λxs y h=>(ev331180 xs).trans h
def E331180:FnE prog:=⟨331,sg331180,d331180,sim331180⟩
def d331183(p0:uk6)(p1:Int)(p2:Int)(p3:Bool):Option Bool:=sooG p0 p1 p2 p3
def sg331183:Sig:=⟨[(y181,.bw),(y2,.sh),(y2,.sh),(y4,.sh)],[(y4,.sh)]⟩
def zvp:Plan:=(uqs (.seq (.seq (.reg [] [{fl:=11}]) (.block (.loop [(0,.v y181 .bw),(1,uqa),(2,uqa),(3,uqc),(16,uqa),(17,uqa)] [(.brk 0,[(0,.v y181 .bw),(1,uqa),(2,uqa),(3,uqc)]),(.ret,[(8,uqc)])] (uqs (.seq (.cond .nil .nil) (.seq (.block (uqs (.seq (.reg [] [{fl:=11}]) (.join (.seq (.reg [] [{fl:=11}]) (.cond (.reg [] [{fl:=11},{},{},{},{fl:=11}]) .nil)) [(0,.v y181 .bw),(1,uqa),(2,uqa),(3,uqc),(10,.v y97 .bw),(16,uqa),(17,uqa)] (uqs (.join (.reg [] [{},{},{},{fl:=11}]) [(0,.v y181 .bw),(1,uqa),(2,uqa),(3,uqc),(11,uqa),(16,uqa),(17,uqa),(65,uqc)] (.cond (uqs .nil) .nil))))))) uqr)))))) (.seq (.reg [] [{fl:=11},{},{},{},{},{},{fl:=11}]) .nil)))
def ev331183(xs:zek (zft sg331183.ps)):evF (P:=prog) tab [.fn E174,.fn E180] sg331183 Tryz.f331.results.toList (code Tryz.f331) zvp xs=d331183 xs.1 xs.2.1 xs.2.2.1 xs.2.2.2.1:=by kernel_rfl
def sim331183:Sim prog 331 sg331183 d331183:=zeg zuo zic func331 (zca rfl) call331 (uqn (by kernel_rfl)) (by kernel_rfl) zvp _ λxs y h=>(ev331183 xs).trans h
def E331183:FnE prog:=⟨331,sg331183,d331183,sim331183⟩
def chooG{Z:Type}(s:(uk13 Z))(r:uk11)(tied:List Int)(least:Bool):Option uk9:=bif (decide (0<=0)&&decide (0<(tied.length:Int)))then bif (zcr 1 (tied.length:Int) tied.length)then (zac (β:=(uk11×uk21×Int)) (λ((s_1,r_1,tied_1,least_1,zeh,t16,t17,t18):(uk13 Z)×uk11×uk21×Bool×Int×uk21×Int×Int)=>bif (decide (t18<t17))then zbl (λ((s_2,r_3,tied_2,least_2,chosen_1,t16_1,t17_1,t18_1):(uk13 Z)×uk11×uk21×Bool×Int×uk21×Int×Int)=>some (Sum.inl (s_2,r_3,tied_2,least_2,chosen_1,t16_1,t17_1,(w (t18_1+1))))) λj_=>bif (decide (0<=t18)&&decide (t18<(t16.length:Int)))then (sooG s_1 (List.getD t16 (Int.toNat t18) 0) zeh least_1).bind λr_2=>bif r_2 then j_ (s_1,r_1,tied_1,least_1,(List.getD t16 (Int.toNat t18) 0),t16,t17,t18)else j_ (s_1,r_1,tied_1,least_1,zeh,t16,t17,t18)else none else some (Sum.inr (r_1,tied_1,zeh))) (s,r,tied,least,(List.getD tied 0 0),(List.drop 1 (List.take (Int.toNat (tied.length:Int)) tied)),((List.drop 1 (List.take (Int.toNat (tied.length:Int)) tied)).length:Int),0)).bind λ((r_4,tied_3,chosen_2):uk11×uk21×Int)=>zbl (λ((r_5,chosen_3):uk11×Int)=>some (chosen_3,r_5)) λj__1=>bif (decide (1<(tied_3.length:Int)))then j__1 ((r_4.1,r_4.2.1,r_4.2.2.1,r_4.2.2.2.1,r_4.2.2.2.2.1,r_4.2.2.2.2.2.1,r_4.2.2.2.2.2.2.1,tied_3),chosen_2)else j__1 (r_4,chosen_2)else none else none
def ztp(s:uk12)(r:uk11)(tied:List Int)(least:Bool):Option uk9:=
 chooG s r tied least
def sg327177:Sig:=⟨[(y175,.bw),(y194,(.io umar)),(y26,.sh),(y4,.sh)],[(y2,.sh)]⟩
def zvu:Plan:=(uqs (uqs (.seq (uqs (.block (.loop [(0,.v y175 .bw),(1,.v y194 (.own 0 (.pr .sh (.pr .sh (.pr .sh (.pr .sh (.pr .sh (.pr .sh .sh)))))))),(2,uqf),(3,uqc),(9,uqa),(16,uqf),(17,uqa),(18,uqa)] [(.brk 0,[(1,.v y194 (.own 0 (.pr .sh (.pr .sh (.pr .sh (.pr .sh (.pr .sh (.pr .sh .sh)))))))),(2,uqf),(9,uqa)])] (uqs (.seq (.cond .nil .nil) (.join (.block (uqs (uqs (.cond uqr .nil)))) [(0,.v y175 .bw),(1,.v y194 (.own 0 (.pr .sh (.pr .sh (.pr .sh (.pr .sh (.pr .sh (.pr .sh .sh)))))))),(2,uqf),(3,uqc),(9,uqa),(16,uqf),(17,uqa),(18,uqa)] uqr)))))) (.join (uqs (.cond uqr .nil)) [(1,.v y194 (.own 0 (.pr .sh (.pr .sh (.pr .sh (.pr .sh (.pr .sh (.pr .sh .sh)))))))),(9,uqa)] (uqs .nil)))))
def ev327177(xs:zek (zft sg327177.ps)):evF (P:=prog) tab [.fn E331177] sg327177 Tryz.f327.results.toList (code Tryz.f327) zvu xs=ztp xs.1 xs.2.1 xs.2.2.1 xs.2.2.2.1:=by kernel_rfl
def sim327177:Sim prog 327 sg327177 ztp:=zeg zuo zic func327 (zca rfl) call327 (uqn (by kernel_rfl)) (by kernel_rfl) zvu _ λxs y h=>(ev327177 xs).trans h
def E327177:FnE prog:=⟨327,sg327177,ztp,sim327177⟩
def zto(s:uk8)(r:uk11)(tied:List Int)(least:Bool):Option uk9:=
 chooG s r tied least
def sg327180:Sig:=⟨[(y178,.bw),(y194,(.io umar)),(y26,.sh),(y4,.sh)],[(y2,.sh)]⟩
def zvt:Plan:=(uqs (uqs (.seq (uqs (.block (.loop [(0,.v y178 .bw),(1,.v y194 (.own 0 (.pr .sh (.pr .sh (.pr .sh (.pr .sh (.pr .sh (.pr .sh .sh)))))))),(2,uqf),(3,uqc),(9,uqa),(16,uqf),(17,uqa),(18,uqa)] [(.brk 0,[(1,.v y194 (.own 0 (.pr .sh (.pr .sh (.pr .sh (.pr .sh (.pr .sh (.pr .sh .sh)))))))),(2,uqf),(9,uqa)])] (uqs (.seq (.cond .nil .nil) (.join (.block (uqs (uqs (.cond uqr .nil)))) [(0,.v y178 .bw),(1,.v y194 (.own 0 (.pr .sh (.pr .sh (.pr .sh (.pr .sh (.pr .sh (.pr .sh .sh)))))))),(2,uqf),(3,uqc),(9,uqa),(16,uqf),(17,uqa),(18,uqa)] uqr)))))) (.join (uqs (.cond uqr .nil)) [(1,.v y194 (.own 0 (.pr .sh (.pr .sh (.pr .sh (.pr .sh (.pr .sh (.pr .sh .sh)))))))),(9,uqa)] (uqs .nil)))))
def ev327180(xs:zek (zft sg327180.ps)):evF (P:=prog) tab [.fn E331180] sg327180 Tryz.f327.results.toList (code Tryz.f327) zvt xs=zto xs.1 xs.2.1 xs.2.2.1 xs.2.2.2.1:=by kernel_rfl
def sim327180:Sim prog 327 sg327180 zto:=zeg zuo zic func327 (zca rfl) call327 (uqn (by kernel_rfl)) (by kernel_rfl) zvt _ λxs y h=>(ev327180 xs).trans h
def E327180:FnE prog:=⟨327,sg327180,zto,sim327180⟩
def zpo(s:uk6)(r:uk11)(tied:List Int)(least:Bool):Option uk9:=
 chooG s r tied least
def sg327183:Sig:=⟨[(y181,.bw),(y194,(.io umar)),(y26,.sh),(y4,.sh)],[(y2,.sh)]⟩
def zvs:Plan:=(uqs (uqs (.seq (uqs (.block (.loop [(0,.v y181 .bw),(1,.v y194 (.own 0 (.pr .sh (.pr .sh (.pr .sh (.pr .sh (.pr .sh (.pr .sh .sh)))))))),(2,uqf),(3,uqc),(9,uqa),(16,uqf),(17,uqa),(18,uqa)] [(.brk 0,[(1,.v y194 (.own 0 (.pr .sh (.pr .sh (.pr .sh (.pr .sh (.pr .sh (.pr .sh .sh)))))))),(2,uqf),(9,uqa)])] (uqs (.seq (.cond .nil .nil) (.join (.block (uqs (uqs (.cond uqr .nil)))) [(0,.v y181 .bw),(1,.v y194 (.own 0 (.pr .sh (.pr .sh (.pr .sh (.pr .sh (.pr .sh (.pr .sh .sh)))))))),(2,uqf),(3,uqc),(9,uqa),(16,uqf),(17,uqa),(18,uqa)] uqr)))))) (.join (uqs (.cond uqr .nil)) [(1,.v y194 (.own 0 (.pr .sh (.pr .sh (.pr .sh (.pr .sh (.pr .sh (.pr .sh .sh)))))))),(9,uqa)] (uqs .nil)))))
def ev327183(xs:zek (zft sg327183.ps)):evF (P:=prog) tab [.fn E331183] sg327183 Tryz.f327.results.toList (code Tryz.f327) zvs xs=zpo xs.1 xs.2.1 xs.2.2.1 xs.2.2.2.1:=by kernel_rfl
def sim327183:Sim prog 327 sg327183 zpo:=zeg zuo zic func327 (zca rfl) call327 (uqn (by kernel_rfl)) (by kernel_rfl) zvs _ λxs y h=>(ev327183 xs).trans h
def E327183:FnE prog:=⟨327,sg327183,zpo,sim327183⟩
def exG{Z:Type}(s:(uk13 Z))(r:uk11)(c:Int):Option (uk5 Z):=bif (decide (0<=c)&&decide (c<(s.1.2.2.2.1.length:Int)))then some (((s.1.1,s.1.2.1,s.1.2.2.1,(List.set s.1.2.2.2.1 (Int.toNat c) false),s.1.2.2.2.2),s.2),(r.1,r.2.1,r.2.2.1,r.2.2.2.1,r.2.2.2.2.1,r.2.2.2.2.2.1,[c],r.2.2.2.2.2.2.2))else none
def zts(s:uk12)(r:uk11)(c:Int):Option uk4:=
 exG s r c
def sg326177:Sig:=⟨[(y175,(.io umao)),(y194,(.io umar)),(y2,.sh)],[]⟩
def zvx:Plan:=(.seq (.reg [] [{fl:=11}]) (.reg [] [{},{},{},{},{},{frz:=[(14,[])]}]))
def ev326177(xs:zek (zft sg326177.ps)):evF (P:=prog) tab [] sg326177 Tryz.f326.results.toList (code Tryz.f326) zvx xs=zts xs.1 xs.2.1 xs.2.2.1:=by kernel_rfl
def sim326177:Sim prog 326 sg326177 zts:=zeg zuo zic func326 (zca rfl) call326 (uqn (by kernel_rfl)) (by kernel_rfl) zvx _ λxs y h=>(ev326177 xs).trans h
def E326177:FnE prog:=⟨326,sg326177,zts,sim326177⟩
def ztr(s:uk8)(r:uk11)(c:Int):Option uk3:=
 exG s r c
def sg326180:Sig:=⟨[(y178,(.io umag)),(y194,(.io umar)),(y2,.sh)],[]⟩
def zvw:Plan:=(.seq (.reg [] [{fl:=11}]) (.reg [] [{},{},{},{},{},{frz:=[(14,[])]}]))
def ev326180(xs:zek (zft sg326180.ps)):evF (P:=prog) tab [] sg326180 Tryz.f326.results.toList (code Tryz.f326) zvw xs=ztr xs.1 xs.2.1 xs.2.2.1:=by kernel_rfl
def sim326180:Sim prog 326 sg326180 ztr:=zeg zuo zic func326 (zca rfl) call326 (uqn (by kernel_rfl)) (by kernel_rfl) zvw _ λxs y h=>(ev326180 xs).trans h
def E326180:FnE prog:=⟨326,sg326180,ztr,sim326180⟩
def ztq(s:uk6)(r:uk11)(c:Int):Option uk1:=
 exG s r c
def sg326183:Sig:=⟨[(y181,(.io umad)),(y194,(.io umar)),(y2,.sh)],[]⟩
def zvv:Plan:=(.seq (.reg [] [{fl:=11}]) (.reg [] [{},{},{},{},{},{frz:=[(14,[])]}]))
def ev326183(xs:zek (zft sg326183.ps)):evF (P:=prog) tab [] sg326183 Tryz.f326.results.toList (code Tryz.f326) zvv xs=ztq xs.1 xs.2.1 xs.2.2.1:=by kernel_rfl
def sim326183:Sim prog 326 sg326183 ztq:=zeg zuo zic func326 (zca rfl) call326 (uqn (by kernel_rfl)) (by kernel_rfl) zvv _ λxs y h=>(ev326183 xs).trans h
def E326183:FnE prog:=⟨326,sg326183,ztq,sim326183⟩
def d340(k:uk8)(r:uk11)(votes:List Int)(surplus:Int):Option uk3:=(d324 k.1.2.2.2.1).bind λe=>(d78 e).bind λf=>(d171 f (λa=>d341 a e votes surplus)).bind λg=>(zto k r g true).bind λc=>(ztr k c.2 c.1).bind λb=>bif (decide (0<=c.1)&&decide (c.1<(b.1.2.2.1.length:Int)))then some ((b.1.1,b.1.2.1,(List.set b.1.2.2.1 c.1.toNat 0),b.1.2.2.2),b.2)else none
def E340:=uqy 340 ⟨[(y178,(.io umag)),(y194,(.io umar)),(y26,.bw),(y2,.sh)],[]⟩ d340 func340 call340 [.fn E324,.fn E78,.fn E171,.fn E341,.fn E327180,.fn E326180] (uqs (uqs (uqs (.seq (.reg [(9,[])] [{},{},{fl:=12}]) (.seq upan uqr)))))
def d335(p0:uk8):Option (uk11×Bool×uk8):=(d336 p0).bind λr=>(zac (β:=uk2) (λ((q,s,ba,u,bb,bc,be,k):uk8×uk11×Bool×uk21×Int×Int×Int×Int)=>bif (decide (k<be))then bif (decide (0<=k)&&decide (k<(u.length:Int)))then (d337 q (u.getD k.toNat 0)).bind λbf=>bif (decide ((s.1.length:Int)+(([bf]:List uk17).length:Int)<=LIM))then bif (decide (0<=k)&&decide (k<(q.2.2.1.length:Int)))then (d337 q (q.2.2.1.getD k.toNat 0)).bind λbg=>bif (decide ((s.2.1.length:Int)+(([bg]:List uk17).length:Int)<=LIM))then some (Sum.inl (q,((s.1++[bf]),(s.2.1++[bg]),s.2.2),ba,u,bb,(w (bc+(u.getD k.toNat 0))),be,(w (k+1))))else none else none else none else none else some (Sum.inr (q,s,ba,u,bb,bc))) (p0,([],[],(false,[],[]),(false,[],[]),(false,[],[]),[],[],[]),false,r.1,r.2,0,(r.1.length:Int),0)).bind λ((n,ai,cf,bh,cg,aj):uk8×uk11×Bool×uk21×Int×Int)=>bif (!decide ((w (n.1.1.2.2.2.1+1))=0))then (d337 n (w ((w (Int.tdiv aj (w (n.1.1.2.2.2.1+1))))+1))).bind λch=>(d337 n cg).bind λci=>(d338 n (ai.1,ai.2.1,ch,ci,ai.2.2.2.2) bh (w ((w (Int.tdiv aj (w (n.1.1.2.2.2.1+1))))+1))).bind λak=>(d324 ak.1.1.2.2.2.2.1).bind λbi=>(zac (β:=uk2) (λ((al,am,an,o,v,ao,l,ap,h):uk22)=>bif (decide (h<ap))then zbl (λ((cj,ck,cl,cm,cn,co,cp,cq,cr):uk22)=>some (Sum.inl (cj,ck,cl,cm,cn,co,cp,cq,(w (cr+1))))) λbj=>bif (decide (0<=h)&&decide (h<(l.length:Int)))then bif (decide (0<=(l.getD h.toNat 0))&&decide ((l.getD h.toNat 0)<(o.length:Int)))then bif (decide (v<(o.getD (Int.toNat (l.getD h.toNat 0)) 0)))then bif (decide (0<=(l.getD h.toNat 0))&&decide ((l.getD h.toNat 0)<(o.length:Int)))then bj (al,am,an,o,v,(w (ao+(w ((o.getD (Int.toNat (l.getD h.toNat 0)) 0)-v)))),l,ap,h)else none else bj (al,am,an,o,v,ao,l,ap,h)else none else none else some (Sum.inr (al,am,an,o,v,ao))) (ak.1,ak.2,cf,bh,(w ((w (Int.tdiv aj (w (n.1.1.2.2.2.1+1))))+1)),0,bi,(bi.length:Int),0)).bind λ((a,e,z,aa,ab,p):uk8×uk11×Bool×uk21×Int×Int)=>(d337 a p).bind λac=>zbl (λ((m,x,bk,bl,bm,ae,cs):uk8×uk11×Bool×uk21×Int×Int×Bool)=>zbl (λ((j,t,bn,bo):uk8×uk11×Bool×Int)=>zbl (λ((g,aq,ct,cu):uk8×uk11×Bool×Int)=>bif (decide ((g.1.2.2.2.2.2.2.length:Int)+(([aq.1]:List uk16).length:Int)<=LIM))then some (aq,ct,((g.1.1,g.1.2.1,g.1.2.2.1,g.1.2.2.2.1,g.1.2.2.2.2.1,g.1.2.2.2.2.2.1,(g.1.2.2.2.2.2.2++[aq.1])),g.2.1,g.2.2.1,g.2.2.2.1,g.2.2.2.2.1,cu))else none) λbp=>zbl (λ((y,bq,br,bs,cv):uk8×uk11×Bool×Int×Bool)=>bif cv then bp ((y.1,y.2.1,y.2.2.1,0,y.2.2.2.2),bq,br,bs)else bp (y,bq,br,bs)) λbt=>bif !(decide (0<(t.2.2.2.2.2.2.1.length:Int)))then bt ((j.1,j.2.1,j.2.2.1,j.2.2.2.1,(decide (0<(t.2.2.2.2.2.2.1.length:Int))),j.2.2.2.2.2),t,bn,bo,(decide (0<(t.2.2.2.2.2.1.length:Int))))else bt ((j.1,j.2.1,j.2.2.1,j.2.2.2.1,(decide (0<(t.2.2.2.2.2.2.1.length:Int))),j.2.2.2.2.2),t,bn,bo,true)) λaf=>bif (decide (m.1.2.2.2.2.2.1=m.1.1.2.2.2.1))then af (m,x,true,ae)else (ztx m).bind λcx=>bif (decide (cx<=m.1.1.2.2.2.1))then (ztn m x).bind λbu=>af (bu.1,bu.2,true,ae)else zbl (λ((ar,bv,bx,bz,cy,au,cz):uk8×uk11×Bool×uk21×Int×Int×Bool)=>bif cz then (d340 ar bv bz au).bind λca=>af (ca.1,ca.2,bx,au)else (d324 ar.1.2.2.2.2.1).bind λcb=>(zac (β:=(uk8×uk11×Bool×Int)) (λ((f,av,ax,i,ag,ay,c,az,b):uk22)=>bif (decide (b<az))then zbl (λ((ea,eb,ec,ee,ef,eg,eh,ei,ej):uk22)=>some (Sum.inl (ea,eb,ec,ee,ef,eg,eh,ei,(w (ej+1))))) λcc=>bif (decide (0<=b)&&decide (b<(c.length:Int)))then bif (decide (0<=(c.getD b.toNat 0))&&decide ((c.getD b.toNat 0)<(i.length:Int)))then bif (decide (0<(i.getD (Int.toNat (c.getD b.toNat 0)) 0)))then bif (decide (0<=(c.getD b.toNat 0))&&decide ((c.getD b.toNat 0)<(f.2.2.1.length:Int)))then bif (!decide (f.2.1=0))then bif (decide (0<=(c.getD b.toNat 0))&&decide ((c.getD b.toNat 0)<(i.length:Int)))then bif (decide (0<=(c.getD b.toNat 0))&&decide ((c.getD b.toNat 0)<(i.length:Int)))then bif (!decide ((i.getD (Int.toNat (c.getD b.toNat 0)) 0)=0))then bif (decide (0<=(c.getD b.toNat 0))&&decide ((c.getD b.toNat 0)<(f.2.2.1.length:Int)))then cc ((f.1,f.2.1,(List.set f.2.2.1 (Int.toNat (c.getD b.toNat 0)) (bif (decide ((w (Int.tdiv (w ((w ((w ((w (Int.tdiv (w ((w ((w ((f.2.2.1.getD (Int.toNat (c.getD b.toNat 0)) 0)*ag))+f.2.1))-1)) f.2.1))*f.2.1))+(i.getD (Int.toNat (c.getD b.toNat 0)) 0)))-1)) (i.getD (Int.toNat (c.getD b.toNat 0)) 0)))<f.2.1))then(w (Int.tdiv (w ((w ((w ((w (Int.tdiv (w ((w ((w ((f.2.2.1.getD (Int.toNat (c.getD b.toNat 0)) 0)*ag))+f.2.1))-1)) f.2.1))*f.2.1))+(i.getD (Int.toNat (c.getD b.toNat 0)) 0)))-1)) (i.getD (Int.toNat (c.getD b.toNat 0)) 0)))else f.2.1)),f.2.2.2),av,ax,i,ag,ay,c,az,b)else none else none else none else none else none else none else cc (f,av,ax,i,ag,ay,c,az,b)else none else none else some (Sum.inr (f,av,ax,ay))) (ar,bv,bx,bz,cy,au,cb,(cb.length:Int),0)).bind λ((ek,el,em,en):uk8×uk11×Bool×Int)=>af (ek,el,em,en)) λce=>bif cs then ce (m,x,bk,bl,bm,ae,(decide ((x.2.2.2.2.2.1.length:Int)=0)))else ce (m,x,bk,bl,bm,ae,false)) λah=>(d138 (w (Int.tdiv a.1.1.2.2.2.2.2.1 2))).bind λeo=>bif !(decide (p<eo))then bif !a.2.2.2.2.1 then bif !(decide (a.2.2.2.2.2<=p))then ah ((a.1,a.2.1,a.2.2.1,(w (a.2.2.2.1+1)),a.2.2.2.2),(e.1,e.2.1,e.2.2.1,e.2.2.2.1,ac,e.2.2.2.2.2),z,aa,ab,p,(decide (60<=(w (a.2.2.2.1+1)))))else ah ((a.1,a.2.1,a.2.2.1,(w (a.2.2.2.1+1)),a.2.2.2.2),(e.1,e.2.1,e.2.2.1,e.2.2.2.1,ac,e.2.2.2.2.2),z,aa,ab,p,true)else ah ((a.1,a.2.1,a.2.2.1,(w (a.2.2.2.1+1)),a.2.2.2.2),(e.1,e.2.1,e.2.2.1,e.2.2.2.1,ac,e.2.2.2.2.2),z,aa,ab,p,(decide (60<=(w (a.2.2.2.1+1)))))else ah ((a.1,a.2.1,a.2.2.1,(w (a.2.2.2.1+1)),a.2.2.2.2),(e.1,e.2.1,e.2.2.1,e.2.2.2.1,ac,e.2.2.2.2.2),z,aa,ab,p,true)else none
def sg335:Sig:=⟨[(y178,(.io umag))],[(y103,.sh),(y4,.sh)]⟩
def sim335:Sim prog 335 sg335 d335:=uqz func335 (zca rfl) call335 (by kernel_rfl) (by kernel_rfl) [.fn E336,.fn E337,.fn E338,.fn E324,.fn E138,.fn E321180,.fn E339180,.fn E340] (.seq upax (.seq upas (uqs (.seq (uqs (.block (.loop [ujab,ujaa,(3,uqc),(4,uqd),(5,uqa),(6,uqa),(22,.view 4 []),(23,uqa),(24,uqa)] [(.brk 0,[ujab,ujaa,(3,uqc),(4,uqd),(5,uqa),(6,uqa)])] upae))) (uqs (uqs (.seq (.reg [(2,[0,0]),(2,[0,1,0])] []) (uqs (.seq (uqs (.block (.loop ulaj [(.brk 2,[ujab,ujag,(3,uqc),(4,uqd),(9,uqa),zmz])] (uqs (.seq zfh (.join upau ulaj uqr)))))) (uqs (uqs (.join uqr [ujab,ujag,(3,uqc),(4,uqd),(9,uqa),zmz,(13,uqc)] (.join (.post (.block (uqs (.cond uqr (.seq upan (.cond (.seq upan uqr) (.join uqr [ujab,ujag,(3,uqc),(4,uqd),(9,uqa),zmz,(240,uqc)] (.cond upbb (uqs (.block (.loop ulag [(.brk 5,[ujab,ujag,(3,uqc),zmz])] (uqs (.seq zfh (.join upaw ulag uqr))))))))))))) [(2,[0,1,1,1,1,1,0])]) [ujab,(2,.v y194 umar),(3,uqc),zmz] (uqs (.join (.join uqr [ujab,(2,.v y194 umar),(3,uqc),zmz,(268,uqc)] upbg) [ujab,(2,.v y194 umar),(3,uqc),zmz] (uqs zfy)))))))))))))))) λxs=>by kernel_rfl
def d344(k:uk6)(candidate:Int):Option uk17:=bif (decide (0<=candidate)&&decide (candidate<(k.2.2.2.1.length:Int)))then bif (k.2.2.2.1.getD candidate.toNat false)then (d93 k.2.1).bind λr=>some r else (d93 0).bind λt=>(zac (β:=(uk17×uk17)) (λ((h,e,f,sum,b,g,a):uk6×Int×uk17×uk17×uk19×Int×Int)=>bif (decide (a<g))then zbl (λ((u,v,x,y,z,aa,ab):uk6×Int×uk17×uk17×uk19×Int×Int)=>some (Sum.inl (u,v,x,y,z,aa,(w (ab+1))))) λj=>bif (decide (0<=a)&&decide (a<(b.length:Int)))then zbl (λ((c,l,m,n,i,o,p,q,ac):uk6×Int×uk17×uk17×Int×uk19×Int×Int×Bool)=>bif ac then bif (decide (0<=i)&&decide (i<(c.1.2.1.length:Int)))then (d93 ((c.1.2.1.getD i.toNat ([],0)).2)).bind λae=>bif (decide (0<=i)&&decide (i<(c.2.2.2.2.2.2.length:Int)))then (d227 ae (c.2.2.2.2.2.2.getD i.toNat (false,[],[]))).bind λaf=>(d175 n af).bind λag=>j (c,l,m,ag,o,p,q)else none else none else j (c,l,m,n,o,p,q)) λs=>bif (decide (0<((b.getD a.toNat []).length:Int)))then bif (decide (0<=0)&&decide (0<((b.getD a.toNat []).length:Int)))then s (h,e,f,sum,a,b,g,a,(decide ((List.getD (b.getD a.toNat []) 0 0)=e)))else none else s (h,e,f,sum,a,b,g,a,false)else none else some (Sum.inr (f,sum))) (k,candidate,(false,[],[]),t,k.2.2.2.2.2.1,(k.2.2.2.2.2.1.length:Int),0)).bind λ((ai,ah):uk17×uk17)=>some ah else none
def E344:=uqy 344 ⟨[(y181,.bw),(y2,.sh)],[(y101,.sh)]⟩ d344 func344 call344 [.fn E93,.fn E227,.fn E175] (uqs (.seq zkl (uqs (.seq (uqs (.block (.loop ulac [(.brk 0,[ujbs,ujad])] (uqs (.seq zfh (.join (.block (uqs (.join uqr [(0,.v y181 .bw),(1,uqa),ujbs,ujad,(6,uqa),(24,.v y48 .bw),(25,uqa),(26,uqa),(40,uqc)] upbg))) ulac uqr)))))) zds))))
def d334(d:Int)(p1:uk11)(p2:Int)(p3:Bool):Option Bool:=bif (decide (0<=d)&&decide (d<(p1.1.length:Int)))then bif (decide (0<=p2)&&decide (p2<(p1.1.length:Int)))then (d174 (p1.1.getD d.toNat (false,[],[])) (p1.1.getD p2.toNat (false,[],[]))).bind λr=>bif p3 then bif !(decide (r<0))then bif !p3 then some (decide (0<r))else some false else some true else bif !p3 then some (decide (0<r))else some false else none else none
def E334:=uqy 334 ⟨[(y2,.bw),(y194,.bw),(y281,.bw),((.ptr y4),.bw)],[(y4,.sh)]⟩ d334 func334 call334 [.fn E174] (uqs zfy)
def d332(c:Int)(p1:List Int)(p2:uk11)(p3:Bool):Option Bool:=(d333 p1 (λa=>d334 a p2 c p3)).bind λr=>some r
def E332:=uqy 332 ⟨[(y2,.bw),((.ptr y26),.bw),(y194,.bw),((.ptr y4),.bw)],[(y4,.sh)]⟩ d332 func332 call332 [.fn E333,.fn E334] zfy
def d328(r:uk11)(candidates:List Int)(least:Bool):Option uk21:=(d78 candidates).bind λb=>(d171 b (λa=>d332 a candidates r least)).bind λc=>some c
def E328:=uqy 328 ⟨[(y103,.bw),(y26,.bw),(y4,.sh)],[(y26,zmk)]⟩ d328 func328 call328 [.fn E78,.fn E171,.fn E332] zfy
def d347(a:uk17)(b:uk17):Option uk17:=(d233 a b).bind λr=>bif !r.2 then (d93 0).bind λc=>some c else some r.1
def E347:=uqy 347 ⟨[(y101,.bw),(y101,.bw)],[(y101,.sh)]⟩ d347 func347 call347 [.fn E233,.fn E93] (uqs (.seq upao upam))
def d348(c:Int)(p1:uk6):Option Bool:=bif (decide (0<=c)&&decide (c<(p1.1.2.2.2.1.length:Int)))then some (p1.1.2.2.2.1.getD c.toNat false)else none
def E348:=uqy 348 ⟨[(y2,.bw),((.ptr y181),.bw)],[(y4,.sh)]⟩ d348 func348 call348 [] zfy
def d346(p0:uk6)(p1:Int)(p2:uk17):Option uk6:=(zac (β:=uk6) (λ((f,i,p,j,e):uk6×Int×uk17×Int×Int)=>bif (decide (e<j))then zbl (λ((s,t,u,v,x):uk6×Int×uk17×Int×Int)=>some (Sum.inl (s,t,u,v,(w (x+1))))) λk=>bif (decide (0<=e)&&decide (e<(f.2.2.2.2.2.1.length:Int)))then zbl (λ((b,l,h,c,g,m,n,y):uk6×Int×uk17×Int×uk21×Int×Int×Bool)=>bif y then k (b,l,h,m,n)else bif (decide (0<=c)&&decide (c<(b.2.2.2.2.2.2.length:Int)))then (d227 (b.2.2.2.2.2.2.getD c.toNat (false,[],[])) h).bind λr=>bif (decide (0<=c)&&decide (c<(b.2.2.2.2.2.2.length:Int)))then (d84 g (λa=>d348 a (b.1,b.2.1,b.2.2.1,b.2.2.2.1,b.2.2.2.2.1,b.2.2.2.2.2.1,(List.set b.2.2.2.2.2.2 c.toNat r)))).bind λo=>bif (decide (o<0))then bif (decide (0<=c)&&decide (c<(b.2.2.2.2.2.1.length:Int)))then k ((b.1,b.2.1,b.2.2.1,b.2.2.2.1,b.2.2.2.2.1,(List.set b.2.2.2.2.2.1 c.toNat []),(List.set b.2.2.2.2.2.2 c.toNat r)),l,h,m,n)else none else bif (zcr o (g.length:Int) g.length)then bif (decide (0<=c)&&decide (c<(b.2.2.2.2.2.1.length:Int)))then k ((b.1,b.2.1,b.2.2.1,b.2.2.2.1,b.2.2.2.2.1,(List.set b.2.2.2.2.2.1 c.toNat (List.drop o.toNat (List.take (Int.toNat (g.length:Int)) g))),(List.set b.2.2.2.2.2.2 c.toNat r)),l,h,m,n)else none else none else none else none) λq=>bif !(decide (((f.2.2.2.2.2.1.getD e.toNat []).length:Int)=0))then bif (decide (0<=0)&&decide (0<((f.2.2.2.2.2.1.getD e.toNat []).length:Int)))then q (f,i,p,e,(f.2.2.2.2.2.1.getD e.toNat []),j,e,!(decide ((List.getD (f.2.2.2.2.2.1.getD e.toNat []) 0 0)=i)))else none else q (f,i,p,e,(f.2.2.2.2.2.1.getD e.toNat []),j,e,true)else none else some (Sum.inr f)) (p0,p1,p2,(p0.2.2.2.2.2.1.length:Int),0)).bind λ(z:uk6)=>some z
def E346:=uqy 346 ⟨[(y181,(.io umad)),(y2,.sh),(y101,.bw)],[]⟩ d346 func346 call346 [.fn E227,.fn E84,.fn E348] (.seq (.reg [] [{fl:=13}]) (uqs (.block (.loop ulab [(.brk 0,[ujak])] (uqs (.seq zfh (.join (.block (uqs (.seq (.join uqr [ujak,(1,uqa),(3,.rbox 0 [0]),(5,.v (.ptr y101) umap),(6,uqa),(7,uqf),(12,.view 0 [0,1,1,1,1,1,0]),ujar,(14,uqa),(28,uqc)] zfh) (uqs (uqs (uqs upbe)))))) ulab uqr)))))))
def d345(k:uk6)(r:uk11):Option uk1:=(d324 k.2.2.1).bind λc=>(d328 r c false).bind λe=>(zpo k r e false).bind λa=>bif (decide (0<=a.1)&&decide (a.1<(k.2.2.1.length:Int)))then bif (decide (0<=a.1)&&decide (a.1<(k.2.2.2.1.length:Int)))then (d93 1).bind λf=>bif (decide (0<=a.1)&&decide (a.1<(a.2.1.length:Int)))then (d347 a.2.2.2.1 (a.2.1.getD a.1.toNat (false,[],[]))).bind λg=>(d169 f g).bind λb=>bif (decide (0<=a.1)&&decide (a.1<(k.2.2.2.2.1.length:Int)))then bif (decide (0<=a.1)&&decide (a.1<((List.set k.2.2.2.2.1 a.1.toNat b).length:Int)))then (d346 (k.1,k.2.1,(List.set k.2.2.1 a.1.toNat false),(List.set k.2.2.2.1 a.1.toNat true),(List.set k.2.2.2.2.1 a.1.toNat b),k.2.2.2.2.2) a.1 (List.getD (List.set k.2.2.2.2.1 a.1.toNat b) a.1.toNat (false,[],[]))).bind λh=>some (h,a.2)else none else none else none else none else none
def E345:=uqy 345 ⟨[(y181,(.io umad)),(y194,(.io umar))],[]⟩ d345 func345 call345 [.fn E324,.fn E328,.fn E327183,.fn E93,.fn E347,.fn E169,.fn E346] (.seq (.reg [] [{},{},{fl:=12},{},{},{},{},{},{},{},{},{},{},{frz:=[(17,[])]}]) upbf)
def d343(p0:uk6):Option (uk11×Bool×uk6):=(d93 p0.2.1).bind λr=>(d90 p0.1.2.1).bind λan=>(d93 an).bind λao=>(d93 0).bind λap=>(zac (β:=uk0) (λ((n,g,y,z,j):uk6×uk11×Bool×Int×Int)=>bif (decide (j<z))then (d344 n j).bind λs=>bif (decide ((g.1.length:Int)+(([s]:List uk17).length:Int)<=LIM))then (d169 g.2.2.2.1 s).bind λaq=>bif (decide (0<=j)&&decide (j<(n.2.2.2.2.1.length:Int)))then (d93 0).bind λar=>(d175 (n.2.2.2.2.1.getD j.toNat (false,[],[])) ar).bind λaa=>bif (decide ((g.2.1.length:Int)+(([aa]:List uk17).length:Int)<=LIM))then some (Sum.inl (n,((g.1++[s]),(g.2.1++[aa]),g.2.2.1,aq,g.2.2.2.2),y,z,(w (j+1))))else none else none else none else some (Sum.inr (n,g,y))) (p0,([],[],r,ao,ap,[],[],[]),false,(p0.1.2.2.2.1.length:Int),0)).bind λ((ab,au,av):uk6×uk11×Bool)=>(d324 ab.1.2.2.2.1).bind λac=>(zac (β:=uk0) (λ((t,k,u,c,v,a):uk6×uk11×Bool×uk21×Int×Int)=>bif (decide (a<v))then zbl (λ((ax,ay,az,ba,bb,bc):uk6×uk11×Bool×uk21×Int×Int)=>some (Sum.inl (ax,ay,az,ba,bb,(w (bc+1))))) λae=>bif (decide (0<=a)&&decide (a<(c.length:Int)))then bif (decide (0<=(c.getD a.toNat 0))&&decide ((c.getD a.toNat 0)<(k.1.length:Int)))then (d174 (k.1.getD (Int.toNat (c.getD a.toNat 0)) (false,[],[])) k.2.2.1).bind λbe=>bif (decide (0<=be))then (ztt t k (c.getD a.toNat 0)).bind λl=>bif (decide (0<=(c.getD a.toNat 0))&&decide ((c.getD a.toNat 0)<(l.1.2.2.1.length:Int)))then ae ((l.1.1,l.1.2.1,(List.set l.1.2.2.1 (Int.toNat (c.getD a.toNat 0)) true),l.1.2.2.2),l.2,u,c,v,a)else none else ae (t,k,u,c,v,a)else none else none else some (Sum.inr (t,k,u))) (ab,au,av,ac,(ac.length:Int),0)).bind λ((af,bf,bg):uk6×uk11×Bool)=>(d324 af.2.2.1).bind λag=>(zac (β:=uk0) (λ((ah,e,ai,o,aj,i):uk6×uk11×Bool×uk21×Int×Int)=>bif (decide (i<aj))then bif (decide (0<=i)&&decide (i<(o.length:Int)))then bif (decide (0<=(o.getD i.toNat 0))&&decide ((o.getD i.toNat 0)<(e.1.length:Int)))then (d169 (e.1.getD (Int.toNat (o.getD i.toNat 0)) (false,[],[])) e.2.2.1).bind λbh=>(d175 e.2.2.2.2.1 bh).bind λbi=>some (Sum.inl (ah,(e.1,e.2.1,e.2.2.1,e.2.2.2.1,bi,e.2.2.2.2.2),ai,o,aj,(w (i+1))))else none else none else some (Sum.inr (ah,e,ai))) (af,bf,bg,ag,(ag.length:Int),0)).bind λ((b,p,ak):uk6×uk11×Bool)=>zbl (λ((f,x,bj):uk6×uk11×Bool)=>bif (decide ((f.1.2.2.2.2.2.2.length:Int)+(([x.1]:List uk16).length:Int)<=LIM))then some (x,bj,((f.1.1,f.1.2.1,f.1.2.2.1,f.1.2.2.2.1,f.1.2.2.2.2.1,f.1.2.2.2.2.2.1,(f.1.2.2.2.2.2.2++[x.1])),f.2))else none) λq=>bif (decide (b.1.2.2.2.2.2.1=b.1.1.2.2.2.1))then q (b,p,true)else (ztw b).bind λbk=>bif (decide (bk<=b.1.1.2.2.2.1))then (ztm b p).bind λal=>q (al.1,al.2,true)else (d324 b.2.2.1).bind λbl=>bif (decide (0<(bl.length:Int)))then (d345 b p).bind λam=>q (am.1,am.2,ak)else (d324 b.1.2.2.2.1).bind λbm=>(d328 p bm true).bind λbn=>(zpo b p bn true).bind λm=>(ztq b m.2 m.1).bind λh=>(d93 0).bind λbo=>bif (decide (0<=m.1)&&decide (m.1<(h.1.2.2.2.2.1.length:Int)))then (d93 1).bind λbp=>(d346 (h.1.1,h.1.2.1,h.1.2.2.1,h.1.2.2.2.1,(List.set h.1.2.2.2.2.1 m.1.toNat bo),h.1.2.2.2.2.2) m.1 bp).bind λbq=>q (bq,h.2,ak)else none
def sg343:Sig:=⟨[(y181,(.io umad))],[(y103,.sh),(y4,.sh)]⟩
def sim343:Sim prog 343 sg343 d343:=uqz func343 (zca rfl) call343 (by kernel_rfl) (by kernel_rfl) [.fn E93,.fn E90,.fn E344,.fn E169,.fn E175,.fn E324,.fn E174,.fn E325183,.fn E321183,.fn E339183,.fn E345,.fn E328,.fn E327183,.fn E326183,.fn E346] (.seq upax (uqs (.seq (uqs (.block (.loop [ujak,ujaa,(3,uqc),(32,uqa),(33,uqa)] [(.brk 0,[ujak,ujaa,(3,uqc)])] (uqs (.seq zfh (.seq (.block (uqs (uqs upbf))) uqr)))))) (.seq (.seq (.reg [(2,[0,0]),(2,[0,1,0])] []) (.block (.loop ulav [(.brk 2,[ujak,ujag,(3,uqc)])] (uqs (.seq zfh (.join (.block (uqs (uqs (.cond (.seq upan uqr) .nil)))) ulav uqr)))))) (.seq (uqs (.block (.loop [ujak,ujag,(3,uqc),(101,uqd),(102,uqa),(103,uqa)] [(.brk 4,[ujak,ujag,(3,uqc)])] upad))) (.join (.post (.block (uqs (.cond uqr (.seq upan (.cond (.seq upan uqr) (uqs (.cond upbb (.seq (.reg [(2,[0,1,1,1,1,1,0])] [{},{},{fl:=12},{},{},{},{},{},{},{},{},{frz:=[(130,[])]}]) (.seq upan upat))))))))) [(2,[0,1,1,1,1,1,0])]) [ujak,(2,.v y194 umar),(3,uqc)] zfy)))))) λxs=>by kernel_rfl
def d137(c:uk14)(gs:List uk20)(lots:List Int):Option (uk14×(List uk20×(List Int×(List Bool×(List Bool×(Int×List uk16)))))):=(d201 [true] (c.2.1.length:Int)).bind λr=>bif (decide ((c.2.1.length:Int)=(c.2.1.length:Int))&&(decide (0<=(c.2.1.length:Int))&&decide ((c.2.1.length:Int)<=LIM)))then some (c,gs,lots,r,(List.replicate (Int.toNat (c.2.1.length:Int)) false),0,[])else none
def E137:=uqy 137 ⟨[(y23,.sh),(y64,.sh),(y26,.sh)],[(y173,umab)]⟩ d137 func137 call137 [.fn E201] (uqs (uqs (.seq (.reg [] (uqk 8 [{fl:=1000006097}])) .nil)))
def d202(s1:List uk17)(s2:List uk17)(eq:(uk17->uk17->Option Bool)):Option Bool:=bif !(decide ((s1.length:Int)=(s2.length:Int)))then some false else (zac (β:=Unit⊕Bool) (λ((b,e,c,f,a):uk16×(uk17->uk17->Option Bool)×uk16×Int×Int)=>bif (decide (a<f))then bif (decide (0<=a)&&decide (a<(c.length:Int)))then bif (decide (0<=a)&&decide (a<(b.length:Int)))then (e (c.getD a.toNat (false,[],[])) (b.getD a.toNat (false,[],[]))).bind λr=>bif !r then some (Sum.inr (Sum.inr false))else some (Sum.inl (b,e,c,f,(w (a+1))))else none else none else some (Sum.inr (Sum.inl ()))) (s2,eq,s1,(s1.length:Int),0)).bind λ
  |Sum.inl _=>some true
  |Sum.inr g=>some g
def E202:=uqy 202 ⟨[(y97,.bw),(y97,.bw),(y211,.bw)],[(y4,.sh)]⟩ d202 func202 call202 [] (uqs (.seq zkl (.seq (uqs (.block (.loop [(1,.v y97 .bw),(2,.v y211 .bw),(15,.v y97 .bw),(16,uqa),(17,uqa)] [(.brk 0,[]),(.ret,[(6,uqc)])] (uqs (.seq zfh (.seq (.block (uqs (uqs zkl))) uqr)))))) zds)))
def d203(x:uk17)(y:uk17):Option Bool:=(d174 x y).bind λr=>some (decide (r=0))
def E203:=uqy 203 ⟨[(y101,.bw),(y101,.bw)],[(y4,.sh)]⟩ d203 func203 call203 [.fn E174] zfy
def d139(a:List uk17)(b:List uk17):Option Bool:=(d202 a b (λc e=>d203 c e)).bind λr=>some r
def E139:=uqy 139 ⟨[(y97,.bw),(y97,.bw)],[(y4,.sh)]⟩ d139 func139 call139 [.fn E202,.fn E203] zfy
def d69(a:uk11)(b:uk11):Option Bool:=(d139 a.1 b.1).bind λr=>bif r then (d139 a.2.1 b.2.1).bind λc=>bif c then (d139 [a.2.2.1,a.2.2.2.1,a.2.2.2.2.1] [b.2.2.1,b.2.2.2.1,b.2.2.2.2.1]).bind λe=>bif e then (d56 a.2.2.2.2.2.1 b.2.2.2.2.2.1).bind λf=>bif f then (d56 a.2.2.2.2.2.2.1 b.2.2.2.2.2.2.1).bind λg=>bif g then (d56 a.2.2.2.2.2.2.2 b.2.2.2.2.2.2.2).bind λh=>some h else some false else some false else some false else some false else some false
def E69:=uqy 69 ⟨[(y103,.sh),(y103,.sh)],[(y4,.sh)]⟩ d69 func69 call69 [.fn E139,.fn E56] zfy
def d135(t:uk7):Option Bool:=bif (decide (1<=t.1))then bif (decide (t.1<=3))then bif (decide (1<=t.2.1))then bif (decide (t.2.1<=5))then bif (decide (0<=t.2.2.1))then bif (decide (t.2.2.1<=6))then bif (decide (1<=t.2.2.2.1))then bif (decide (t.2.2.2.1<=7))then bif (decide (1<=(t.2.2.2.2.1.length:Int)))then some (decide ((t.2.2.2.2.1.length:Int)<=600))else some false else some false else some false else some false else some false else some false else some false else some false else some false
def E135:=uqy 135 ⟨[(y36,.bw)],[(y4,.sh)]⟩ d135 func135 call135 [] zfy
def d199(l:List Int)(candidates:Int):Option Bool:=(zac (β:=Unit⊕Bool) (λ((c,e,b,f,a):uk21×Int×uk21×Int×Int)=>bif (decide (a<f))then bif (decide (0<=a)&&decide (a<(b.length:Int)))then zbl (λ((h,i,j,k,m,n):uk21×Int×uk21×Int×Int×Bool)=>bif n then some (Sum.inr (Sum.inr false))else some (Sum.inl (h,i,j,k,(w (m+1))))) λg=>bif !(decide ((b.getD a.toNat 0)<0))then bif !(decide (e<=(b.getD a.toNat 0)))then bif (decide (0<a))then bif (decide (0<=(w (a-1)))&&decide ((w (a-1))<(c.length:Int)))then g (c,e,b,f,a,(decide ((b.getD a.toNat 0)<=(c.getD (Int.toNat (w (a-1))) 0))))else none else g (c,e,b,f,a,false)else g (c,e,b,f,a,true)else g (c,e,b,f,a,true)else none else some (Sum.inr (Sum.inl ()))) (l,candidates,l,(l.length:Int),0)).bind λ
 |Sum.inl _=>some true
 |Sum.inr o=>some o
def E199:=uqy 199 ⟨[(y26,.bw),(y2,.sh)],[(y4,.sh)]⟩ d199 func199 call199 [] (uqs (.seq (uqs (.block (.loop [(0,uqb),(1,uqa),(7,uqb),(8,uqa),(9,uqa)] uxaa (uqs (.seq zfh (.seq (.block (uqs (.join uqr [(0,uqb),(1,uqa),(7,uqb),(8,uqa),(9,uqa),(33,uqc)] zut))) uqr)))))) zds))
def d200(r:uk17):Option Bool:=bif (decide ((r.2.1.length:Int)<=64))then bif (decide ((r.2.2.length:Int)<=64))then (d252 r).bind λa=>bif a then some (!r.1)else some false else some false else some false
def E200:=uqy 200 ⟨[(y101,.bw)],[(y4,.sh)]⟩ d200 func200 call200 [.fn E252] zfy
def d136(p0:uk11)(p1:Int):Option Bool:=zbl (λ((t,f,u):Int×uk11×Bool)=>bif u then some false else (zac (β:=uk11⊕Bool) (λ((k,l,h,m,b):Int×uk11×uk19×Int×Int)=>bif (decide (b<m))then bif (decide (0<=b)&&decide (b<(h.length:Int)))then (d199 (h.getD b.toNat []) k).bind λr=>bif !r then some (Sum.inr (Sum.inr false))else some (Sum.inl (k,l,h,m,(w (b+1))))else none else some (Sum.inr (Sum.inl l))) (t,f,[f.2.2.2.2.2.1,f.2.2.2.2.2.2.1,f.2.2.2.2.2.2.2],3,0)).bind λ
    |Sum.inl c=>(zac (β:=Unit⊕Bool) (λ((g,n,a):uk15×Int×Int)=>bif (decide (a<n))then bif (decide (0<=a)&&decide (a<(g.length:Int)))then (zac (β:=(uk15×Int×Int)⊕Bool) (λ((o,p,q,i,s,e):uk15×Int×Int×uk16×Int×Int)=>bif (decide (e<s))then bif (decide (0<=e)&&decide (e<(i.length:Int)))then (d200 (i.getD e.toNat (false,[],[]))).bind λv=>bif !v then some (Sum.inr (Sum.inr false))else some (Sum.inl (o,p,q,i,s,(w (e+1))))else none else some (Sum.inr (Sum.inl (o,p,q)))) (g,n,a,(g.getD a.toNat []),((g.getD a.toNat []).length:Int),0)).bind λ
         |Sum.inl (x,y,z)=>some (Sum.inl (x,y,(w (z+1))))
         |Sum.inr aa=>some (Sum.inr (Sum.inr aa))else none else some (Sum.inr (Sum.inl ()))) ([c.1,c.2.1,[c.2.2.1,c.2.2.2.1,c.2.2.2.2.1]],3,0)).bind λ
     |Sum.inl _=>some true
     |Sum.inr ab=>some ab
    |Sum.inr ac=>some ac) λj=>bif !(!(decide ((p0.1.length:Int)=p1)))then bif !(!(decide ((p0.2.1.length:Int)=p1)))then j (p1,p0,(decide (1<(p0.2.2.2.2.2.2.1.length:Int))))else j (p1,p0,true)else j (p1,p0,true)
def E136:=uqy 136 ⟨[(y103,.sh),(y2,.sh)],[(y4,.sh)]⟩ d136 func136 call136 [.fn E199,.fn E200] (uqs (.seq (.join uqr [(1,uqa),(2,.v y194 zkd),(28,uqc)] zut) (.seq (uqs (.block (.loop [(1,uqa),(2,.v y194 zkd),(35,.v y48 umaw),(36,uqa),(37,uqa)] [(.brk 0,[(2,.v y194 zkd)]),(.ret,[(4,uqc)])] upaj))) (.seq (.seq (.reg [] (uqk 11 [{frz:=[(56,[])]}])) (.block (.loop ulba [(.brk 2,[]),(.ret,[(4,uqc)])] (uqs (.seq zfh (.seq (.block (uqs (uqs (.block (.loop [(57,.v y120 umaq),(58,uqa),(59,uqa),(63,.v y97 .sh),(64,uqa),(65,uqa)] [(.brk 4,ulba),(.ret,[(4,uqc)])] upaj))))) uqr)))))) zds))))
def d67(t:uk7):Option Bool:=(d135 t).bind λr=>bif !r then some false else (zac (β:=(uk7×uk21)⊕Bool) (λ((h,gone,winners,e,j,b):uk7×(List Bool)×uk21×uk10×Int×Int)=>bif (decide (b<j))then bif (decide (0<=b)&&decide (b<(e.length:Int)))then (d136 (e.getD b.toNat ([],[],(false,[],[]),(false,[],[]),(false,[],[]),[],[],[])) h.2.2.2.1).bind λai=>bif !ai then some (Sum.inr (Sum.inr false))else (zac (β:=(uk7×(List Bool)×uk21×uk11×uk10×Int×Int)⊕Bool) (λ((k,l,m,n,o,p,q,g,s,f):uk7×(List Bool)×uk21×uk11×uk10×Int×Int×uk19×Int×Int)=>bif (decide (f<s))then bif (decide (0<=f)&&decide (f<(g.length:Int)))then (zac (β:=(uk7×(List Bool)×uk21×uk11×uk10×Int×Int×uk19×Int×Int)⊕Bool) (λ((u,i,v,x,y,z,aa,ab,ac,ae,c,af,a):uk7×(List Bool)×uk21×uk11×uk10×Int×Int×uk19×Int×Int×uk21×Int×Int)=>bif (decide (a<af))then bif (decide (0<=a)&&decide (a<(c.length:Int)))then bif (decide (0<=(c.getD a.toNat 0))&&decide ((c.getD a.toNat 0)<7))then bif (i.getD (Int.toNat (c.getD a.toNat 0)) false)then some (Sum.inr (Sum.inr false))else bif (decide (0<=(c.getD a.toNat 0))&&decide ((c.getD a.toNat 0)<7))then some (Sum.inl (u,(List.set i (Int.toNat (c.getD a.toNat 0)) true),v,x,y,z,aa,ab,ac,ae,c,af,(w (a+1))))else none else none else none else some (Sum.inr (Sum.inl (u,i,v,x,y,z,aa,ab,ac,ae)))) (k,l,m,n,o,p,q,g,s,f,(g.getD f.toNat []),((g.getD f.toNat []).length:Int),0)).bind λ
           |Sum.inl (aj,ak,al,am,an,ao,ap,aq,ar,au)=>some (Sum.inl (aj,ak,al,am,an,ao,ap,aq,ar,(w (au+1))))
           |Sum.inr av=>some (Sum.inr (Sum.inr av))else none else some (Sum.inr (Sum.inl (k,l,m,n,o,p,q)))) (h,gone,winners,(e.getD b.toNat ([],[],(false,[],[]),(false,[],[]),(false,[],[]),[],[],[])),e,j,b,[((((((e.getD b.toNat ([],[],(false,[],[]),(false,[],[]),(false,[],[]),[],[],[])).2).2).2).2).2).1,(((((((e.getD b.toNat ([],[],(false,[],[]),(false,[],[]),(false,[],[]),[],[],[])).2).2).2).2).2).2).1],2,0)).bind λ
       |Sum.inl (ax,ay,ag,ah,az,ba,bb)=>bif (decide ((ag.length:Int)+(ah.2.2.2.2.2.1.length:Int)<=LIM))then some (Sum.inl (ax,ay,(ag++ah.2.2.2.2.2.1),az,ba,(w (bb+1))))else none
       |Sum.inr bc=>some (Sum.inr (Sum.inr bc))else none else some (Sum.inr (Sum.inl (h,winners)))) (t,[false,false,false,false,false,false,false],[],t.2.2.2.2.1,(t.2.2.2.2.1.length:Int),0)).bind λ
  |Sum.inl (be,bf)=>(d56 bf be.2.2.2.2.2).bind λbg=>some bg
  |Sum.inr bh=>some bh
def E67:=uqy 67 ⟨[(y36,.sh)],[(y4,.sh)]⟩ d67 func67 call67 [.fn E135,.fn E136,.fn E56] (uqs (.seq zkl (uqs (.seq zxi (.seq (uqs (.block (.loop [ujax,ujbd,(4,uqd),(15,.v y35 .sh),(16,uqa),(17,uqa)] [(.brk 0,[ujax,(4,uqd)]),(.ret,[(2,uqc)])] (uqs (.seq zfh (.seq (.block (uqs (.seq zkl (.seq (uqs (.block (.loop ulaa [(.brk 2,[ujax,ujbd,(4,uqd),ujbk,(15,.v y35 .sh),(16,uqa),(17,uqa)]),(.ret,[(2,uqc)])] (uqs (.seq zfh (.seq (.block (uqs (uqs (.block (.loop [ujax,ujbd,(4,uqd),ujbk,(15,.v y35 .sh),(16,uqa),(17,uqa),(30,.v y48 umaw),(31,uqa),(32,uqa),(36,uqf),(37,uqa),(38,uqa)] [(.brk 4,ulaa),(.ret,[(2,uqc)])] (uqs (.seq zfh (.seq (.block (uqs (.seq zkl uqr))) uqr)))))))) uqr)))))) uqr)))) uqr)))))) zds)))))
def d39(gs:List uk20)(p:List Int)(k:Int):Option uk18:=(zac (β:=(uk21×Int×uk18×Bool)) (λ((a,f,h,out,done,i):uk18×uk21×Int×uk18×Bool×Int)=>bif (decide (i<(a.length:Int)))then zbl (λ((y,z,aa,ab,ac,ae):uk18×uk21×Int×uk18×Bool×Int)=>some (Sum.inl (y,z,aa,ab,ac,(w (ae+1))))) λn=>bif (decide (0<=i)&&decide (i<(a.length:Int)))then zbl (λ((af,ag,ah,o,ai,aj,q):uk18×uk21×Int×uk18×Bool×Int×uk20)=>bif (decide ((o.length:Int)+(([q]:List uk20).length:Int)<=LIM))then n (af,ag,ah,(o++[q]),ai,aj)else none) λs=>zbl (λ((j,c,b,e,ak,l,g,al):uk18×uk21×Int×uk18×Bool×Int×uk20×Bool)=>bif al then (d26 g.1 c).bind λam=>bif am then bif (decide ((e.length:Int)+(([(g.1,(w (g.2+b)))]:List uk20).length:Int)<=LIM))then n (j,c,b,(e++[(g.1,(w (g.2+b)))]),true,l)else none else bif (decide ((e.length:Int)+(([(c,b)]:List uk20).length:Int)<=LIM))then s (j,c,b,(e++[(c,b)]),true,l,g)else none else s (j,c,b,e,ak,l,g)) λt=>bif !done then (d58 ((a.getD i.toNat ([],0)).1) f).bind λr=>t (a,f,h,out,done,i,(a.getD i.toNat ([],0)),!r)else t (a,f,h,out,done,i,(a.getD i.toNat ([],0)),false)else none else some (Sum.inr (f,h,out,done))) (gs,p,k,[],false,0)).bind λ((u,v,m,an):uk21×Int×uk18×Bool)=>zbl (λ(ao:List uk20)=>some ao) λx=>bif !an then bif (decide ((m.length:Int)+(([(u,v)]:List uk20).length:Int)<=LIM))then x (m++[(u,v)])else none else x m
def E39:=uqy 39 ⟨[(y64,.sh),(y26,.sh),(y2,.sh)],[(y64,zun)]⟩ d39 func39 call39 [.fn E58,.fn E26] (uqs (.seq zxi (uqs (.seq (uqs (.block (.loop ulal [(.brk 0,[(1,uqf),(2,uqa),ujbp,(8,uqc)])] (.seq zxh (.join (.block (uqs (.join (.join uqr [(0,.v y64 .sh),(1,uqf),(2,uqa),ujbp,(8,uqc),(9,uqa),(10,.v (.ptr y77) zkd),(29,uqc)] (.cond (uqs (.seq zkl uqr)) .nil)) [(0,.v y64 .sh),(1,uqf),(2,uqa),ujbp,(8,uqc),(9,uqa),(10,.v (.ptr y77) zkd)] uqr))) ulal uqr))))) (.join zxj [ujbp] zds)))))
def d51(n:Int)(ballots:List uk21):Option (uk18×Int):=zbl (λ((f,b,g):Int×uk19×Bool)=>bif g then some ([],4)else bif (decide (100000<(b.length:Int)))then some ([],7)else (zac (β:=uk18⊕(uk18×Int)) (λ((c,a,gs,i):Int×uk19×uk18×Int)=>bif (decide (i<(a.length:Int)))then bif (decide (0<=i)&&decide (i<(a.length:Int)))then (d41 c (a.getD i.toNat [])).bind λr=>bif !r then some (Sum.inr (Sum.inr ([],8)))else bif (decide (0<=i)&&decide (i<(a.length:Int)))then bif (decide ((([]:List Int).length:Int)+((a.getD i.toNat []).length:Int)<=LIM))then (d39 gs (a.getD i.toNat []) 1).bind λh=>some (Sum.inl (c,a,h,(w (i+1))))else none else none else none else some (Sum.inr (Sum.inl gs))) (f,b,[],0)).bind λ
     |Sum.inl j=>some (j,0)
     |Sum.inr (k,l)=>some (k,l)) λe=>bif !(decide (n<1))then e (n,ballots,(decide (7<n)))else e (n,ballots,true)
def E51:=uqy 51 ⟨[(y2,.sh),(y48,.bw)],[(y64,.sh),(y2,.sh)]⟩ d51 func51 call51 [.fn E41,.fn E39] (.post (uqs (.seq (.join uqr [(0,uqa),(1,.v y48 .bw),(13,uqc)] zut) (.seq zkl (.seq zxi (.seq (uqs (.block (.loop [(0,uqa),(1,.v y48 .bw),(6,.v y64 zun),(7,uqa)] [(.brk 0,[(6,.v y64 zun)]),(.ret,[(4,.v y64 .sh),(5,uqa)])] (.seq zxh (.seq (.block (.seq zkl (.reg [(6,[])] (uqk 6 [{frz:=[(35,[])]}])))) uqr))))) zds))))) [(4,[])])
def d61(n:Int)(l:List uk21)(most:Int):Option uk18:=(d60 n l most).bind λr=>(d51 n r).bind λa=>some a.1
def E61:=uqy 61 ⟨[(y2,.sh),(y48,.bw),(y2,.sh)],[(y64,.sh)]⟩ d61 func61 call61 [.fn E60,.fn E51] (uqs (.seq upbd zds))
end
noncomputable section
abbrev un0:=(List Int×Int)
def d329(gs:List un0):Option (List un0):=(zac (β:=(List un0)) (λ((out,b,c,a):(List un0)×(List un0)×Int×Int)=>bif (decide (a<c))then bif (decide (0<=a)&&decide (a<(b.length:Int)))then (d78 ((b.getD a.toNat ([],0)).1)).bind λr=>bif (decide ((out.length:Int)+(([(r,(b.getD a.toNat ([],0)).2)]:List un0).length:Int)<=LIM))then some (Sum.inl ((out++[(r,(b.getD a.toNat ([],0)).2)]),b,c,(w (a+1))))else none else none else some (Sum.inr out)) ([],gs,(gs.length:Int),0)).bind λ(e:List un0)=>some e
def d330(p:Int)(p1:List Bool):Option Bool:=(d148 p1 p).bind λr=>some (!r)
def sg330:Sig:=⟨[(y2,.bw),((.ptr y49),.bw)],[(y4,.sh)]⟩
def sim330:Sim prog 330 sg330 d330:=uqz func330 (zca rfl) call330 (by kernel_rfl) (by kernel_rfl) [.fn E148] zfy λxs=>by kernel_rfl
end
end Go.Proofs.YtamgmpngdmnadaaGreat
namespace Go.Proofs.YtamgmpngdmnadaaGreat
open Tryz
open Go Go.Proofs Go.RowKit Go.X
def wI(x:Int):Prop:=IntKind.i64.wrap x=x
def KI(w:World)(v:Value)(xs:List Int)(b:Nat):Prop:=
 xs.length<=1000/\(∀x∈xs,wI x)/\∃cap cur,v=.slice (some ⟨b,0,none⟩) xs.length cap/\xs.length<=cap/\cap<=maxLen/\cur.size=cap/\w.heap[b]?=some (.cells cur 3 (0,0))/\∀(i:Nat) (h:i<xs.length),cur[i]?=some (.int .i64 xs[i])
def KI.lt{w:World}{v:Value}{xs:List Int}{b:Nat}(h:KI w v xs b):b<w.heap.size:=by obtain⟨_,_,cap,cur,_,_,_,_,h1,_⟩:=h;exact(xbm.1 h1).1
def KI.same{w w':World}{v:Value}{xs:List Int}{b:Nat}(h:KI w v xs b)(hb:w'.heap[b]?=w.heap[b]?):KI w' v xs b:=by obtain⟨h1,h2,cap,cur,h3,h4,h5,h6,h7,h8⟩:=h;exact⟨h1,h2,cap,cur,h3,h4,h5,h6,hb.trans h7,h8⟩
def SLo(lo:Nat)(w:World)(v:Value)(xs:List Int):Option Nat->Prop
 |none=>v=.slice none 0 0/\xs=[]
 |some b=>KI w v xs b/\lo<=b
def SLo.same{lo:Nat}{w w':World}{v:Value}{xs:List Int}{ob:Option Nat}(h:SLo lo w v xs ob)(hb:∀b,ob=some b->w'.heap[b]?=w.heap[b]?):SLo lo w' v xs ob:=by
 cases ob with
 |none=>exact h
 |some b=>exact⟨h.1.same (hb b rfl),h.2⟩
def SLo.lt{lo:Nat}{w:World}{v:Value}{xs:List Int}{b:Nat}(h:SLo lo w v xs (some b)):b<w.heap.size:=h.1.lt
def stF(F:Nat->Prop)(W:World):St:=⟨W,F,λ_=>False,λ_=>none,λ_=>undef⟩
def CL(N:Nat)(W:World)(cv:Value)(rem:List Bool):Prop:=
 cv=.func (.func 330) #[] #[.pointer (some ⟨N,0,none⟩)]/\N<W.heap.size/\∃rv,W.cell? ⟨N,0,none⟩=some rv/\SR prog y49 (stF (λc=>c<N) W) .bw (0,[]) rem rv
def CL.same{N:Nat}{W W':World}{cv:Value}{rem:List Bool}(h:CL N W cv rem)(hs:W.heap.size<=W'.heap.size)(hb:∀c,c<=N->W'.heap[c]?=W.heap[c]?):CL N W' cv rem:=by obtain⟨h1,h2,rv,h3,h4⟩:=h;exact⟨h1,by omega,rv,zlf (hb N (xag _)) h3,h4.1.fut (.inr rfl) ⟨λb hb=>hb,λb _ hb=>hb.elim,λb hq=>hq.elim (λhq=>hb b (xgk hq)) λhq=>hq.2.elim⟩ λ_ _=>rfl,h4.2⟩
def cl_rel{N:Nat}{S:St}{cv:Value}{rem:List Bool}(h:CL N S.w cv rem)(hF:∀c,c<=N->S.F c)(p:X.Place):SR prog y127 S .bw p (λx=>d330 x rem) cv:=by
 obtain⟨rfl,h2,rv,h3,h4⟩:=h;refine⟨⟨330,#[.pointer (some ⟨N,0,none⟩)],by simp[zab,Ty.agg],sim330.1,λS' x y hfut hwf hg v hv hagg=>?_⟩,λh=>by cases h⟩;have hG:∀c,c<=N->S.G .bw c:=λc hc=>.inl (hF c hc);have ha:=sim330.2 (x,rem,()) y hg S'.bare hwf.bare [v,.pointer (some ⟨N,0,none⟩)] rfl (λi e hi=>by
  match i,hi with
  | 0,hi=>
   cases hi
   exact⟨v,rfl,hv.free rfl zjz λ_ _=>rfl,hagg⟩
  | 1,hi=>
   cases hi
   refine⟨_,rfl,⟨N,0,by simp[zab,Ty.agg],λ_=>.inl (hfut.sh N (hF N (xag _))),?_⟩,λh=>by cases h⟩
   have e1:S'.w.heap[N]?=S.w.heap[N]?:=hfut.same N (hG N (xag _))
   have e2:blk S'.w N 0 0=some rv:=zlf e1 h3
   have e0:Rel prog y49 S' .bw (0,[]) rem (zab y49 rv):=h4.1.fut (.inr rfl) ⟨λb hb=>hfut.sh b (hF b (xgk hb)),λb _ hb=>hb.elim,λb hq=>hq.elim (λhq=>hfut.same b (hG b (xgk hq))) λhq=>hq.2.elim⟩ λ_ _=>rfl
   have e3:Rel prog y49 S'.bare .bw (px (1,[]) 0) rem (zab y49 rv):=Rel.free e0 rfl zjz λ_ _=>rfl
   refine e3.cong λj hj=>?_
   have he:j=0:=by have:j<1:=hj;omega
   subst he
   rw[show blk S'.bare.w N 0 0=blk S'.w N 0 0 from rfl,e2]
   rfl
  |i+2,hi=>cases hi)
 refine Calls.mono ha λe w' hR=>?_;obtain⟨u,S4,rfl,rfl,hf,hd,_⟩:=hR;have hr:SR prog y4 S4 .sh (0,[0]) y u:=hd;exact⟨u,rfl,Rel.flat rfl hr.1,hr.2,Frm.ext hf⟩
structure Kp(ob:Option Nat)(w w':World):Prop where
 os:w'.os=w.os
 tape:w'.tape=w.tape
 output:w'.output=w.output
 size:w.heap.size<=w'.heap.size
 block:∀b,b<w.heap.size->ob≠some b->w'.heap[b]?=w.heap[b]?
def slo_rel{lo:Nat}{S:St}{v:Value}{xs:List Int}{ob:Option Nat}{p:X.Place}(h:SLo lo S.w v xs ob)(hv:S.hv p=v)(ho:∀b,ob=some b->S.own b=some p):SR prog y26 S (.own 3 .sh) p xs v:=by
 cases ob with
 |none=>
  obtain⟨rfl,rfl⟩:=h;exact⟨⟨by simp[zpf],by simp[Ty.size],by rw[hv];simp[zab,Ty.agg],.inl ⟨hv,rfl⟩⟩,λh=>by cases h⟩
 |some b=>
  obtain⟨⟨h1,h2,cap,cur,rfl,h4,h5,h6,h7,h8⟩,_⟩:=h;refine⟨⟨xay h1 (by decide),by simp[Ty.size],by rw[hv];simp[zab,Ty.agg],.inr ⟨b,cap,cur,hv,ho b rfl,h7,h4,h5,by simp[Ty.size,h6],λi hi=>⟨?_,h2 _ (xbf hi)⟩⟩⟩,λh=>by cases h⟩;have:=h8 i hi;simpa[Ty.size]using this
def rel_slo{lo:Nat}{S:St}{v:Value}{xs:List Int}{p:X.Place}(h:SR prog y26 S (.own 3 .sh) p xs v)(hl:xs.length<=1000)(hlo:∀g,S.own g=some p->lo<=g):∃ob,SLo lo S.w v xs ob/\∀b,ob=some b->S.own b=some p:=by
 obtain⟨⟨_,_,h1,h2⟩,_⟩:=h;have hv:v=S.hv p:=by simpa[zab,Ty.agg]using h1
 rcases h2 with⟨h2,h3⟩|⟨g,cap,cur,h2,h3,h4,h5,h6,h7,h8⟩
 ·exact⟨none,⟨by rw[hv,h2],h3⟩,λb hb=>by cases hb⟩
 ·refine⟨some g,⟨⟨hl,λx hx=>?_,cap,cur,by rw[hv,h2],h5,h6,by simpa[Ty.size]using h7,h4,λi hi=>?_⟩,hlo g h3⟩,λb hb=>by cases hb;exact h3⟩;·obtain⟨i,hi,rfl⟩:=xdi hx;exact(h8 i hi).2
  ·have:=(h8 i hi).1;simpa[Ty.size]using this
def del_ok{W:World}{v cv:Value}{xs ys:List Int}{ob:Option Nat}{lo N:Nat}{rem:List Bool}(hx:SLo lo W v xs ob)(hN:N<lo)(hlo:lo<=W.heap.size)(hcv:CL N W cv rem)(hd:d171 xs (λp=>d330 p rem)=some ys)(hys:ys.length<=1000) :
  Calls prog 171 #[v,cv] W λe w'=>∃v' ob',e=.returned v'/\SLo lo w' v' ys ob'/\(∀b,ob'=some b->ob=some b\/W.heap.size<=b)/\Kp ob W w':=by
 let S0:St:=⟨W,λc=>c<=N,λ_=>False,λc=>if ob=some c then some (0,[])else none,λ_=>v⟩;have hh:S0.WF:=by
  refine⟨λb hb=>⟨?_,xdu hb hcv.2.1⟩,λb hb=>hb.elim,λb p hb=>?_⟩;·show(if ob=some b then _ else _)=_;rw[if_neg];intro e;subst e;have h2:lo<=b:=hx.2;have h3:b<=N:=hb;omega
  ·have hf:(if ob=some b then some (0,[])else none)=some p:=hb;split at hf;·rename_i e;subst e;exact hx.lt
   ·cases hf
 refine Calls.mono (sim171.2 (xs,λp=>d330 p rem,()) ys hd S0 hh [v,cv] rfl λi e he=>?_) λe w' ⟨v',S4,h1,h2,h3,h4,_⟩=>?_
 ·match i,he with
  | 0,he=>cases he;exact⟨_,rfl,slo_rel hx rfl λb hb=>if_pos hb⟩
  | 1,he=>cases he;exact⟨_,rfl,cl_rel hcv (λc hc=>hc) _⟩
  |i+2,he=>cases he
 ·subst h2;have h5:SR prog y26 S4 (.own 3 .sh) (0,[0]) ys v':=h4;have ha:∀g,S4.own g=some (0,[0])->ob=some g\/W.heap.size<=g:=λg hg=>by
   rcases(h3.owned g _ hg).2 with h|h
   ·exact .inr h
   ·refine .inl (Classical.byContradiction λhne=>h ?_);show(if ob=some g then _ else _)=_;rw[if_neg hne]
  obtain⟨ob',q1,q2⟩:=rel_slo (lo:=lo) h5 hys λg hg=>by
   rcases ha g hg with h|h
   ·subst h;exact hx.2
   ·omega
  refine⟨v',ob',h1,q1,λb hb=>ha b (q2 b hb),⟨h3.os,h3.tape,h3.output,h3.size,λb hb hne=>h3.kept b hb ?_⟩⟩;show(if ob=some b then _ else _)=_;rw[if_neg hne]
abbrev El:=(List Int×Int)×(Value×Option Nat)
def elC(q:El):List Value:=[q.2.1,.int .i64 q.1.2]
structure GR(lo:Nat)(w:World)(v:Value)(l:List El):Prop where
 row:w.ownsRow lo 77 2 v l.length (l.flatMap elC)
 el:∀q∈l,SLo lo w q.2.1 q.1.1 q.2.2/\wI q.1.2
 dis:(l.filterMap (·.2.2)).Nodup
def GR.nil(lo:Nat)(w:World):GR lo w (.slice none 0 0) []:=⟨World.ownsRow_nil _ _ _ _,λq hq=>absurd hq (by simp),by simp⟩
def SLo.slice{lo:Nat}{w:World}{v:Value}{xs:List Int}{ob:Option Nat}(h:SLo lo w v xs ob):∃sa sl sc,v=.slice sa sl sc:=by
 cases ob with
 |none=>exact⟨_,_,_,h.1⟩
 |some b=>obtain⟨⟨_,_,c,_,rfl,_⟩,_⟩:=h;exact⟨_,_,_,rfl⟩
def elC_one{q:El}{lo:Nat}{w:World}(h:SLo lo w q.2.1 q.1.1 q.2.2):∀u∈elC q,u.oneCell'=true:=by
 obtain⟨sa,sl,sc,e⟩:=h.slice;intro u hu;unfold elC at hu;simp only[xar,xdj,xhb]at hu;rcases hu with rfl|rfl
 ·rw[e];rfl
 ·rfl
def info77:(prog.info? 77).map (λi=>(i.zero,i.size,i.bytes))=some (some (.agg #[.slice none 0 0,.int .i64 0]),2,32):=by kernel_rfl
def row_ne{lo lo':Nat}{w:World}{v sv:Value}{xs:List Int}{n b:Nat}{rows:List Value}(hr:w.ownsRow lo 77 2 v n rows)(h:SLo lo' w sv xs (some b)):v.ownBlock≠some b:=λe=>by
 obtain⟨⟨_,_,_,cur,_,_,_,_,q1,_⟩,_⟩:=h;obtain⟨_,h2⟩:=hr;rcases h2 with⟨rfl,_⟩|⟨g,cap,cur',rfl,_,r3,_⟩
 ·cases e
 ·have:g=b:=xbi e;subst this;rw[q1]at r3;cases r3
def slo_grown{lo lo':Nat}{w w':World}{v sv:Value}{xs:List Int}{n:Nat}{rows:List Value}{ob:Option Nat}(hr:w.ownsRow lo 77 2 v n rows)(hg:w.grownBy w' v.ownBlock)(h:SLo lo' w sv xs ob):SLo lo' w' sv xs ob:=
 h.same λb hb=>by subst hb;exact hg.block b h.lt λe=>row_ne hr h e.symm
def gr_append{lo:Nat}{w:World}{v:Value}{l:List El}(h:GR lo w v l)(q:El)(hq:SLo lo w q.2.1 q.1.1 q.2.2/\wI q.1.2)(hnew:∀b,q.2.2=some b->b∉l.filterMap (·.2.2)){g1:Nat}(h0:w.cell? ⟨g1,0,none⟩=some q.2.1)(h1:w.cell? ⟨g1,1,none⟩=some (.int .i64 q.1.2))
  (hlo:lo<=w.heap.size) (hl:l.length<=100000) :
  ∃v2 w2,(Builtin.append_ #[64,64] 64 #[v,.slice (some ⟨g1,0,none⟩) 1 1]).run prog w=.ok v2 w2/\GR lo w2 v2 (l++[q])/\w.grownBy w2 v.ownBlock:=by
 obtain⟨i0,he,hf,hd,hh⟩:=info_parts info77;obtain⟨v2,w2,hr,hc,hg,_,hi⟩:=run_append_own_at (P:=prog) w lo 64 64 77 i0 _ 2 32 underlying64 he hf hd hh rfl (by decide) v l.length _ h.row ⟨g1,0,none⟩ 1 1 (elC q) rfl
  (λj u hu=>by
   match j,hu with
   | 0,hu=>cases hu;exact h0
   | 1,hu=>cases hu;exact h1
   |j+2,hu=>cases hu) (elC_one hq.1) (by unfold maxLen;omega) (by omega) hlo
 refine⟨v2,w2,hr,⟨?_,λp hp=>?_,?_⟩,hg⟩;·rw[xbo,xfj,List.flatMap_singleton];exact hc
 ·rcases xbp.1 hp with hp|hp
  ·exact⟨slo_grown h.row hg (h.el p hp).1,(h.el p hp).2⟩
  ·rw[xba.1 hp];exact⟨slo_grown h.row hg hq.1,hq.2⟩
 ·rw[List.filterMap_append];refine xdh.2 ⟨h.dis,?_,λa ha b hb e=>?_⟩;·cases hob':q.2.2<;>simp[hob']
  ·subst e;cases hob':q.2.2 with
   |none=>simp[hob']at hb
   |some c=>simp[hob']at hb;subst hb;exact hnew _ hob' ha
def stF_wf{F:Nat->Prop}{W:World}(h:∀b,F b->b<W.heap.size):(stF F W).WF:=⟨λb hb=>⟨rfl,h b hb⟩,λb hb=>hb.elim,λb p hb=>by cases hb⟩
def RDv(N:Nat)(W:World)(t:Ty)(x:t.den)(v:Value):Prop:=SR prog t (stF (λc=>c<N) W) .bw (0,[]) x v
def RDv.same{N:Nat}{W W':World}{t:Ty}{x:t.den}{v:Value}(h:RDv N W t x v)(hb:∀c,c<N->W'.heap[c]?=W.heap[c]?):RDv N W' t x v:=
 ⟨h.1.fut (.inr rfl) ⟨λb hb=>hb,λb _ hb=>hb.elim,λb hq=>hq.elim (λhq=>hb b hq) λhq=>hq.2.elim⟩ λ_ _=>rfl,h.2⟩
def cln_ok{W:World}{N:Nat}{pv:Value}{xs:List Int}(hx:RDv N W y26 xs pv)(hN:N<=W.heap.size)(hl:xs.length<=1000) :
  Calls prog 78 #[pv] W λe w'=>∃v' ob,e=.returned v'/\SLo W.heap.size w' v' xs ob/\Kp none W w':=by
 have hd:d78 xs=some xs:=by unfold d78;rw[xae (show(xs.length:Int)<=LIM by rw[zia];omega)];rfl
 refine Calls.mono (sim78.2 (xs,()) xs hd (stF (λc=>c<N) W) (stF_wf λb hb=>xav hb hN) [pv] rfl λi e he=>?_) λe w' ⟨v',S4,h1,h2,h3,h4,_⟩=>?_
 ·match i,he with
  | 0,he=>cases he;exact⟨_,rfl,hx⟩
  |i+1,he=>cases he
 ·subst h2;have h5:SR prog y26 S4 (.own 3 .sh) (0,[0]) xs v':=h4;obtain⟨ob,q1,q2⟩:=rel_slo (lo:=W.heap.size) h5 hl λg hg=>by
   rcases(h3.owned g _ hg).2 with h|h
   ·exact h
   ·exact absurd rfl h
  exact⟨v',ob,h1,q1,h3.os,h3.tape,h3.output,h3.size,λb hb _=>h3.kept b hb rfl⟩
def grp_read{N:Nat}{W:World}{gs:List (List Int×Int)}{gv:Value}(h:RDv N W y64 gs gv):∃A cap,gv=.slice A gs.length cap/\gs.length<=cap/\(gs=[]\/∃b o,A=some ⟨b,o,none⟩/\b<N /\
  ∀(i:Nat) (hi:i<gs.length),∃pv,W.cell? ⟨b,o+i*2,none⟩=some pv/\W.cell? ⟨b,o+i*2+1,none⟩=some (.int .i64 gs[i].2)/\wI gs[i].2/\RDv N W y26 gs[i].1 pv):=by
 obtain⟨⟨_,_,A,len,cap,h1,h2,h3,h4⟩,_⟩:=h;have hv:gv=.slice A len cap:=by simpa[zab,Ty.agg]using h1
 subst h2;refine⟨A,cap,hv,h3,?_⟩;rcases h4 with⟨h4,_⟩|⟨b,o,h4,h5,h6⟩
 ·exact .inl h4
 ·by_cases he:gs=[];·exact .inl he
  ·have hb:b<N:=by
    rcases h5 he with h|h
    ·exact h
    ·exact h.2.elim
   refine .inr ⟨b,o,h4,hb,λi hi=>?_⟩;obtain⟨r1,r2⟩:=h6 i hi;have e1:Ty.size y77=2:=rfl;obtain⟨q1,q2,A',l',c',q3,q4⟩:=r1;have c0:W.cell? ⟨b,o+i*2,none⟩=some (.slice A' l' c'):=by have:=q3;simpa[blk,e1,stF]using this
   have c1:W.cell? ⟨b,o+i*2+1,none⟩=some (.int .i64 gs[i].2):=by have:=r2.1;simpa[blk,e1,stF,Ty.size,xdk]using this
   refine⟨.slice A' l' c',c0,c1,r2.2,⟨q1,q2,A',l',c',by simp[zab,Ty.agg],q4.1,q4.2.1,?_⟩,λh=>by cases h⟩;exact q4.2.2.imp id λ⟨b',o',e,k1,k2⟩=>⟨b',o',e,k1,λj hj=>(k2 j hj).fut (.inr rfl) ⟨λ_ h=>h,λ_ _ h=>.inr h,λ_ _=>rfl⟩ λ_ _=>rfl⟩
end Go.Proofs.YtamgmpngdmnadaaGreat
namespace Go.X
open Go Go.RowKit
section
variable {P:Program}
def region_inv(hm:P.follows .mixedOrders=true){id:Nat}{ops:Array Oper}{Q:Exit->Act->World->Prop}(J:(Nat->Bool)->Act->World->Prop)
  (hac:∀k o,ops[k]?=some o->o.guard=none/\∀e∈o.after,Region.binds .any e=true->e.on<k)
  (zlm:∀(D:Nat->Bool) i o a w,ops[i]?=some o->D i=false->(∀e∈o.after,Region.binds .any e=true->D e.on=true)->J D a w->o.wp P a w (λa' w'=>J (λk=>D k||k == i) a' w') Q)
  (fin:∀(D:Nat->Bool) a w,(∀k,k<ops.size->D k=true)->J D a w->Q .normal a w)
  {a:Act} {w:World} (h0:J (λ_=>false) a w.drew):(Code.region id ops true).wp P Q a w:=by
 have hd:∀(listed:Array Bool),listed.size=ops.size->Region.ready .any ops listed=[]->∀k,k<ops.size->listed.getD k true=true:=λlisted hs hr=>by
  intro k;induction k using Nat.strongRecOn with
  |_ k ih=>
   intro hk;cases hl:listed.getD k true with
   |true=>rfl
   |false=>
    exfalso;have ha:k∈Region.ready .any ops listed:=mem_ready.2 ⟨hl,ops[k],xcf hk,λe he hb=>by have h3:=(hac k _ (xcf hk)).2 e he hb;have:=ih e.on h3 (by omega);simpa[hs,show e.on<ops.size from by omega]using this⟩
    rw[hr]at ha;cases ha
 have hc:∀(listed:Array Bool) (k:Nat),listed.size=ops.size->k<ops.size->listed.getD k true=true->listed.getD k false=true:=λlisted k hs hk h=>by simpa[hs,hk]using h
 have key:∀(fuel:Nat) (listed:Array Bool) (a:Act) (w:World),listed.size=ops.size->((List.range ops.size).filter λk=>!listed.getD k true).length=fuel ->
   J (λk=>listed.getD k false) a w->wpAny P .any ops Q fuel listed a w:=by
  intro fuel;induction fuel with
  |zero=>
   intro listed a w hs hf h;have hg:∀k,k<ops.size->listed.getD k true=true:=λk hk=>by have:=xef hf;rw[xgu]at this;simpa using this k (xcm.2 hk)
   refine⟨?_,fin _ a w (λk hk=>hc listed k hs hk (hg k hk)) h⟩;apply List.eq_nil_iff_forall_not_mem.2;intro k hk;obtain⟨h1,o,ho,_⟩:=mem_ready.1 hk;rw[hg k (xbm.1 ho).1]at h1;cases h1
  |succ fuel ih=>
   intro listed a w hs hf h;refine⟨λhr=>fin _ a w (λk hk=>hc listed k hs hk (hd listed hs hr k hk)) h,λi hi=>?_⟩;obtain⟨hy,o,ho,hq⟩:=mem_ready.1 hi;have ht:i<ops.size:=(xbm.1 ho).1;have hu:listed.getD i false=false:=by simpa[hs,ht]using hy
   have hw:(listed.setIfInBounds i true).size=ops.size:=by simpa using hs
   have hj:Region.wanted o (yielded ops a.tmps)=true:=by unfold Region.wanted;rw[(hac i o ho).1]
   unfold wpOp;rw[ho];show if Region.wanted o (yielded ops a.tmps)=true then _ else _
   rw[if_pos hj];refine .inl (Oper.wp_mono (λa' w' h'=>?_) (zlm _ i o a w ho hu hq h));refine ih _ a' w' hw ?_ ?_
   ·have key:∀(l:List Nat),l.Nodup->i∈l->(l.filter λk=>!listed.getD k true).length=(l.filter λk=>!(listed.setIfInBounds i true).getD k true).length+1:=by
     intro l;induction l with
     |nil=>intro _ h;cases h
     |cons x l ih2=>
      intro h2 ha;obtain⟨hx,hv⟩:=xfb.1 h2;rw[xer,xer];by_cases hxi:x=i
      ·subst hxi;have e1:(!listed.getD x true)=true:=by rw[hy];rfl
       have e2:(!(listed.setIfInBounds x true).getD x true)=false:=by simp[hs,ht]
       rw[if_pos e1,e2];simp only[xbb,xcg,xbd];congr 1;congr 1;apply xek;intro k hk;have hz:x≠k:=λhe=>hx (he▸hk);rw[getD_set_ne true hz]
      ·have hn:i∈l:=(xar.1 ha).resolve_left (λe=>hxi e.symm);have:=ih2 hv hn;rw[getD_set_ne true (Ne.symm hxi)];split;·rw[xbd,xbd,this]
       ·exact this
    have:=key _ xjk (xcm.2 ht);omega
   ·have e:(λk=>(listed.setIfInBounds i true).getD k false)=λk=>listed.getD k false||k == i:=by
     funext k;by_cases hki:k=i;·subst hki;simp[hs,ht]
     ·rw[getD_set_ne false (Ne.symm hki)];simp[hki]
    rw[e];exact h'
 refine wp_region_any hm ?_;have hp:∀(k:Nat) (d:Bool),k<ops.size->(Array.replicate ops.size false).getD k d=false:=λk d hk=>by simp[hk]
 have hh:((List.range ops.size).filter λk=>!(Array.replicate ops.size false).getD k true)=List.range ops.size:=by rw[xgn];intro k hk;rw[xcm]at hk;rw[hp k true hk];rfl
 refine key ops.size _ a _ (by simp) (by rw[hh,List.length_range]) ?_;have e:(λk=>(Array.replicate ops.size false).getD k false)=λ_=>false:=by
  funext k;by_cases hk:k<ops.size;·exact hp k false hk
  ·simp[hk]
 rw[e];exact h0
end
end Go.X
namespace Go.Proofs.YtamgmpngdmnadaaGreat
open Tryz
open Go Go.Proofs Go.RowKit Go.X
section
attribute [local go_sem] Oper.semAt_some
def FrC(gv ov:Value)(n k:Nat)(a:Act):Prop:=∃v:Nat->Value,a={tmps:=#[gv,v 1,v 2,ov,v 4,v 5,gv,.int .i64 (n:Int),.int .i64 (k:Int),v 9,v 10,v 11,v 12,v 13,v 14,v 15,v 16,v 17,v 18,v 19,v 20,v 21,v 22],defers:=[]}
def FrC.mk{gv ov:Value}{n k:Nat}{x1 x2 x4 x5 x9 x10 x11 x12 x13 x14 x15 x16 x17 x18 x19 x20 x21 x22:Value}:FrC gv ov n k {tmps:=#[gv,x1,x2,ov,x4,x5,gv,.int .i64 (n:Int),.int .i64 (k:Int),x9,x10,x11,x12,x13,x14,x15,x16,x17,x18,x19,x20,x21,x22],defers:=[]}:=⟨λk=>([undef,x1,x2,undef,x4,x5,undef,undef,undef,x9,x10,x11,x12,x13,x14,x15,x16,x17,x18,x19,x20,x21,x22]:List Value).getD k undef,rfl⟩
def FrC.elim{gv ov:Value}{n k:Nat}{a:Act}{P:Prop}(h:FrC gv ov n k a)(k:∀v:Nat->Value,a={tmps:=#[gv,v 1,v 2,ov,v 4,v 5,gv,.int .i64 (n:Int),.int .i64 (k:Int),v 9,v 10,v 11,v 12,v 13,v 14,v 15,v 16,v 17,v 18,v 19,v 20,v 21,v 22],defers:=[]}->P):P:=match h with | ⟨v,e⟩=>k v e
def Kp.refl(ob:Option Nat)(w:World):Kp ob w w:=⟨rfl,rfl,rfl,xag _,λ_ _ _=>rfl⟩
def Kp.trans{w w' w'':World}(h:Kp none w w')(k:Kp none w' w''):Kp none w w'':=
 ⟨k.os.trans h.os,k.tape.trans h.tape,k.output.trans h.output,xay h.size k.size,λb hb _=>(k.block b (xav hb h.size) (by simp)).trans (h.block b hb (by simp))⟩
def Kp.of_ext{w w':World}(h:Ext w w'):Kp none w w':=⟨h.os,h.tape,h.output,h.size,λb hb _=>h.block b hb⟩
def Kp.drew{w w':World}(h:Kp none w w'):Kp none w w'.drew:=⟨h.os,h.tape,h.output,h.size,λb hb k=>h.block b hb k⟩
def GR.keep{lo:Nat}{w w':World}{v:Value}{l:List El}(h:GR lo w v l)(hk:Kp none w w'):GR lo w' v l:=by obtain⟨⟨r1,r2⟩,h2,h3⟩:=h;refine⟨⟨r1,r2.imp id λ⟨g,cap,cur,e,b1,b2,rest⟩=>⟨g,cap,cur,e,b1,(hk.block g (xbm.1 b2).1 (by simp)).trans b2,rest⟩⟩,λq hq=>⟨(h2 q hq).1.same λb hb=>hk.block b ?_ (by simp),(h2 q hq).2⟩,h3⟩;have:=(h2 q hq).1;rw[hb]at this;exact this.lt
def zxg{P:Program}{o:Oper}{a:Act}{w w2:World}{K:Act->World->Prop}{Q:Exit->Act->World->Prop}(s x:Operand)(t:TypeId){v xv v2:Value}
  (ho:o.op=.call {callee:=.builtin .append,args:=#[s,x],argTypes:=#[t,t]}) (hs:a.eval s=v) (hx:a.eval x=xv) (hr:(Builtin.append_ #[t,t] o.type #[v,xv]).run P w=.ok v2 w2) (h:K (a.put o.dst v2) w2):o.wp P a w K Q:=by
 unfold Oper.wp execOp;simp only[ho,resolve,invoke,builtin,Sem.run_bind,Sem.run_pure,Result.andThen_ok,List.map_toArray,xdo,xfa,hs,hx,hr];exact h
def SLo.mono{lo lo':Nat}{w:World}{v:Value}{xs:List Int}{ob:Option Nat}(h:SLo lo w v xs ob)(hl:lo'<=lo):SLo lo' w v xs ob:=by
 cases ob with
 |none=>exact h
 |some b=>exact⟨h.1,xay hl h.2⟩
def cell_new2(W:World)(u v:Value)(t:TypeId):(W.alloc (.cells #[u,v] t)).cell? ⟨W.heap.size,0,none⟩=some u/\(W.alloc (.cells #[u,v] t)).cell? ⟨W.heap.size,1,none⟩=some v:=by unfold World.cell?;rw[World.alloc_heap_new];simp
def GR.row_lt{lo:Nat}{w:World}{v:Value}{l:List El}(h:GR lo w v l){b:Nat}(hb:v.ownBlock=some b):lo<=b/\b<w.heap.size:=by
 obtain⟨⟨_,r2⟩,_,_⟩:=h;rcases r2 with⟨rfl,_⟩|⟨g,cap,cur,rfl,b1,b2,_⟩
 ·cases hb
 ·have:g=b:=xbi hb;subst this;exact⟨b1,(xbm.1 b2).1⟩
def GR.old{lo:Nat}{w:World}{v:Value}{l:List El}(h:GR lo w v l){b:Nat}(hb:b∈l.filterMap (·.2.2)):b<w.heap.size:=by obtain⟨q,hq,e⟩:=xiv.1 hb;have:=(h.el q hq).1;rw[e]at this;exact this.lt
set_option maxRecDepth 100000 in
set_option maxHeartbeats 8000000 in
def clone_ok{W:World}{N:Nat}{gv:Value}{gs:List (List Int×Int)}(hg:RDv N W y64 gs gv)(hN:N<=W.heap.size)(hl:gs.length<=100000)(hp:∀g∈gs,g.1.length<=1000) :
  Calls prog 329 #[gv] W λe w'=>∃v,∃l:List El,e=.returned v/\l.map (·.1)=gs/\GR W.heap.size w' v l/\Kp none W w':=by
 have jv:∀c:Int,0<=c->c<=4294967296->IntKind.i64.wrap c=c:=λc h0 h1=>IntWalk.i64_in c ⟨by omega,by omega⟩;obtain⟨A,cap,rfl,ji,ha⟩:=grp_read hg;clear hg;go_enter func329,ntmps329;go_wp2;refine zkv (R:=λmm a w'=>∃k:Nat,k<=gs.length/\mm=gs.length-k/\∃ov,∃l:List El,l.map (·.1)=gs.take k/\GR W.heap.size w' ov l/\Kp none W w'/\FrC (.slice A gs.length cap) ov gs.length k a) (m:=gs.length) ?zfj ?init1;case init1=>exact⟨0,xbx _,by omega,.slice none 0 0,[],rfl,GR.nil _ _,Kp.refl _ _,FrC.mk⟩
 case zfj=>
  rintro mm a w' ⟨k,hk,rfl,ov,l,hle,hgr,hkp,hfr⟩;refine hfr.elim ?_;intro x jn;subst jn;rcases xeo k gs.length with hlt|hge
  ·have jk:(k:Int)<(gs.length:Int):=by omega
   have jy:(0:Int)<=(k:Int):=by omega
   obtain⟨b,o,rfl,jx,jf⟩:=ha.resolve_left λe=>by subst e;simp at hlt
   obtain⟨pv,c0,c1,jh,hy⟩:=jf k hlt;have h9:w'.heap[b]?=W.heap[b]?:=hkp.block b (by omega) (by simp);have c0':=zlf h9 c0;have c1':=zlf h9 c1;have jb:RDv N w' y26 gs[k].1 pv:=hy.same λc hc=>hkp.block c (by omega) (by simp);obtain⟨pa,pl,pc,rfl⟩:∃pa pl pc,pv=.slice pa pl pc:=by obtain⟨⟨_,_,a',l',c',h1,_⟩,_⟩:=hy;exact⟨a',l',c',by simpa[zab,Ty.agg]using h1⟩
   have j0:IntKind.i64.wrap ((k:Int)+1)=((k+1:Nat):Int):=by rw[jv _ (by omega) (by omega)];omega
   go_wp2;obtain⟨G,hu⟩:∃G,w'.heap.size=G:=⟨_,rfl⟩;obtain⟨n,hn⟩:∃n,gs[k].2=n:=⟨_,rfl⟩;obtain⟨xs,hz⟩:∃xs,gs[k].1=xs:=⟨_,rfl⟩;have jq:xs.length<=1000:=by rw[<-hz];exact hp _ (xbf hlt)
   have jm:gs.take (k+1)=gs.take k++[(xs,n)]:=by rw[xkj hlt,<-hz,<-hn]
   have jw:l.length=k:=by have:=xbr List.length hle;rw[xao,xax]at this;omega
   obtain⟨w1,hb⟩:∃w1,w'.alloc (.cells #[.slice pa pl pc,.int .i64 n] 77)=w1:=⟨_,rfl⟩;have jc:Kp none w' w1:=by rw[<-hb];exact Kp.of_ext (Ext.alloc _ _)
   have js:w1.heap[G]?=some (.cells #[.slice pa pl pc,.int .i64 n] 77 (0,0)):=by rw[<-hb,<-hu];exact heap_alloc_new _ _
   have jp:W.heap.size<=G:=by rw[<-hu];exact hkp.size
   have jr:∀c,ov.ownBlock=some c->c<G:=λc hc=>by rw[<-hu];exact(hgr.row_lt hc).2
   have jd:=hgr.keep jc;have ja:=hkp.trans jc;rw[hn,hu,hb];rw[hz]at hy;rw[hn]at jh;clear jb h9 c0 c1 c0' c1' jf ha hu hb hfr hgr hkp jc hn hz;refine region_inv zuo (J:=λD a w8=>Kp none W w8/\w8.heap[G]?=some (.cells #[.slice pa pl pc,.int .i64 n] 77 (0,0))/\∃y3 y12 y13 y14 y15 y16 y17 y18 y19 y20:Value,∃ob:Option Nat,
    (D 0=true->y12=ov)/\(D 1=true->y13=.pointer (some ⟨G,0,none⟩))/\(D 2=true->y14=.slice pa pl pc)/\(D 4=true->y16=.pointer (some ⟨G,1,none⟩))/\(D 5=true->y17=.int .i64 n) /\
    (D 6=true->y18=.agg #[y15,.int .i64 n])/\(D 7=true->D 8=false->∃g1,y19=.slice (some ⟨g1,0,none⟩) 1 1/\w8.cell? ⟨g1,0,none⟩=some y15/\w8.cell? ⟨g1,1,none⟩=some (.int .i64 n)) /\
    (D 8=false->GR W.heap.size w8 ov l)/\(D 3=true->D 8=false->SLo W.heap.size w8 y15 xs ob/\∀c,ob=some c->c∉l.filterMap (·.2.2)) /\
    (D 8=true->GR W.heap.size w8 y20 (l++[((xs,n),(y15,ob))]))/\(D 6=true->D 3=true)/\(D 7=true->D 6=true)/\(D 8=true->D 7=true/\D 0=true)/\(D 9=true->D 8=true)/\(D 9=false->y3=ov)/\(D 9=true->y3=y20) /\
    a={tmps:=#[.slice (some ⟨b,o,none⟩) gs.length cap,x 1,x 2,y3,x 4,.pointer (some ⟨G,0,none⟩),.slice (some ⟨b,o,none⟩) gs.length cap,.int .i64 (gs.length:Int),.int .i64 (k:Int),.bool true,.pointer (some ⟨b,o+k*2,none⟩),.agg #[.slice pa pl pc,.int .i64 n],y12,y13,y14,y15,y16,y17,y18,y19,y20,x 21,x 22],defers:=[]}) ?hac ?st ?fin ?h0
   case hac=>
    intro k o ho;rcases k with _|_|_|_|_|_|_|_|_|_|k<;>simp at ho<;>subst ho<;>simp
   case h0=>
    refine⟨ja.drew,js,_,_,_,_,_,_,_,_,_,_,none,?_,?_,?_,?_,?_,?_,?_,λ_=>jd.keep ((Kp.refl none w1).drew),?_,?_,?_,?_,?_,?_,λ_=>rfl,?_,rfl⟩<;>(intro h;cases h)
   case fin=>
    rintro D a w8 hall ⟨hE,hG,y3,y12,y13,y14,y15,y16,y17,y18,y19,y20,ob,h0,h1,h2,h4,h5,h6,h7,h8,h3,h8',m6,m7,m8,m9,hf,ht,rfl⟩;have hD:∀j,j<10->D j=true:=λj hj=>hall j (by simpa using hj);obtain rfl:=ht (hD 9 (by omega));have je:=h8' (hD 8 (by omega));go_wp2;rw[show(k:Int)+1=((k+1:Nat):Int) by omega];exact⟨gs.length-(k+1),by omega,k+1,hlt,rfl,_,_,by rw[xcc,hle,jm];rfl,je,FrC.mk⟩
   case st=>
    rintro D j o a w8 ho hDj hed ⟨hE,hG,y3,y12,y13,y14,y15,y16,y17,y18,y19,y20,ob,h0,h1,h2,h4,h5,h6,h7,h8,h3,h8',m6,m7,m8,m9,hf,ht,rfl⟩;have jz:w8.cell? ⟨G,0,none⟩=some (.slice pa pl pc):=by simp[World.cell?,hG]
    have j1:w8.cell? ⟨G,1,none⟩=some (.int .i64 n):=by simp[World.cell?,hG]
    have no:∀{p q:Nat},(D q=true->D p=true)->D p=false->D q=false:=λ{p q} h e=>by
     cases hq:D q with
     |false=>rfl
     |true=>rw[h hq]at e;cases e
    rcases j with _|_|_|_|_|_|_|_|_|_|j<;>simp at ho<;>subst ho
    ·obtain rfl:=hf (no m9 (no (λh=>(m8 h).2) hDj));refine wpk λK hK=>?_;go_simp;refine hK _ _ ?_;simp only[xck,Nat.reduceAdd,Nat.reduceBEq,xby,xcb];exact⟨hE,hG,_,_,_,_,_,_,_,_,_,_,ob,λ_=>rfl,h1,h2,h4,h5,h6,h7,h8,h3,h8',m6,m7,λh=>⟨(m8 h).1,by trivial⟩,m9,hf,ht,rfl⟩
    ·refine wpk λK hK=>?_;go_simp;refine hK _ _ ?_;simp only[xck,Nat.reduceAdd,Nat.reduceBEq,xby,xcb];exact⟨hE,hG,_,_,_,_,_,_,_,_,_,_,ob,h0,λ_=>rfl,h2,h4,h5,h6,h7,h8,h3,h8',m6,m7,m8,m9,hf,ht,rfl⟩
    ·simp only[xeh,xgq,xar,xdj,xhb,xgo,xjq]at hed;obtain rfl:=h1 (hed rfl);refine wpk λK hK=>?_;go_simp;refine hK _ _ ?_;simp only[xck,Nat.reduceAdd,Nat.reduceBEq,xby,xcb];exact⟨hE,hG,_,_,_,_,_,_,_,_,_,_,ob,h0,h1,λ_=>rfl,h4,h5,h6,h7,h8,h3,h8',m6,m7,m8,m9,hf,ht,rfl⟩
    ·simp only[xeh,xgq,xar,xdj,xhb,xgo,xjq]at hed;obtain rfl:=h2 (hed rfl);have hd:=no (λh=>(m8 h).1) (no m7 (no m6 hDj));have hh:=no m7 (no m6 hDj);have hi:=no m6 hDj;refine wpk λK hK=>?_;go_simp;refine(cln_ok (hy.same λc hc=>hE.block c (by omega) (by simp)) (xay hN hE.size) jq).mono ?_;rintro e w9 ⟨v',ob',rfl,hs,hk⟩;refine hK _ _ ?_;simp only[xck,Nat.reduceAdd,Nat.reduceBEq,xby,xcb];exact⟨hE.trans hk,(hk.block G (xbm.1 hG).1 (by simp)).trans hG,_,_,_,_,_,_,_,_,_,_,ob',h0,h1,h2,h4,h5,(λh=>by rw[hi]at h;cases h),(λh=>by rw[hh]at h;cases h),λh=>(h8 h).keep hk,λ_ _=>⟨hs.mono hE.size,λc hc hm=>by subst hc;have:=(h8 hd).old hm;have:=hs.2;omega⟩,(λh=>by rw[hd]at h;cases h),λ_=>by trivial,m7,m8,m9,hf,ht,rfl⟩
    ·refine wpk λK hK=>?_;go_simp;refine hK _ _ ?_;simp only[xck,Nat.reduceAdd,Nat.reduceBEq,xby,xcb];exact⟨hE,hG,_,_,_,_,_,_,_,_,_,_,ob,h0,h1,h2,λ_=>rfl,h5,h6,h7,h8,h3,h8',m6,m7,m8,m9,hf,ht,rfl⟩
    ·simp only[xeh,xgq,xar,xdj,xhb,xgo,xjq]at hed;obtain rfl:=h4 (hed rfl);refine wpk λK hK=>?_;go_simp;refine hK _ _ ?_;simp only[xck,Nat.reduceAdd,Nat.reduceBEq,xby,xcb];exact⟨hE,hG,_,_,_,_,_,_,_,_,_,_,ob,h0,h1,h2,h4,λ_=>rfl,h6,h7,h8,h3,h8',m6,m7,m8,m9,hf,ht,rfl⟩
    ·simp only[xeh,xgq,xar,xdj,xhb,xgo,xjq]at hed;have hw:=hed.1 rfl;obtain rfl:=h5 (hed.2 rfl);obtain⟨ya,yl,yc,rfl⟩:=(h3 hw (no (λh=>(m8 h).1) (no m7 hDj))).1.slice;refine wpk λK hK=>?_;go_simp;refine hK _ _ ?_;simp only[xck,Nat.reduceAdd,Nat.reduceBEq,xby,xcb];exact⟨hE,hG,_,_,_,_,_,_,_,_,_,_,ob,h0,h1,h2,h4,h5,λ_=>rfl,h7,h8,h3,h8',λ_=>hw,λ_=>by trivial,m8,m9,hf,ht,rfl⟩
    ·simp only[xeh,xgq,xar,xdj,xhb,xgo,xjq]at hed;have hi:=hed rfl;obtain rfl:=h6 hi;have hd:=no (λh=>(m8 h).1) hDj;have hs:=h3 (m6 hi) hd;obtain⟨ya,yl,yc,rfl⟩:=hs.1.slice;have hx:=Ext.alloc w8 (.cells #[.slice ya yl yc,.int .i64 n] 77);have hk:=Kp.of_ext hx;refine wpk λK hK=>?_;go_simp;refine hK _ _ ?_;simp only[xck,Nat.reduceAdd,Nat.reduceBEq,xby,xcb];exact⟨hE.trans hk,(hk.block G (xbm.1 hG).1 (by simp)).trans hG,_,_,_,_,_,_,_,_,_,_,ob,h0,h1,h2,h4,h5,h6,λ_ _=>⟨_,rfl,cell_new2 w8 _ _ 77⟩,λh=>(h8 h).keep hk,λ_ _=>⟨hs.1.same λc hc=>hk.block c (by subst hc;exact hs.1.lt) (by simp),hs.2⟩,(λh=>by rw[hd]at h;cases h),m6,λ_=>hi,λh=>⟨by trivial,(m8 h).2⟩,m9,hf,ht,rfl⟩
    ·simp only[xeh,xgq,xar,xdj,xhb,xgo,xjq]at hed;have hh:=hed.2.1 rfl;have jg:=hed.1 rfl;obtain rfl:=h0 jg;have hw:=m6 (m7 hh);obtain⟨g1,rfl,e0,e1⟩:=h7 hh hDj;have hs:=h3 hw hDj;have hv:=h8 hDj;obtain⟨v2,w2,hr,je,he⟩:=gr_append hv ((xs,n),(y15,ob)) ⟨hs.1,jh⟩ hs.2 e0 e1 hE.size (by omega);have jl:∀c,y12.ownBlock=some c->W.heap.size<=c:=λc hc=>(hv.row_lt hc).1;have jt:Kp none W w2:=⟨he.os.trans hE.os,he.tape.trans hE.tape,he.output.trans hE.output,xay hE.size he.size,λc hc _=>(he.block c (xav hc hE.size) (λe=>by have:=jl c e.symm;omega)).trans (hE.block c hc (by simp))⟩;have jj:=(he.block G (xbm.1 hG).1 (λe=>by have:=jr G e.symm;omega)).trans hG;refine wpk λK hK=>zxg (.tmp 12) (.tmp 19) 64 rfl rfl rfl hr ?_;refine hK _ _ ?_;simp only[xck,Nat.reduceAdd,Nat.reduceBEq,xby,xcb];exact⟨jt,jj,_,_,_,_,_,_,_,_,_,_,ob,h0,h1,h2,h4,h5,h6,(λ_ h=>by cases h),(λh=>by cases h),(λ_ h=>by cases h),λ_=>je,m6,m7,λ_=>⟨hh,jg⟩,λ_=>by trivial,hf,(λh=>by have h1:=m9 h;have h2:D 8=false:=hDj;rw[h2]at h1;cases h1),rfl⟩
    ·simp only[xeh,xgq,xar,xdj,xhb,xgo,xjq]at hed;have hd:=hed.1 rfl;obtain rfl:=h0 (m8 hd).2;refine wpk λK hK=>?_;go_simp;refine hK _ _ ?_;simp only[xck,Nat.reduceAdd,Nat.reduceBEq,xby,xcb];exact⟨hE,hG,_,_,_,_,_,_,_,_,_,_,ob,h0,h1,h2,h4,h5,h6,h7,h8,h3,h8',m6,m7,m8,λ_=>hd,(λh=>by cases h),λ_=>rfl,rfl⟩
  ·have jo:¬(k:Int)<(gs.length:Int):=by omega
   have ju:k=gs.length:=by omega
   subst ju;go_wp2;go_ret;exact⟨_,rfl,l,by rw[hle,xaz],hgr,hkp⟩
end
def ztl{l:List El}:(l.filterMap (·.2.2)).Nodup↔∀(i j:Nat) (hi:i<l.length) (hj:j<l.length),i<j->∀b,l[i].2.2=some b->l[j].2.2≠some b:=by
 unfold List.Nodup;rw[List.pairwise_filterMap,xex];constructor;·intro h i j hi hj ha b h1 h2;exact h i j hi hj ha b h1 b h2 rfl
 ·intro h i j hi hj ha b h1 b' h2 e;subst e;exact h i j hi hj ha b h1 h2
def flat_set:∀(l:List El) (k:Nat) (hk:k<l.length) (v:Value) (ys:List Int) (ob:Option Nat),(l.flatMap elC).set (k*2) v=(l.set k ((ys,l[k].1.2),(v,ob))).flatMap elC
 | [],k,hk,_,_,_=>by simp at hk
 |q::l,0,_,v,ys,ob=>by simp[xdb,elC]
 |q::l,k+1,hk,v,ys,ob=>by
  have hk':k<l.length:=by simpa using hk
  have:=flat_set l k hk' v ys ob;rw[xdb,List.set_cons_succ,xdb,xjn,<-this];have e:(k+1)*2=k*2+1+1:=by omega
  rw[e];simp[elC]
def row_same{lo:Nat}{w w':World}{v:Value}{n:Nat}{rows:List Value}(h:w.ownsRow lo 77 2 v n rows)(hb:∀g,v.ownBlock=some g->w'.heap[g]?=w.heap[g]?):w'.ownsRow lo 77 2 v n rows:=by obtain⟨r1,r2⟩:=h;refine⟨r1,r2.imp id λ⟨g,cap,cur,e,b1,b2,rest⟩=>⟨g,cap,cur,e,b1,(hb g (by rw[e];rfl)).trans b2,rest⟩⟩
def GR.slice{lo:Nat}{w:World}{v:Value}{l:List El}(h:GR lo w v l):∃A c,v=.slice A l.length c:=by
 obtain⟨⟨_,r2⟩,_,_⟩:=h;rcases r2 with⟨rfl,hz⟩|⟨g,cap,cur,rfl,_⟩
 ·exact⟨none,0,by rw[hz]⟩
 ·exact⟨_,_,rfl⟩
def GR.dis_ne{lo:Nat}{w:World}{v:Value}{l:List El}(h:GR lo w v l){i k b:Nat}(hi:i<l.length)(hk:k<l.length)(hne:i≠k)(hb:l[i].2.2=some b):l[k].2.2≠some b:=λhc=>by
 have hd:=ztl.1 h.dis;rcases Nat.lt_or_gt_of_ne hne with hlt|hlt
 ·exact hd i k hi hk hlt b hb hc
 ·exact hd k i hk hi hlt b hc hb
def GR.set{lo:Nat}{w w':World}{g cap:Nat}{l:List El}(h:GR lo w (.slice (some ⟨g,0,none⟩) l.length cap) l){k:Nat}(hk:k<l.length){v':Value}{ys:List Int}{ob':Option Nat}(hs:SLo lo w' v' ys ob')
  (hnew:∀b,ob'=some b->l[k].2.2=some b\/w.heap.size<=b) (hkp:Kp l[k].2.2 w w') :
  GR lo (w'.setCell ⟨g,k*2,none⟩ v') (.slice (some ⟨g,0,none⟩) l.length cap) (l.set k ((ys,l[k].1.2),(v',ob')))/\w'.grownBy (w'.setCell ⟨g,k*2,none⟩ v') (some g):=by
 have hn:g<w.heap.size:=(h.row_lt rfl).2;have hl:l[k].2.2≠some g:=λe=>by have:=(h.el _ (xbf hk)).1;rw[e]at this;exact row_ne h.row this rfl
 have hg:=row_same h.row (w':=w') λc hc=>by have:g=c:=xbi hc;subst this;exact hkp.block g hn hl
 obtain⟨s1,s2⟩:=hg.stored (k*2) v';rw[flat_set l k hk v' ys ob']at s1;have hd:∀i (hi:i<l.length),i≠k->∀b,l[i].2.2=some b->(w'.setCell ⟨g,k*2,none⟩ v').heap[b]?=w.heap[b]?:=λi hi hne b hb=>by
  have hf:=(h.el _ (xbf hi)).1;rw[hb]at hf;have ho:b≠g:=λe=>by subst e;exact row_ne h.row hf rfl
  rw[heap_setCell_other w' ⟨g,k*2,none⟩ b v' ho];exact hkp.block b hf.lt (h.dis_ne hi hk hne hb)
 refine⟨⟨by rw[xcd];exact s1,λq hq=>?_,?_⟩,s2⟩
 ·obtain⟨i,hi,rfl⟩:=xdi hq;have ha:i<l.length:=by simpa using hi
  by_cases hik:i=k
  ·subst hik;rw[xfo];refine⟨hs.same λb hb=>?_,(h.el _ (xbf ha)).2⟩;refine heap_setCell_other w' ⟨g,i*2,none⟩ b v' λe=>?_;have e':b=g:=e;rcases hnew b hb with h1|h1
   ·exact hl (e'▸h1)
   ·omega
  ·rw[xfh (λe=>hik e.symm)];exact⟨(h.el _ (xbf ha)).1.same λb hb=>hd i ha hik b hb,(h.el _ (xbf ha)).2⟩
 ·refine ztl.2 λi j hi hj hij b h1 h2=>?_;have ha:i<l.length:=by simpa using hi
  have he:j<l.length:=by simpa using hj
  have hh:∀m (hm:m<l.length),l[m].2.2=some b->b<w.heap.size:=λm hm e=>h.old (xiv.2 ⟨l[m],xbf hm,e⟩);by_cases hik:i=k
  ·subst hik;rw[xfo]at h1;rw[xfh (by omega)]at h2;rcases hnew b h1 with h3|h3
   ·exact ztl.1 h.dis i j ha he hij b h3 h2
   ·have:=hh j he h2;omega
  ·rw[xfh (λe=>hik e.symm)]at h1;by_cases hjk:j=k
   ·subst hjk;rw[xfo]at h2;rcases hnew b h2 with h3|h3
    ·exact ztl.1 h.dis i j ha he hij b h1 h3
    ·have:=hh i ha h1;omega
   ·rw[xfh (λe=>hjk e.symm)]at h2;exact ztl.1 h.dis i j ha he hij b h1 h2
def any_ok{W:World}{N:Nat}{gv:Value}{gs:List (List Int×Int)}{b:Bool}(hg:RDv N W y64 gs gv)(hN:N<=W.heap.size)(hd:d146 gs=some b) :
  Calls prog 146 #[gv] W λe w'=>e=.returned (.bool b)/\Kp none W w':=by
 refine Calls.mono (sim146.2 (gs,()) b hd (stF (λc=>c<N) W) (stF_wf λb hb=>xav hb hN) [gv] rfl λi e he=>?_) λe w' ⟨v',S4,h1,h2,h3,h4,_⟩=>?_
 ·match i,he with
  | 0,he=>cases he;exact⟨_,rfl,hg⟩
  |i+1,he=>cases he
 ·subst h2;have h5:SR prog y4 S4 .sh (0,[0]) b v':=h4;have h6:v'=.bool b:=by have:=h5.1;simpa[zab,Ty.agg,Rel]using this
  subst h6;exact⟨h1,h3.os,h3.tape,h3.output,h3.size,λb hb _=>h3.kept b hb rfl⟩
def zoa:∀(l:List El) (k:Nat) (hk:k<l.length),(l.flatMap elC)[k*2]?=some l[k].2.1/\(l.flatMap elC)[k*2+1]?=some (.int .i64 l[k].1.2)
 | [],k,hk=>by simp at hk
 |q::l,0,_=>by simp[xdb,elC]
 |q::l,k+1,hk=>by
  have hk':k<l.length:=by simpa using hk
  have:=zoa l k hk';have e:(k+1)*2=k*2+1+1:=by omega
  rw[xdb,e,xjn];simpa[elC]using this
def rel_grp{S:St}{p:X.Place}{lo:Nat}{sv:Value}{xs:List Int}{n:Int}{ob:Option Nat}{cs:Cs}(h0:cs 0=some sv)(h1:cs 1=some (.int .i64 n))(hs:SLo lo S.w sv xs ob)(hn:wI n)(hF:∀b,ob=some b->S.F b):Rel prog y77 S .sh p (xs,n) cs:=by
 refine⟨?_,h1,hn⟩;cases ob with
 |none=>
  obtain⟨rfl,rfl⟩:=hs;exact⟨by simp[zpf],by simp[Ty.size],none,0,0,h0,rfl,xag _,.inl ⟨rfl,rfl⟩⟩
 |some b=>
  obtain⟨⟨k1,k2,cap,cur,rfl,k4,k5,k6,k7,k8⟩,_⟩:=hs;refine⟨xay k1 (by decide),by simp[Ty.size],some ⟨b,0,none⟩,_,cap,h0,rfl,k4,.inr ⟨b,0,rfl,λ_=>.inl (hF b rfl),λi hi=>⟨?_,k2 _ (xbf hi)⟩⟩⟩;have:=k8 i hi;simp[blk,Ty.size,World.cell?,k7,this]
def gr_rel{lo:Nat}{S:St}{v:Value}{l:List El}(h:GR lo S.w v l){p:X.Place}(hv:S.hv p=v)(ho:∀g,v.ownBlock=some g->S.own g=some p)(hF:∀b,b∈l.filterMap (·.2.2)->S.F b)(hl:l.length<=100000):SR prog y64 S (.own 77 .sh) p (l.map (·.1)) v:=by
 refine⟨⟨by rw[xao];exact xay hl (by decide),by decide,by rw[hv];simp[zab,Ty.agg],?_⟩,λh=>by cases h⟩;obtain⟨r1,r2⟩:=h.row;rcases r2 with⟨rfl,hz⟩|⟨g,cap,cur,rfl,r2,r3,r4,r5,r6,r7⟩
 ·have:l=[]:=xec.1 hz;subst this;exact .inl ⟨hv,rfl⟩
 ·refine .inr ⟨g,cap,cur,by rw[hv,xao],ho g rfl,r3,by rw[xao];exact r4,r5,by rw[r6];rfl,λi hi=>?_⟩;have ha:i<l.length:=by simpa using hi
  have hc:∀j,j<2->cur[i*2+j]?=(l.flatMap elC)[i*2+j]?:=λj hj=>by
   have:i*2+j<l.length*2:=by omega
   rw[<-r7,xdv,if_pos this,xbe]
  have h0:=(hc 0 (by omega)).trans (zoa l i ha).1;have h1:=(hc 1 (by omega)).trans (zoa l i ha).2;rw[List.getElem_map];have hq:=h.el _ (xbf ha);refine rel_grp (sv:=l[i].2.1) ?_ ?_ hq.1 hq.2 λb hb=>hF b (xiv.2 ⟨l[i],xbf ha,hb⟩);·simpa[Ty.size]using h0
  ·simpa[Ty.size]using h1
def OR(lo:Nat)(S4:St)(ys:List (List Int×Int))(v:Value):Prop:=S4.WF/\SR prog y64 S4 (.own 77 .sh) (0,[0]) ys v/\(∀b,S4.F b->lo<=b)/\(∀b,¬S4.B b)/\∀b p,S4.own b=some p->lo<=b
def frm_wf{S S':St}(h:Frm S S')(hB:∀b,¬S.B b):S'.WF:=⟨λb hb=>⟨(h.shared b hb).1,(h.shared b hb).2.1⟩,λb hb=>(hB b (h.B▸hb)).elim,λb p hb=>(h.owned b p hb).1⟩
def merge_ok{lo:Nat}{W:World}{v:Value}{l:List El}{ys:List (List Int×Int)}(h:GR lo W v l)(hlo:lo<=W.heap.size)(hl:l.length<=100000)(hd:d79 (l.map (·.1))=some ys) :
  Calls prog 79 #[v] W λe w'=>∃v' S4,e=.returned v'/\S4.w=w'/\OR lo S4 ys v'/\w'.os=W.os/\w'.tape=W.tape/\w'.output=W.output/\W.heap.size<=w'.heap.size/\∀b,b<lo->w'.heap[b]?=W.heap[b]?:=by
 let S0:St:=⟨W,λb=>b∈l.filterMap (·.2.2),λ_=>False,λb=>if v.ownBlock=some b then some (0,[])else none,λ_=>v⟩;have hj:=h.row;have hc:∀b,b∈l.filterMap (·.2.2)->lo<=b/\b<W.heap.size/\v.ownBlock≠some b:=λb hb=>by obtain⟨q,hq,e⟩:=xiv.1 hb;have hs:=(h.el q hq).1;rw[e]at hs;exact⟨hs.2,hs.lt,row_ne h.row hs⟩
 have ha:∀b p,S0.own b=some p->v.ownBlock=some b:=λb p hb=>by
  have hh:(if v.ownBlock=some b then some ((0,[]):X.Place)else none)=some p:=hb;split at hh;·assumption
  ·cases hh
 have hi:S0.WF:=⟨λb hb=>⟨if_neg (hc b hb).2.2,(hc b hb).2.1⟩,λb hb=>hb.elim,λb p hb=>(h.row_lt (ha b p hb)).2⟩;have hf:∀b,S0.own b≠none->lo<=b:=λb hb=>by
  cases e:S0.own b with
  |none=>exact absurd e hb
  |some p=>exact(h.row_lt (ha b p e)).1
 refine Calls.mono (sim79.2 ((l.map (λq:El=>q.1):List (List Int×Int)),()) ys hd S0 hi [v] rfl λi e he=>?_) λe w' ⟨v',S4,h1,h2,h3,h4,_⟩=>?_
 ·match i,he with
  | 0,he=>cases he;exact⟨_,rfl,gr_rel (S:=S0) h rfl (λg hg=>if_pos hg) (λb hb=>hb) hl⟩
  |i+1,he=>cases he
 ·subst h2;refine⟨v',S4,h1,rfl,⟨frm_wf h3 (λ_ h=>h),h4,λb hb=>?_,λb hb=>?_,λb p hb=>?_⟩,h3.os,h3.tape,h3.output,h3.size,λb hb=>h3.kept b (xav hb hlo) ?_⟩
  ·rcases(h3.shared b hb).2.2 with h|h|h
   ·exact(hc b h).1
   ·exact xay hlo h
   ·exact hf b h
  ·rw[h3.B]at hb;exact hb
  ·rcases(h3.owned b p hb).2 with h|h
   ·exact xay hlo h
   ·exact hf b h
  ·refine if_neg λe=>?_;have:=(h.row_lt e).1;omega
section
attribute [local go_sem] Oper.semAt_some
def FrX3(gv rv:Value)(B:Nat)(u:Value)(n k:Nat)(a:Act):Prop:=∃v:Nat->Value,a={tmps:=#[gv,rv,v 2,.pointer (some ⟨B,0,none⟩),.slice none 0 0,u,v 6,v 7,v 8,v 9,v 10,v 11,u,.int .i64 (n:Int),.int .i64 (k:Int),v 15,v 16,v 17,v 18,v 19,v 20,v 21,v 22,v 23,v 24,v 25,v 26,v 27,v 28,v 29,v 30],defers:=[]}
def FrX3.mk{gv rv:Value}{B:Nat}{u:Value}{n k:Nat}{x2 x6 x7 x8 x9 x10 x11 x15 x16 x17 x18 x19 x20 x21 x22 x23 x24 x25 x26 x27 x28 x29 x30:Value}:FrX3 gv rv B u n k {tmps:=#[gv,rv,x2,.pointer (some ⟨B,0,none⟩),.slice none 0 0,u,x6,x7,x8,x9,x10,x11,u,.int .i64 (n:Int),.int .i64 (k:Int),x15,x16,x17,x18,x19,x20,x21,x22,x23,x24,x25,x26,x27,x28,x29,x30],defers:=[]}:=⟨λk=>([undef,undef,x2,undef,undef,undef,x6,x7,x8,x9,x10,x11,undef,undef,undef,x15,x16,x17,x18,x19,x20,x21,x22,x23,x24,x25,x26,x27,x28,x29,x30]:List Value).getD k undef,rfl⟩
def FrX3.elim{gv rv:Value}{B:Nat}{u:Value}{n k:Nat}{a:Act}{P:Prop}(h:FrX3 gv rv B u n k a)(k:∀v:Nat->Value,a={tmps:=#[gv,rv,v 2,.pointer (some ⟨B,0,none⟩),.slice none 0 0,u,v 6,v 7,v 8,v 9,v 10,v 11,u,.int .i64 (n:Int),.int .i64 (k:Int),v 15,v 16,v 17,v 18,v 19,v 20,v 21,v 22,v 23,v 24,v 25,v 26,v 27,v 28,v 29,v 30],defers:=[]}->P):P:=match h with | ⟨v,e⟩=>k v e
def mapOp{α β:Type}(f:α->Option β):List α->Option (List β)
 | []=>some []
 |x::l=>(f x).bind λy=>(mapOp f l).bind λr=>some (y::r)
def mapOp_get{α β:Type}{f:α->Option β}:∀{l:List α} {ys:List β},mapOp f l=some ys->∃h:ys.length=l.length,∀i (hi:i<l.length),f l[i]=some (ys[i]'(by omega))
 | [],ys,h=>by cases h;exact⟨rfl,λi hi=>by simp at hi⟩
 |x::l,ys,h=>by
  unfold mapOp at h;cases hx:f x with
  |none=>rw[hx]at h;cases h
  |some y=>
   rw[hx,xaa]at h;cases hr:mapOp f l with
   |none=>rw[hr]at h;cases h
   |some r=>
    rw[hr,xaa]at h;cases h;obtain⟨e,hh⟩:=mapOp_get hr;refine⟨by simp[e],λi hi=>?_⟩;cases i with
    |zero=>exact hx
    |succ i=>exact hh i (by simpa using hi)
noncomputable def subO (gs:List (List Int×Int)) (rem:List Bool):Option (List (List Int×Int)):=mapOp (λg=>(d171 g.1 (λp=>d330 p rem)).bind λx=>some (x,g.2)) gs
open Classical in
noncomputable def d323 (gs:List (List Int×Int)) (rem:List Bool):Option (List (List Int×Int)):=
 if gs.length<=100000/\∀g∈gs,g.1.length<=1000 then (d146 gs).bind λb=>bif b then(subO gs rem).bind λys=>if∀y∈ys,y.1.length<=1000 then d79 ys else none else some []else none
def set_step{α:Type}(ys gs:List α)(k:Nat)(hk:k<gs.length)(hy:k<ys.length)(z:α)(hz:ys[k]=z):(ys.take k++gs.drop k).set k z=ys.take (k+1)++gs.drop (k+1):=by
 have hl:(ys.take k).length=k:=by rw[xax];omega
 rw[xfn (h:=by omega),hl,xen,xey hk,List.set_cons_zero,xkj hy,hz,xbv];rfl
set_option maxRecDepth 100000 in
set_option maxHeartbeats 8000000 in
def restrict_ok{W:World}{gv rv:Value}{gs:List (List Int×Int)}{rem:List Bool}{zs:List (List Int×Int)}(hg:RDv W.heap.size W y64 gs gv)(hr:RDv W.heap.size W y49 rem rv)(hd:d323 gs rem=some zs) :
  Calls prog 323 #[gv,rv] W λe w'=>∃v' S4,e=.returned v'/\S4.w=w'/\OR W.heap.size S4 zs v'/\Kp none W w':=by
 have js:∀c:Int,0<=c->c<=4294967296->IntKind.i64.wrap c=c:=λc h0 h1=>IntWalk.i64_in c ⟨by omega,by omega⟩;unfold d323 at hd;split at hd;case isFalse=>cases hd
 rename_i jd;obtain⟨hl,hp⟩:=jd;cases hany:d146 gs with
 |none=>rw[hany]at hd;cases hd
 |some b=>
 rw[hany,xaa]at hd;obtain⟨A,cap,rfl,hv,hh⟩:=grp_read hg;obtain⟨ra,rl,rc,rfl⟩:∃ra rl rc,rv=.slice ra rl rc:=by obtain⟨⟨_,_,a',l',c',h1,_⟩,_⟩:=hr;exact⟨a',l',c',by simpa[zab,Ty.agg]using h1⟩
 clear hh hv;obtain⟨W0,hz⟩:∃W0,W.alloc (.cells #[.slice ra rl rc] 49)=W0:=⟨_,rfl⟩;have hn:Kp none W W0:=by rw[<-hz];exact Kp.of_ext (Ext.alloc _ _)
 have hw:W0.cell? ⟨W.heap.size,0,none⟩=some (.slice ra rl rc):=by rw[<-hz];unfold World.cell?;rw[World.alloc_heap_new];simp
 have jv:W0.heap.size=W.heap.size+1:=by rw[<-hz];exact World.size_alloc _ _
 have h5:CL W.heap.size W0 (.func (.func 330) #[] #[.pointer (some ⟨W.heap.size,0,none⟩)]) rem:=⟨rfl,by omega,_,hw,hr.same λc hc=>hn.block c hc (by simp)⟩;have jn:RDv W.heap.size W0 y64 gs (.slice A gs.length cap):=hg.same λc hc=>hn.block c hc (by simp);have ha:=any_ok jn hn.size hany;obtain⟨B,hB⟩:∃B,W.heap.size=B:=⟨_,rfl⟩;go_enter func323,ntmps323;cases b with
 |false=>obtain rfl:=xbi hd;go_wp2_with (go_at_call 146;refine ha.mono ?_;rintro e w1 ⟨rfl,hk1⟩);go_ret;exact⟨_,⟨w1,λ_=>False,λ_=>False,λ_=>none,λ_=>.slice none 0 0⟩,rfl,rfl,⟨⟨λb hb=>hb.elim,λb hb=>hb.elim,λb p hb=>by cases hb⟩,⟨⟨by simp[zpf],by decide,by simp[zab,Ty.agg],.inl ⟨rfl,rfl⟩⟩,λh=>by cases h⟩,λb hb=>hb.elim,λb hb=>hb,λb p hb=>by cases hb⟩,hn.trans hk1⟩
 |true=>
  rw[xab]at hd;cases hsub:subO gs rem with
  |none=>rw[hsub]at hd;cases hd
  |some ys=>
  rw[hsub,xaa]at hd;split at hd;case isFalse=>cases hd
  rename_i jp;obtain⟨jx,jq⟩:=mapOp_get hsub;go_wp2_with (first
   |(go_at_call 146;refine ha.mono ?_;rintro e w1 ⟨rfl,hk1⟩;have hm:=hn.trans hk1;have je:=clone_ok (hg.same λc hc=>hm.block c hc (by simp)) hm.size hl hp)
   |(go_at_call 329;refine je.mono ?_;rintro e w2 ⟨v,l,rfl,hle,hgr,hk2⟩;have hi:l.length=gs.length:=(by rw[<-hle,xao]);obtain⟨A2,c2,h8⟩:=hgr.slice;rw[hi]at h8;subst h8))
  refine zkv (R:=λmm a w'=>∃k:Nat,k<=gs.length/\mm=gs.length-k/\∃l:List El,l.length=gs.length/\l.map (·.1)=ys.take k++gs.drop k/\GR w1.heap.size w' (.slice A2 gs.length c2) l/\Kp none W0 w'/\w1.heap.size<=w'.heap.size/\FrX3 (.slice A gs.length cap) (.slice ra rl rc) B (.slice A2 gs.length c2) gs.length k a) (m:=gs.length) ?zfj ?init1;case init1=>exact⟨0,xbx _,by omega,l,hi,by rw[hle];rfl,hgr,hk1.trans hk2,hk2.size,FrX3.mk⟩
  case zfj=>
   have h6:=hk1.size;generalize w1.heap.size=lo at hgr h6 ⊢;clear hgr hle hk2 je ha hm hk1 hi;clear w2 w1 l;rintro mm a w' ⟨k,hk,rfl,l,hi,hle,hgr,hkp,hlw,hfr⟩;refine hfr.elim ?_;intro x jl;subst jl;rcases xeo k gs.length with hlt|hge
   ·have jg:(k:Int)<(gs.length:Int):=by omega
    have jh:(0:Int)<=(k:Int):=by omega
    have jw:IntKind.i64.wrap ((k:Int)+1)=((k+1:Nat):Int):=by rw[js _ (by omega) (by omega)];omega
    obtain⟨g,rfl⟩:∃g,A2=some ⟨g,0,none⟩:=by
     rcases hgr.row.2 with⟨h1,h2⟩|⟨g,_,_,h1,_⟩
     ·omega
     ·exact⟨g,(Value.slice.inj h1).1⟩
    have ht:k<l.length:=by omega
    have hf:GR lo w' (.slice (some ⟨g,0,none⟩) l.length c2) l:=by rw[hi];exact hgr
    obtain⟨q,hq⟩:∃q,l[k]=q:=⟨_,rfl⟩;obtain⟨⟨qx,qn⟩,qv,qo⟩:=q;have hu:=hgr.el _ (xbf ht);rw[hq]at hu;obtain⟨sa,sl,sc,h9⟩:=hu.1.slice;dsimp only at h9;subst h9;have jc:w'.cell? ⟨g,k*2,none⟩=some (.slice sa sl sc):=by have:=hf.row.cellAt (k*2) (by omega);rw[this,(zoa l k ht).1,hq]
    have jf:gs[k]=(qx,qn):=by
     have h1:(l.map (·.1))[k]?=some (qx,qn):=by rw[xci,xaj ht,hq];rfl
     rw[hle,xde (by rw[xax];omega),xix,xax,xfm (by omega),xen,xdl,xaj hlt]at h1;exact xbi h1
    have hs:=jq k hlt;rw[jf]at hs;dsimp only at hs;cases hd1:d171 qx (λp=>d330 p rem)with
    |none=>rw[hd1]at hs;cases hs
    |some zx=>
    rw[hd1,xaa]at hs;have h7:ys[k]'(by omega)=(zx,qn):=(xbi hs).symm;have ji:zx.length<=1000:=by have:=jp _ (xbf (show k<ys.length by omega));rw[h7]at this;exact this
    have jt:=hkp.size;have jk:CL B w' (.func (.func 330) #[] #[.pointer (some ⟨B,0,none⟩)]) rem:=by rw[<-hB];exact h5.same hkp.size λc hc=>hkp.block c (by omega) (by simp)
    have hy:=del_ok (lo:=lo) hu.1 (N:=B) (by omega) (by have:=(hgr.row_lt rfl);omega) jk hd1 ji;go_wp2_with (go_at_call 171;refine hy.mono ?_;rintro e w9 ⟨v',ob',rfl,hs9,hn9,hk9⟩;obtain⟨za,zl,zc,rfl⟩:=hs9.slice;have hj:=hf.set ht hs9 (by rw[hq];exact hn9) (by rw[hq];exact hk9);have jj:qo≠some g:=(λe=>by have:=hu.1;dsimp only at this;rw[e]at this;exact row_ne hgr.row this rfl);have he:=row_same hf.row (w':=w9) (λc hc=>by have:g=c:=Option.some.inj hc;subst this;exact hk9.block g (hgr.row_lt rfl).2 jj);have jb:(w9.cell? ⟨g,k*2,none⟩).isSome=true:=(by rw[he.cellAt (k*2) (by omega),(zoa l k ht).1];rfl);have ju:=he.frozenAt (k*2);obtain⟨u9,jb⟩:=Option.isSome_iff_exists.1 jb);rw[hq,hi]at hj;have jd:lo<=g:=(hgr.row_lt rfl).1;have hx:∀c,qo=some c->lo<=c:=λc hc=>by have:=hu.1;rw[hc]at this;exact this.2
    have ho:=hj.2;rw[show(k:Int)+1=((k+1:Nat):Int) by omega];refine⟨gs.length-(k+1),by omega,k+1,hlt,rfl,_,by rw[xcd];exact hi,?_,hj.1,⟨ho.os.trans (hk9.os.trans hkp.os),ho.tape.trans (hk9.tape.trans hkp.tape),ho.output.trans (hk9.output.trans hkp.output),xay hkp.size (xay hk9.size ho.size),λc hc _=>?_⟩,xay hlw (xay hk9.size ho.size),FrX3.mk⟩;·rw[List.map_set,hle];exact set_step ys gs k hlt (by omega) (zx,qn) h7
    ·have ja:c<w'.heap.size:=xav hc hkp.size;have h4:c<w9.heap.size:=xav ja hk9.size;exact(ho.block c h4 (λe=>by have:=xbi e;omega)).trans ((hk9.block c ja (λe=>by have:=hx c e;omega)).trans (hkp.block c hc (by simp)))
   ·have jm:¬(k:Int)<(gs.length:Int):=by omega
    have jr:k=gs.length:=by omega
    subst jr;have h3:l.map (·.1)=ys:=by rw[hle,List.drop_length,xbn];exact xbg (by omega)
    have jo:=merge_ok hgr hlw (by omega) (by rw[h3];exact hd);go_wp2_with (go_at_call 79;refine jo.mono ?_;rintro e w9 ⟨v',S4,rfl,rfl,hor,o1,o2,o3,o4,o5⟩);go_ret;refine⟨_,S4,rfl,rfl,⟨hor.1,hor.2.1,λb hb=>?_,hor.2.2.2.1,λb p hb=>?_⟩,hn.trans ⟨o1.trans hkp.os,o2.trans hkp.tape,o3.trans hkp.output,xay hkp.size o4,λb hb _=>(o5 b (by omega)).trans (hkp.block b hb (by simp))⟩⟩;·have:=hor.2.2.1 b hb;omega
    ·have:=hor.2.2.2.2 b p hb;omega
end
def sg323:Sig:=⟨[(y64,.bw),(y49,.bw)],[(y64,zun)]⟩
def ent323:zdn prog 323:=enters_of func323 (by kernel_rfl) rfl
def rd_of{S:St}(hS:S.WF){t:Ty}{x:t.den}{v:Value}{p:X.Place}(r:SR prog t S .bw p x v):RDv S.w.heap.size S.w t x v:=
 ⟨r.1.fut (.inr rfl) ⟨λb hb=>(hS.shared b hb).2,λb _ hb=>.inl (hS.borrowed b hb).2,λb _=>rfl⟩ λ_ _=>rfl,r.2⟩
def sim323:Sim prog 323 sg323 d323:=by
 refine⟨ent323,λxs y hy S hS vs hvs hargs=>?_⟩;obtain⟨gs,rem,u⟩:=xs;have hd:d323 gs rem=some y:=hy;have hl:vs.length=2:=hvs;obtain⟨v0,v1,rfl⟩:∃v0 v1,vs=[v0,v1]:=by
  match vs,hl with
  | [a,b],_=>exact⟨a,b,rfl⟩
 obtain⟨q0,e0,r0⟩:=hargs 0 ⟨y64,.bw,gs⟩ rfl;obtain⟨q1,e1,r1⟩:=hargs 1 ⟨y49,.bw,rem⟩ rfl;obtain rfl:v0=q0:=by simpa using e0
 obtain rfl:v1=q1:=by simpa using e1
 dsimp only at r0 r1;refine Calls.mono (restrict_ok (rd_of hS r0) (rd_of hS r1) hd) λe w' ⟨v',S4,he,hw,⟨hwf,hrel,hF,hB,hO⟩,hk⟩=>?_;subst hw;have ha:∀b,S.w.heap.size<=b->S.own b=none:=λb hbb=>by
  cases h:S.own b with
  |none=>rfl
  |some p=>have:=hS.owned b p h;omega
 refine⟨_,{S with w:=S4.w,F:=λc=>S.F c\/S4.F c,own:=λb=>if S4.own b=some (0,[0])then some (0,[0])else S.own b,hv:=λq=>if q=(0,[0])then v' else S.hv q},he,rfl,?_,?_,λq e hq=>by cases hq⟩
 ·refine⟨λ_ h=>.inl h,rfl,λc hc=>?_,λc hc=>?_,λc p hc=>?_,hk.os,hk.tape,hk.output,hk.size,λc hc _=>hk.block c hc (by simp)⟩
  ·rcases hc with hc|hc
   ·have:=hS.shared c hc;refine⟨?_,xav this.2 hk.size,.inl hc⟩;show(if S4.own c=some (0,[0])then some (0,[0])else S.own c)=none;rw[if_neg λh=>by have:=hO c _ h;omega];exact this.1
   ·refine⟨?_,(hwf.shared c hc).2,.inr (.inl (hF c hc))⟩;show(if S4.own c=some (0,[0])then some (0,[0])else S.own c)=none;rw[if_neg (by rw[(hwf.shared c hc).1];simp)];exact ha c (hF c hc)
  ·have:=hS.borrowed c hc;show(if S4.own c=some (0,[0])then some (0,[0])else S.own c)=none;rw[if_neg λh=>by have:=hO c _ h;omega];exact this.1
  ·have hb:(if S4.own c=some (0,[0])then some (0,[0])else S.own c)=some p:=hc;by_cases h:S4.own c=some (0,[0]);·exact⟨hwf.owned c _ h,.inl (hO c _ h)⟩
   ·rw[if_neg h]at hb;exact⟨xav (hS.owned c p hb) hk.size,.inr (by rw[hb];simp)⟩
 ·show SR prog y64 _ (.own 77 .sh) (0,[0]) y v';obtain⟨⟨k1,k2,k3,k4⟩,k5⟩:=hrel;have hv:v'=S4.hv (0,[0]):=by simpa[zab,Ty.agg]using k3
  refine⟨⟨k1,k2,?_,?_⟩,λh=>by cases h⟩;·show _=some (if((0,[0]):X.Place)=(0,[0])then v' else S.hv (0,[0]));rw[if_pos rfl];simp[zab,Ty.agg]
  ·rcases k4 with⟨e1,e2⟩|⟨g,cap,cur,e1,e2,e3,e4,e5,e6,e7⟩
   ·exact .inl ⟨by show(if((0,[0]):X.Place)=(0,[0])then v' else S.hv (0,[0]))=_;rw[if_pos rfl,hv,e1],e2⟩
   ·refine .inr ⟨g,cap,cur,?_,?_,e3,e4,e5,e6,λi hi=>(e7 i hi).fut (.inl rfl) ⟨λb h=>.inr h,λb h _=>(by cases h),λ_ _=>rfl⟩ λ_ _=>rfl⟩;·show(if((0,[0]):X.Place)=(0,[0])then v' else S.hv (0,[0]))=_;rw[if_pos rfl,hv,e1]
    ·show(if S4.own g=some (0,[0])then some ((0,[0]):X.Place)else S.own g)=some (0,[0]);exact if_pos e2
noncomputable def E323:FnE prog:=⟨323,sg323,d323,sim323⟩
end Go.Proofs.YtamgmpngdmnadaaGreat
namespace Go.X
open Go Go.RowKit
def methP(P:Program)(t:TypeId)(nm:String)(f:FuncId):Bool:=
 match P.info? t,P.underlying t with
 |some i,some (.pointer _)=>match i.methods.find? (·.name == nm)with
  |some m=>m.path.isEmpty&&(match m.func with | some (g,true)=>decide (g=f) | _=>false)
  |none=>false
 |_,_=>false
def methP_run{P:Program}{t:TypeId}{nm:String}{f:FuncId}(h:methP P t nm f=true)(v:Value)(xs:Array Value)(w:World):(callMethod (.iface t v) nm xs).run P w=(callFunc f (#[v]++xs)).run P w:=by
 unfold methP at h;split at h;case h_2=>cases h
 rename_i i fs hi hd;split at h;case h_2=>cases h
 rename_i m hm;simp only[xal]at h;obtain⟨hp,hf⟩:=h;split at hf;case h_2=>cases hf
 rename_i g hg;have hc:=xbc hf;subst hc;obtain⟨n,hn⟩:∃n,P.types.size+Made.depth=n+1:=⟨P.types.size+Made.depth-1,by unfold Made.depth;omega⟩;have hb:m.path.toList=[]:=by have:=Array.isEmpty_iff.1 hp;rw[this]
 have ha:(method (P.types.size+Made.depth) t v nm).run P w=.ok (g,v) w:=by rw[hn];unfold method;simp[typeInfo,hi,hm,hb,follow,hg,receiverAt,run_underlying hd,Place.get]
 unfold callMethod;simp only[Sem.run_bind,run_program,Result.andThen_ok,ha]
def zmp{P:Program}{t:TypeId}{nm:String}{f:FuncId}(h:methP P t nm f=true)(v:Value)(w:World):(nilAhead (P.types.size+Made.depth) t v nm).run P w=.ok (some false) w:=by
 unfold methP at h;split at h;case h_2=>cases h
 rename_i i fs hi hd;split at h;case h_2=>cases h
 rename_i m hm;simp only[xal]at h;obtain⟨hp,hf⟩:=h;split at hf;case h_2=>cases hf
 rename_i g hg;obtain⟨n,hn⟩:∃n,P.types.size+Made.depth=n+1:=⟨P.types.size+Made.depth-1,by unfold Made.depth;omega⟩;have ha:m.path.toList=[]:=by have:=Array.isEmpty_iff.1 hp;rw[this]
 rw[hn];unfold nilAhead;simp[typeInfo,hi,hm,ha,followBlind,hg]
def St.unA(S:St)(i:Nat):St:={S with
 own:=λb=>match S.own b with | some (0,j::ρ)=>if j=i then some (0,ρ)else none | _=>none
 hv:=λz=>if z.1=0 then S.hv (0,i::z.2)else S.hv z}
def St.reA(S:St)(i:Nat):St:={S with
 own:=λb=>match S.own b with | some (1,ρ)=>some (1,i::ρ) | some z=>some z | none=>none
 hv:=λz=>match z with | (1,j::ρ)=>if j=i then S.hv (1,ρ)else S.hv z | z=>S.hv z}
def zqu{S:St}{i b:Nat}(h:S.own b=none):(S.unA i).own b=none:=by simp[St.unA,h]
def zxk{S:St}{i b:Nat}(h:(S.unA i).own b≠none):S.own b≠none:=λe=>h (zqu e)
def zxy{S:St}{i b:Nat}(h:S.own b=none):(S.reA i).own b=none:=by simp[St.reA,h]
def reA_some{S:St}{i b:Nat}{p:Place}(h:(S.reA i).own b=some p):∃q,S.own b=some q:=by
 cases ho:S.own b with
 |none=>rw[zxy ho]at h;cases h
 |some q=>exact⟨q,rfl⟩
def unA_wf{S:St}{i:Nat}(h:S.WF):(S.unA i).WF where
 shared b hb:=⟨zqu (h.shared b hb).1,(h.shared b hb).2⟩
 borrowed b hb:=⟨zqu (h.borrowed b hb).1,(h.borrowed b hb).2⟩
 owned b p hp:=by obtain⟨q,hq⟩:=xhf.1 (zxk (S:=S) (i:=i) (b:=b) (by rw[hp];simp));exact h.owned b q hq
def unA_tr(S:St)(i:Nat):Tr true S (S.unA i) (0,[i]) (0,[]) where
 F _ h:=h
 sF _ _:=rfl
 B _ _ h:=.inr h
 sB _ _ _:=rfl
 hv r:=by simp[St.unA,pa]
 own b r hb:=⟨by simp[St.unA,pa]at hb ⊢;simp[hb],rfl⟩
def reA_tr(S:St)(i:Nat):Tr true S (S.reA i) (1,[]) (1,[i]) where
 F _ h:=h
 sF _ _:=rfl
 B _ _ h:=.inr h
 sB _ _ _:=rfl
 hv r:=by simp[St.reA,pa]
 own b r hb:=⟨by simp[St.reA,pa]at hb ⊢;simp[hb],rfl⟩
def reA_tr0(S:St)(i k:Nat):Tr true S (S.reA i) (0,[k]) (0,[k]) where
 F _ h:=h
 sF _ _:=rfl
 B _ _ h:=.inr h
 sB _ _ _:=rfl
 hv r:=by simp[St.reA,pa]
 own b r hb:=⟨by simp[St.reA,pa]at hb ⊢;simp[hb],rfl⟩
def reA_frm{S S':St}{i:Nat}(h:Frm (S.unA i) S'):Frm S (S'.reA i) where
 F b hb:=h.F b hb
 B:=h.B
 shared b hb:=by obtain⟨h1,h2,h3⟩:=h.shared b hb;exact⟨zxy h1,h2,h3.imp id λh3=>h3.imp id zxk⟩
 lent b hb:=zxy (h.lent b hb)
 owned b p hp:=by obtain⟨q,hq⟩:=reA_some hp;obtain⟨h1,h2⟩:=h.owned b q hq;exact⟨h1,h2.imp id zxk⟩
 os:=h.os
 tape:=h.tape
 output:=h.output
 size:=h.size
 kept b hb hn:=h.kept b hb (zqu hn)
def altIo(n:TypeId){a b r1 r2:Ty}(f:a.den->Option (r1.den×r2.den×a.den))(g:b.den->Option (r1.den×r2.den×b.den)):(Ty.alt n a b).den->Option (r1.den×r2.den×(Ty.alt n a b).den):=λx=>match x with
 | .inl y=>(f y).bind λq=>some (q.1,q.2.1,.inl q.2.2)
 | .inr z=>(g z).bind λq=>some (q.1,q.2.1,.inr q.2.2)
def zmo{P:Program}{tid:TypeId}{nm:String}{f:FuncId}{a b r1 r2:Ty}{m m1 m2:Md}{den1:a.den->Option (r1.den×r2.den×a.den)}{den2:b.den->Option (r1.den×r2.den×b.den)}
  (hM:methP P tid nm f=true) (hb:b.agg=false) (hm:m≠ .dead) (h1:Sim P f ⟨[(a,.io m.l)],[(r1,m1),(r2,m2)]⟩ den1) (h2:MSim P nm ⟨[(b,.io m.r)],[(r1,m1),(r2,m2)]⟩ den2) :
  MSim P nm ⟨[(.alt tid a b,.io m)],[(r1,m1),(r2,m2)]⟩ (altIo tid den1 den2):=by
 intro xs y hy S hS vs hh hd;obtain⟨x,u⟩:=xs;obtain⟨v,rfl⟩:∃v,vs=[v]:=by
  have hl:vs.length=1:=by simpa[zkg]using hh
  exact xcw.1 hl
 obtain⟨v0,ho,hx⟩:=hd 0 ⟨_,_,x⟩ rfl;cases ho;obtain⟨y1,y2,y3⟩:=y;have hn:altIo tid den1 den2 x=some (y1,y2,y3):=hy;have hR:Rel P (.alt tid a b) S m (0,[]) x (zab (.alt tid a b) v):=hx.1;cases x with
 |inl z=>
  rw[Rel.alt_inl hm]at hR;obtain⟨u0,h3,h4,h5⟩:=hR;have hv:v=.iface tid u0:=by simpa[zab,Ty.agg]using h3
  subst hv;obtain⟨q,hq,he⟩:=xbk.1 hn;cases he;have hz:SR P a (S.unA 0) m.l (0,[]) z u0:=⟨h4.mono (q:=true) (.inl rfl) (unA_tr S 0) λ_ _=>rfl,h5⟩;refine⟨f,#[u0],λw=>?_,?_⟩
  ·have hc:=methP_run hM u0 #[] w;have h6:=h1.1 #[u0] w;unfold invoke;have e1:[Value.iface tid u0].toArray[0]?=some (.iface tid u0):=by simp
   have e2:[Value.iface tid u0].toArray.extract 1 [Value.iface tid u0].toArray.size=#[]:=by apply xij;simp
   simp only[e1,e2];exact hc.trans (by simpa using h6)
  ·refine Calls.mono (h1.2 (z,()) q hq (S.unA 0) (unA_wf hS) [u0] rfl λi e hi=>?_) λe w' hRes=>?_
   ·cases i with
    |zero=>simp only[zkg,xet,xaq]at hi;subst hi;exact⟨u0,rfl,hz⟩
    |succ i=>simp[zkg]at hi
   ·obtain⟨v',S',h7,h8,h9,ha,hg⟩:=hRes;refine⟨v',S'.reA 0,h7,h8,reA_frm h9,?_,λk e hk=>?_⟩
    ·obtain⟨us,g1,g2,g3⟩:=ha;exact⟨us,g1,g2,λk e hk=>by obtain⟨u,g4,g5⟩:=g3 k e hk;exact⟨u,g4,g5.mono (.inl rfl) (reA_tr0 S' 0 k)⟩⟩
    ·have hf:(k,e)∈[(0,(⟨.alt tid a b,m,.inl q.2.2⟩:TM))]:=hk;cases xba.1 hf;obtain⟨u,g4,g5⟩:=hg 0 ⟨a,m.l,q.2.2⟩ (by exact xba.2 rfl);cases g4;refine⟨_,rfl,?_,λh=>by cases h⟩;show Rel P (.alt tid a b) (S'.reA 0) m (1,[]) (.inl q.2.2) _;rw[Rel.alt_inl hm];exact⟨u0,by simp[zab,Ty.agg],g5.1.mono (q:=true) (.inl rfl) (reA_tr S' 0) λ_ _=>rfl,g5.2⟩
 |inr z=>
  rw[Rel.alt_inr hm]at hR;obtain⟨q,hq,he⟩:=xbk.1 hn;cases he;have hj:zab b v=zab (.alt tid a b) v:=by unfold zab;rw[hb];rfl
  have hz:SR P b (S.unA 1) m.r (0,[]) z v:=⟨by rw[hj];exact hR.2.mono (q:=true) (.inl rfl) (unA_tr S 1) λ_ _=>rfl,λh=>by rw[hb]at h;cases h⟩;obtain⟨g,us,h3,h4⟩:=h2 (z,()) q hq (S.unA 1) (unA_wf hS) [v] rfl λi e hi=>by
   cases i with
   |zero=>simp only[zkg,xet,xaq]at hi;subst hi;exact⟨v,rfl,hz⟩
   |succ i=>simp[zkg]at hi
  refine⟨g,us,h3,Calls.mono h4 λe w' hRes=>?_⟩;obtain⟨v',S',h7,h8,h9,ha,hg⟩:=hRes;refine⟨v',S'.reA 1,h7,h8,reA_frm h9,?_,λk e hk=>?_⟩
  ·obtain⟨us,g1,g2,g3⟩:=ha;exact⟨us,g1,g2,λk e hk=>by obtain⟨u,g4,g5⟩:=g3 k e hk;exact⟨u,g4,g5.mono (.inl rfl) (reA_tr0 S' 1 k)⟩⟩
  ·have hf:(k,e)∈[(0,(⟨.alt tid a b,m,.inr q.2.2⟩:TM))]:=hk;cases xba.1 hf;obtain⟨u,g4,g5⟩:=hg 0 ⟨b,m.r,q.2.2⟩ (by exact xba.2 rfl);cases g4;refine⟨_,rfl,?_,λh=>by cases h⟩;show Rel P (.alt tid a b) (S'.reA 1) m (1,[]) (.inr q.2.2) _;rw[Rel.alt_inr hm];refine⟨hR.1,?_⟩;rw[<-hj];exact g5.1.mono (q:=true) (.inl rfl) (reA_tr S' 1) λ_ _=>rfl
def msim_nil_io{P:Program}{nm:String}{r1 r2:Ty}{m m1 m2:Md}:MSim P nm ⟨[(.nilI,.io m)],[(r1,m1),(r2,m2)]⟩ (λ_=>none:Ty.nilI.den->Option (r1.den×r2.den×Ty.nilI.den)):=by intro xs y hy;cases(show(none:Option (r1.den×r2.den×Ty.nilI.den))=some y from hy)
end Go.X
open Go Go.Proofs Go.X
namespace Go.Proofs.YtamgmpngdmnadaaGreat
open Tryz
set_option maxRecDepth 100000
noncomputable section
abbrev uo8:=(Bool×(List Int×List Int))
abbrev uo4:=(List uo8×(List uo8×(uo8×(uo8×(uo8×(List Int×(List Int×List Int)))))))
abbrev uo1:=(Int×(Int×(Int×(Int×(List uo4×List Int)))))
abbrev uo3:=(List uo4)
abbrev uo9:=(List (List Int×Int))
abbrev uo10:=(List Int)
abbrev uo6:=(Int×(Int×(Int×(Int×(Int×(Int×(List uo10×(Int×(Int×(Int×Int))))))))))
abbrev uo7:=(List Int×(List uo10×(Int×(Int×(Int×(Int×(Int×(Int×Int))))))))
abbrev uo0:=((uo7×(List (List Int×Int)×(List Int×(List Bool×(List Bool×(Int×List (List uo8)))))))×(Int×(List Bool×(List Bool×(List uo8×(List uo10×List uo8))))))
abbrev uo2:=((uo7×(List (List Int×Int)×(List Int×(List Bool×(List Bool×(Int×List (List uo8)))))))×(Int×(List Int×(Int×(Bool×Int)))))
abbrev uo5:=((uo7×(List (List Int×Int)×(List Int×(List Bool×(List Bool×(Int×List (List uo8)))))))×Unit)
def d322(p0:uo5):Option (uo4×Bool×uo5):=bif (decide ((p0.1.2.2.2.1.length:Int)=(p0.1.2.2.2.1.length:Int))&&(decide (0<=(p0.1.2.2.2.1.length:Int))&&decide ((p0.1.2.2.2.1.length:Int)<=LIM)))then (d323 p0.1.2.1 p0.1.2.2.2.1).bind λr=>(zac (β:=(uo5×uo4×uo10×Int×Int)) (λ((o,p,g,q,s,b,t,a):uo5×uo4×uo10×Int×Int×uo9×Int×Int)=>bif (decide (a<t))then zbl (λ((al,am,an,ao,ap,aq,ar,au):uo5×uo4×uo10×Int×Int×uo9×Int×Int)=>some (Sum.inl (al,am,an,ao,ap,aq,ar,(w (au+1))))) λab=>bif (decide (0<=a)&&decide (a<(b.length:Int)))then bif (decide ((((b.getD a.toNat ([],0)).1).length:Int)=0))then ab (o,p,g,(w (q+((b.getD a.toNat ([],0)).2))),s,b,t,a)else bif (decide (0<=0)&&decide (0<(((b.getD a.toNat ([],0)).1).length:Int)))then bif (decide (0<=(List.getD ((b.getD a.toNat ([],0)).1) 0 0))&&decide ((List.getD ((b.getD a.toNat ([],0)).1) 0 0)<(g.length:Int)))then bif (decide (0<=(List.getD ((b.getD a.toNat ([],0)).1) 0 0))&&decide ((List.getD ((b.getD a.toNat ([],0)).1) 0 0)<(g.length:Int)))then ab (o,p,(List.set g (Int.toNat (List.getD ((b.getD a.toNat ([],0)).1) 0 0)) (w ((g.getD (Int.toNat (List.getD ((b.getD a.toNat ([],0)).1) 0 0)) 0)+((b.getD a.toNat ([],0)).2)))),q,(w (s+((b.getD a.toNat ([],0)).2))),b,t,a)else none else none else none else none else some (Sum.inr (o,p,g,q,s))) (p0,([],[],(false,[],[]),(false,[],[]),(false,[],[]),[],[],[]),(List.replicate (Int.toNat (p0.1.2.2.2.1.length:Int)) 0),0,0,r,(r.length:Int),0)).bind λ((av,u,ac,ax,ae):uo5×uo4×uo10×Int×Int)=>(d93 (w ((w (Int.tdiv ae 2))+1))).bind λay=>(d93 ax).bind λaz=>(d93 0).bind λba=>(zac (β:=(uo5×uo4×Int)) (λ((h,f,i,k,v,l,c):uo5×uo4×uo10×Int×Int×Int×Int)=>bif (decide (c<l))then bif (decide (0<=c)&&decide (c<(i.length:Int)))then (d93 (i.getD c.toNat 0)).bind λm=>bif (decide ((f.1.length:Int)+(([m]:List uo8).length:Int)<=LIM))then zbl (λ((bb,n,bc,be,bf,bg,bh,bi):uo5×uo4×uo10×Int×Int×Int×Int×Int)=>(d93 bg).bind λaf=>bif (decide ((n.2.1.length:Int)+(([af]:List uo8).length:Int)<=LIM))then some (Sum.inl (bb,(n.1,(n.2.1++[af]),n.2.2),bc,be,bf,bh,(w (bi+1))))else none) λx=>bif (decide (0<=c)&&decide (c<(h.1.2.2.2.1.length:Int)))then bif (h.1.2.2.2.1.getD c.toNat false)then bif (decide (k<(w (2*(i.getD c.toNat 0)))))then x (h,((f.1++[m]),f.2),i,k,c,1,l,c)else x (h,((f.1++[m]),f.2),i,k,v,1,l,c)else x (h,((f.1++[m]),f.2),i,k,v,0,l,c)else none else none else none else some (Sum.inr (h,f,v))) (av,(u.1,u.2.1,ay,az,ba,u.2.2.2.2.2),ac,ae,(-1),(ac.length:Int),0)).bind λ((y,ag,bj):uo5×uo4×Int)=>(d324 y.1.2.2.2.1).bind λj=>zbl (λ((z,aa,ah,bk):uo5×uo4×Int×uo10)=>bif (decide (0<=ah))then (ztv z aa ah).bind λai=>some (ai.2,true,ai.1)else (d328 aa bk true).bind λbl=>(ztp z aa bl true).bind λaj=>(zts z aj.2 aj.1).bind λe=>bif (decide ((e.1.1.2.2.2.2.2.2.length:Int)+(([e.2.1]:List (List uo8)).length:Int)<=LIM))then some (e.2,false,((e.1.1.1,e.1.1.2.1,e.1.1.2.2.1,e.1.1.2.2.2.1,e.1.1.2.2.2.2.1,e.1.1.2.2.2.2.2.1,(e.1.1.2.2.2.2.2.2++[e.2.1])),e.1.2))else none) λak=>bif (decide ((j.length:Int)=1))then bif (decide (0<=0)&&decide (0<(j.length:Int)))then ak (y,ag,(j.getD 0 0),j)else none else ak (y,ag,bj,j)else none
def sg322:Sig:=⟨[(y175,(.io umao))],[(y103,.sh),(y4,.sh)]⟩
def sim322:Sim prog 322 sg322 d322:=uqz func322 (zca rfl) call322 (by kernel_rfl) (by kernel_rfl) [.fn E323,.fn E93,.fn E324,.fn E325177,.fn E328,.fn E327177,.fn E326177] (.seq upax (uqs (uqs (.seq (uqs (.block (.loop ulad [(.brk 0,[ujbc,ujaa,(4,uqd),(5,uqa),(6,uqa)])] (uqs (.seq zfh (.join (.block (uqs (.seq zkl upat))) ulad uqr)))))) (uqs (uqs (.seq (uqs (.block (.loop [ujbc,ujaa,(4,uqd),(6,uqa),(9,uqa),(71,.view 4 []),(72,uqa),(73,uqa)] [(.brk 2,[ujbc,ujaa,(9,uqa)])] (uqs (.seq zfh (.seq (.block (uqs (uqs (uqs (.join (uqs (.cond (uqs zxj) .nil)) [ujbc,ujaa,(4,uqd),(6,uqa),(9,uqa),ujaz,(71,.view 4 []),(72,uqa),(73,uqa)] uqr))))) uqr)))))) (uqs (.join zxj [ujbc,ujaa,(9,uqa),(13,uqd)] (.seq (uqs (.cond (.seq (.reg [(2,[0,0]),(2,[0,1,0])] [{},{},{fl:=12}]) (.seq upbb .nil)) .nil)) (.seq (.reg [(2,[0,0]),(2,[0,1,0]),(2,[0,1,1,1,1,1,0])] [{},{},{fl:=12},{},{},{fl:=12},{},{},{},{frz:=[(134,[])]}]) zfy))))))))))) λxs=>by kernel_rfl
def d68(p0:uo7)(p1:List (List Int×Int))(p2:List Int):Option (uo5⊕(uo2⊕(uo0⊕Unit))):=(d137 p0 p1 p2).bind λr=>bif (decide (p0.2.2.1=1))then some (Sum.inl (r,()))else bif (decide (p0.2.2.1=2))then (d138 p0.2.2.2.2.2.1).bind λf=>(d88 [f] (p0.2.1.length:Int)).bind λn=>some (Sum.inr (Sum.inl (r,f,n,0,true,0)))else (d92 p1).bind λo=>bif (!decide ((w (p0.2.2.2.1+1))=0))then bif (decide ((p0.2.1.length:Int)=(p0.2.1.length:Int))&&(decide (0<=(p0.2.1.length:Int))&&decide ((p0.2.1.length:Int)<=LIM)))then bif (decide ((p0.2.1.length:Int)=(p0.2.1.length:Int))&&(decide (0<=(p0.2.1.length:Int))&&decide ((p0.2.1.length:Int)<=LIM)))then (zac (β:=(uo9×uo0)) (λ((g,b,h,i):uo9×uo0×Int×Int)=>bif (decide (i<h))then (d93 1).bind λj=>bif (decide ((b.2.2.2.2.1.length:Int)+(([j]:List uo8).length:Int)<=LIM))then some (Sum.inl (g,(b.1,b.2.1,b.2.2.1,b.2.2.2.1,(b.2.2.2.2.1++[j]),b.2.2.2.2.2),h,(w (i+1))))else none else some (Sum.inr (g,b))) (p1,(r,(w ((w (Int.tdiv o (w (p0.2.2.2.1+1))))+1)),(List.replicate (Int.toNat (p0.2.1.length:Int)) false),(List.replicate (Int.toNat (p0.2.1.length:Int)) false),[],[],[]),(p0.2.1.length:Int),0)).bind λ((k,p):uo9×uo0)=>(zac (β:=uo0) (λ((a,e,l,c):uo0×uo9×Int×Int)=>bif (decide (c<l))then bif (decide (0<=c)&&decide (c<(e.length:Int)))then bif (decide ((a.2.2.2.2.2.1.length:Int)+(([(e.getD c.toNat ([],0)).1]:List uo10).length:Int)<=LIM))then (d93 1).bind λm=>bif (decide ((a.2.2.2.2.2.2.length:Int)+(([m]:List uo8).length:Int)<=LIM))then some (Sum.inl ((a.1,a.2.1,a.2.2.1,a.2.2.2.1,a.2.2.2.2.1,(a.2.2.2.2.2.1++[(e.getD c.toNat ([],0)).1]),(a.2.2.2.2.2.2++[m])),e,l,(w (c+1))))else none else none else none else some (Sum.inr a)) (p,k,(k.length:Int),0)).bind λ(q:uo0)=>some (Sum.inr (Sum.inr (Sum.inl q)))else none else none else none
def E68:=uqy 68 ⟨[(y23,.sh),(y64,.sh),(y26,.sh)],[(y105,umas)]⟩ d68 func68 call68 [.fn E137,.fn E138,.fn E88,.fn E92,.fn E93] (uqs (uqs (uqs (.seq (uqs (.block (uqs (.cond (.seq (.reg [] [{fl:=1},{fl:=1000000000},{},{fl:=853773491565316986230505649605333976847135629420399338628909124697303885859906825984033884675982630930865787156804286125238372038129852972137700246489639506046569147797138341982511226723892310941091786834187868244590730378323302188322777463996943267691368383973302107899396}]) .nil) (uqs (.cond (uqs (.seq (.reg [] [{fl:=1},{},{},{},{},{},{fl:=1000000000},{},{fl:=853773491565316986230505649605333976847135629420399338628909124697303885859906825984033884675982630930865787156804286125238372038129852972137700246489639506046569147797138341982511226723892310941091786834187868244590730378323302188322777463996943267691368383973302107899396}]) .nil)) .nil)))))) (.seq (.reg [] [{fl:=1},{},{},{},{},{},{},{},{},{},{},{},{fl:=61011502604101}]) (.seq (uqs (.block (.loop [ujat,ujbr,(56,uqa),(57,uqa)] [(.brk 1,[ujat,ujbr])] upba))) (.seq (uqs (.block (.loop [ujbr,(70,.v y64 .sh),(71,uqa),(72,uqa)] [(.brk 3,[ujbr])] (uqs (.seq zfh (.seq (.block upbf) uqr)))))) (.seq (.reg [] [{fl:=1},{fl:=853773491565316986230505649605333976847135629420399338628909124697303885859906825984033884675982630930865787156804286125238372038129852972137700246489639506046569147797138341982511226723892310941091786834187868244590730378323302188322777463996943267691368383973302107899396}]) .nil))))))))
def sgm_round:Sig:=⟨[(y105,.io (.pr (.own 0 (.pr (.pr .sh (.pr .sh (.pr .sh (.pr (.own 4 .sh) (.pr (.own 4 .sh) (.pr .sh (.own 97 .sh))))))) .sh)) (.pr (.own 0 (.pr (.pr .sh (.pr .sh (.pr .sh (.pr (.own 4 .sh) (.pr (.own 4 .sh) (.pr .sh (.own 97 .sh))))))) (.pr .sh (.pr (.own 3 .sh) (.pr .sh (.pr .sh .sh)))))) (.pr (.own 0 (.pr (.pr .sh (.pr .sh (.pr .sh (.pr (.own 4 .sh) (.pr (.own 4 .sh) (.pr .sh (.own 97 .sh))))))) (.pr .sh (.pr (.own 4 .sh) (.pr (.own 4 .sh) (.pr (.own 101 .sh) (.pr (.own 26 .sh) (.own 101 .sh)))))))) .sh))))],[(y103,.sh),(y4,.sh)]⟩
def zlw:Arr (zft sgm_round.ps) (Option (Ret sgm_round.res)):=(altIo 175 (a:=y175) (b:=(.alt 178 y178 (.alt 181 y181 .nilI))) (r1:=y103) (r2:=y4) d322 (altIo 178 (a:=y178) (b:=(.alt 181 y181 .nilI)) (r1:=y103) (r2:=y4) d335 (altIo 181 (a:=y181) (b:=.nilI) (r1:=y103) (r2:=y4) d343 (λ_=>none:Ty.nilI.den->Option (Ty.den y103×Ty.den y4×Ty.nilI.den)))))
def nm_round:String:=mname prog 175 322
def msim_round:MSim prog nm_round sgm_round zlw:=(zmo (by kernel_rfl) rfl (λh=>by cases h) sim322 (zmo (by kernel_rfl) rfl (λh=>by cases h) sim335 (zmo (by kernel_rfl) rfl (λh=>by cases h) sim343 msim_nil_io)))
def M_round:MeE prog:=⟨nm_round,y105,⟨λv w=>zmp (f:=322) (by kernel_rfl) v w,⟨λv w=>zmp (f:=335) (by kernel_rfl) v w,⟨λv w=>zmp (f:=343) (by kernel_rfl) v w,trivial⟩⟩⟩,sgm_round,zlw,msim_round⟩
def d34(p0:uo7)(p1:List (List Int×Int))(p2:List Int)(p3:uo1):Option (Int×Int):=(d66 p0.2.2.1 p0 p1 p2).bind λr=>bif !(decide (r=0))then some (0,r)else zbl (λ((k,l,m,g,n):uo9×uo10×uo7×uo1×Bool)=>bif n then some (0,8)else (d68 m k l).bind λo=>(zac (β:=uo1⊕(Int×Int)) (λ((e,p,f,h,a):uo1×(uo5⊕(uo2⊕(uo0⊕Unit)))×uo3×Int×Int)=>bif (decide (a<h))then bif (decide (0<=a)&&decide (a<(f.length:Int)))then (zlw p).bind λb=>(d69 b.1 (f.getD a.toNat ([],[],(false,[],[]),(false,[],[]),(false,[],[]),[],[],[]))).bind λq=>bif !q then some (Sum.inr (Sum.inr (a,14)))else zbl (λ((i,s,t,u,v,x,y,z):uo1×(uo5⊕(uo2⊕(uo0⊕Unit)))×Int×Bool×uo3×Int×Int×Bool)=>bif z then some (Sum.inr (Sum.inr ((w (t+1)),14)))else bif u then some (Sum.inr (Sum.inr ((i.2.2.2.2.1.length:Int),0)))else some (Sum.inl (i,s,v,x,(w (y+1))))) λj=>bif b.2.1 then j (e,b.2.2,a,b.2.1,f,h,a,(decide ((w (a+1))<(e.2.2.2.2.1.length:Int))))else j (e,b.2.2,a,b.2.1,f,h,a,false)else none else some (Sum.inr (Sum.inl e))) (g,o,g.2.2.2.2.1,(g.2.2.2.2.1.length:Int),0)).bind λ
     |Sum.inl aa=>some ((aa.2.2.2.2.1.length:Int),14)
     |Sum.inr (ab,ac)=>some (ab,ac)) λc=>(d67 p3).bind λae=>bif !(!ae)then bif !(!(decide (p3.1=p0.2.2.1)))then bif !(!(decide (p3.2.1=p0.2.2.2.1)))then bif !(!(decide (p3.2.2.1=p0.2.2.2.2.2.1)))then c (p1,p2,p0,p3,!(decide (p3.2.2.2.1=(p0.2.1.length:Int))))else c (p1,p2,p0,p3,true)else c (p1,p2,p0,p3,true)else c (p1,p2,p0,p3,true)else c (p1,p2,p0,p3,true)
def E34:=uqy 34 ⟨[(y23,.sh),(y64,.sh),(y26,.sh),(y36,.sh)],[(y2,.sh),(y2,.sh)]⟩ d34 func34 call34 [.fn E66,.fn E67,.fn E68,.me M_round,.fn E69] (uqs (.seq (uqs zkl) (.seq (.join uqr [ujat,(2,uqf),(4,.v (.ptr y23) zkd),ujbg,(56,uqc)] zut) (uqs (.seq (uqs (.block (.loop [ujbg,(11,.v y105 umas),(62,.v y35 .sh),(63,uqa),(64,uqa)] [(.brk 0,[ujbg]),(.ret,[(8,uqa),(9,uqa)])] (uqs (.seq zfh (.seq (.block (uqs (.seq (.reg [] [{fl:=9},{},{fl:=1}]) (.seq zkl (.seq (.join uqr [ujbg,(11,.v y105 umas),ujaz,(15,uqc),(62,.v y35 .sh),(63,uqa),(64,uqa),(87,uqc)] zut) zkl))))) uqr)))))) zds)))))
def d76(t:uo1):Option uo10:=(d67 t).bind λr=>bif !r then some []else (bif decide ((t.2.2.2.2.2.length:Int)<=LIM)then some ()else none).bind λu=>some (zcf t.2.2.2.2.2)
def d43(c:uo7)(gs:List (List Int×Int))(lots:List Int)(t:uo1)(claimed:List Int):Option Int:=(d34 c gs lots t).bind λr=>bif !(decide (r.2=0))then some r.2 else (bif decide ((claimed.length:Int)<=LIM)then some ()else none).bind λu=>(d76 t).bind λa=>(d56 (zcf claimed) a).bind λb=>bif !b then some 19 else some 0
def d31(s:uo6):Option (uo7×uo9×uo10):=(d16 s.1 7).bind λr=>(d16 s.2.2.2.1 3).bind λp=>(d17 s.2.1 (w (1+r)) s.2.2.1 p s.2.2.2.2.1).bind λq=>(zac (β:=(uo6×uo7×Int×uo7×(List uo10))) (λ((e,g,n,c,l,i):uo6×uo7×Int×uo7×(List uo10)×Int)=>zbl (λ((b,h,j,k,f,a,t):uo6×uo7×Int×uo7×(List uo10)×Int×Bool)=>bif t then bif (decide (0<=a)&&decide (a<(b.2.2.2.2.2.2.1.length:Int)))then bif (decide (0<=a)&&decide (a<(b.2.2.2.2.2.2.1.length:Int)))then bif (zcr 0 (bif (decide (8<((b.2.2.2.2.2.2.1.getD a.toNat []).length:Int)))then 8 else((b.2.2.2.2.2.2.1.getD a.toNat []).length:Int)) (b.2.2.2.2.2.2.1.getD a.toNat []).length)then bif (decide ((f.length:Int)+(([(List.drop 0 (List.take (Int.toNat (bif (decide (8<((b.2.2.2.2.2.2.1.getD a.toNat []).length:Int)))then 8 else((b.2.2.2.2.2.2.1.getD a.toNat []).length:Int))) (b.2.2.2.2.2.2.1.getD a.toNat [])))]:List uo10).length:Int)<=LIM))then some (Sum.inl (b,h,j,k,(f++[(List.drop 0 (List.take (Int.toNat (bif (decide (8<((b.2.2.2.2.2.2.1.getD a.toNat []).length:Int)))then 8 else((b.2.2.2.2.2.2.1.getD a.toNat []).length:Int))) (b.2.2.2.2.2.2.1.getD a.toNat [])))]),(w (a+1))))else none else none else none else none else some (Sum.inr (b,h,j,k,f))) λm=>bif (decide (i<(e.2.2.2.2.2.2.1.length:Int)))then m (e,g,n,c,l,i,(decide (i<12)))else m (e,g,n,c,l,i,false)) (s,([],[],0,0,0,0,0,0,0),(w (1+r)),q,[],0)).bind λ((u,aa,o,v,x):uo6×uo7×Int×uo7×(List uo10))=>(d61 o x 12).bind λy=>(d18 o u.2.2.2.2.2.1).bind λz=>some (v,y,z)
def E31:=uqy 31 ⟨[(y62,.sh)],[(y23,.sh),(y64,.sh),(y26,zmk)]⟩ d31 func31 call31 [.fn E16,.fn E17,.fn E61,.fn E18] (uqs (uqs (uqs (.seq zxi (.seq (uqs (.block (.loop [(1,.v (.ptr y62) zkd),(2,.v (.ptr y23) zkd),(5,uqa),(6,.v (.ptr y23) zkd),ujao,(8,uqa)] [(.brk 0,[(1,.v (.ptr y62) zkd),(2,.v (.ptr y23) zkd),(5,uqa),(6,.v (.ptr y23) zkd),ujao])] (.seq (.join uqr [(1,.v (.ptr y62) zkd),(2,.v (.ptr y23) zkd),(5,uqa),(6,.v (.ptr y23) zkd),ujao,(8,uqa),(32,uqc)] zfh) upap)))) zds)))))
def d44(c:uo7)(gs:List (List Int×Int))(lots:List Int):Option (uo1×Int):=bif (decide (c.2.2.1=2))then (d49 c gs lots).bind λr=>some (r.1,r.2)else bif (decide (c.2.2.1=3))then (d50 c gs lots).bind λa=>some (a.1,a.2)else (d48 c gs lots).bind λb=>some (b.1,b.2)
def E44:=uqy 44 ⟨[(y23,.sh),(y64,.sh),(y26,.sh)],[(y36,.sh),(y2,.sh)]⟩ d44 func44 call44 [.fn E49,.fn E50,.fn E48] (uqs (.seq (uqs (.block upay)) zds))
def d36:Option Bool:=(d51 3 [[0,1],[0,1],[1],[1],[2,1]]).bind λr=>(d17 0 3 0 0 0).bind λc=>(d48 c r.1 [0,1,2]).bind λb=>zbl (λ((e,f,a,j):uo9×uo7×uo1×Bool)=>bif j then some false else (d34 f e [0,1,2] a).bind λg=>bif (zcr 0 1 a.2.2.2.2.1.length)then (d34 f e [0,1,2] (a.1,a.2.1,a.2.2.1,a.2.2.2.1,(List.drop 0 (List.take 1 a.2.2.2.2.1)),[])).bind λh=>bif (decide (g.1=2))then bif (decide (g.2=0))then bif (decide (h.1=1))then some (decide (h.2=14))else some false else some false else some false else none) λi=>bif !(!(decide (b.2=0)))then i (r.1,c,b.1,!(decide ((b.1.2.2.2.2.1.length:Int)=2)))else i (r.1,c,b.1,true)
def sg36:Sig:=⟨[],[(y4,.sh)]⟩
def plan36:Plan:=(uqs (.seq (.reg [] [{},{},{},{},{},{frz:=[(11,[]),(12,[]),(13,[]),(14,[]),(15,[])]},{},{fl:=1}]) (uqs (.seq (.reg [] [{},{},{},{frz:=[(24,[])]},{fl:=1}]) (.seq (.join uqr [(1,.v y64 .sh),(3,.v (.ptr y23) (.own 0 .sh)),(4,.v (.ptr y36) (.own 0 .sh)),(35,uqc)] (.cond (uqs .nil) .nil)) (.seq (.reg [] [{},{},{},{},{frz:=[(39,[])]},{fl:=1}]) (uqs (.seq (.reg [] [{},{},{},{},{frz:=[(52,[])]},{fl:=1}]) (uqs .nil)))))))))
def ev36 (xs:zek (zft sg36.ps)):evF (P:=prog) tab [.fn E51,.fn E17,.fn E48,.fn E34] sg36 Tryz.f36.results.toList (code Tryz.f36) plan36 xs=d36  := by kernel_rfl
def sim36:Sim prog 36 sg36 d36:=zeg zuo zic func36 (zca rfl) call36 (uqn (by kernel_rfl)) (by kernel_rfl) plan36 _ λxs y h=>(ev36 xs).trans h
def E36:FnE prog:=⟨36,sg36,d36,sim36⟩
def d11(s:uo6):Option Bool:=(d31 s).bind λr=>(d44 r.1 r.2.1 r.2.2).bind λa=>(d34 r.1 r.2.1 r.2.2 a.1).bind λb=>(d36).bind λc=>bif c then bif (decide (a.2=0))then bif (decide (b.2=0))then bif (decide (b.1=(a.1.2.2.2.2.1.length:Int)))then some (decide (0<b.1))else some false else some false else some false else some false
def sg11:Sig:=⟨[(y62,.sh)],[(y4,.sh)]⟩
def sim11:Sim prog 11 sg11 d11:=uqz func11 (zca rfl) call11 (by kernel_rfl) (by kernel_rfl) [.fn E31,.fn E44,.fn E34,.fn E36] (uqs (.seq upas (.seq (.reg [(5,[])] [{},{},{},{},{fl:=1}]) upav))) λxs=>by kernel_rfl
def d12(p0:uo6)(p1:List uo10):Option Bool:=(d31 p0).bind λr=>(d31 (p0.1,p0.2.1,p0.2.2.1,p0.2.2.2.1,p0.2.2.2.2.1,p0.2.2.2.2.2.1,p1,p0.2.2.2.2.2.2.2)).bind λb=>(d44 r.1 r.2.1 r.2.2).bind λa=>(d44 r.1 b.2.1 r.2.2).bind λc=>(d34 r.1 b.2.1 r.2.2 a.1).bind λe=>(d36).bind λf=>bif f then bif (decide (a.2=0))then bif (decide (c.2=0))then (d22 a.1 c.1).bind λg=>some ((decide (e.2=0)) == g)else some false else some false else some false
def sg12:Sig:=⟨[(y62,.sh),(y48,.sh)],[(y4,.sh)]⟩
def sim12:Sim prog 12 sg12 d12:=uqz func12 (zca rfl) call12 (by kernel_rfl) (by kernel_rfl) [.fn E31,.fn E44,.fn E34,.fn E36,.fn E22] (uqs (.seq upas (uqs (.seq upas (.seq upbh (.seq (.reg [] [{},{},{},{},{fl:=1}]) upav)))))) λxs=>by kernel_rfl
def d13(s:uo6)(e:Int):Option Bool:=(d31 s).bind λr=>(d18 (r.2.2.length:Int) e).bind λb=>(d44 r.1 r.2.1 r.2.2).bind λa=>(d44 r.1 r.2.1 b).bind λc=>(d34 r.1 r.2.1 b a.1).bind λf=>(d36).bind λg=>bif g then bif (decide (a.2=0))then bif (decide (c.2=0))then (d22 a.1 c.1).bind λh=>some ((decide (f.2=0)) == h)else some false else some false else some false
def sg13:Sig:=⟨[(y62,.sh),(y2,.sh)],[(y4,.sh)]⟩
def sim13:Sim prog 13 sg13 d13:=uqz func13 (zca rfl) call13 (by kernel_rfl) (by kernel_rfl) [.fn E31,.fn E18,.fn E44,.fn E34,.fn E36,.fn E22] (uqs (.seq upas (uqs (.seq upbh (.seq (.reg [(8,[])] [{},{},{},{},{fl:=1}]) upav))))) λxs=>by kernel_rfl
end
end Go.Proofs.YtamgmpngdmnadaaGreat
namespace Go.Proofs.YtamgmpngdmnadaaGreat
open Tryz
open Go Go.X
def list_eqQ{a b:List Rat}(hl:a.length=b.length)(h:∀i,i<a.length->a.getD i 0=b.getD i 0):a=b:=by refine xhk hl λi h1 h2=>?_;have:=h i h1;rw[xad,xad,xaj h1,xaj h2]at this;exact this
def zud{x y:Rat}:decide (zrm x y=0)=decide (x=y):=by
 unfold zrm;by_cases h:x<y
 ·have h2:¬x=y:=λe=>by rw[e]at h;exact xkf h
  rw[if_pos h,xah h2];rfl
 ·rw[if_neg h];by_cases h2:x=y;·rw[if_pos h2,xae h2];rfl
  ·rw[if_neg h2,xah h2];rfl
noncomputable instance rdDec:DecidableEq Rd:=λ_ _=>Classical.propDecidable _
def d203_eq{x y:Rat}(hx:Sz 268435456 (rr x))(hy:Sz 268435456 (rr y)):d203 (rr x) (rr y)=some (decide (x=y)):=by unfold d203;rw[zmu hx hy,xaa,zud]
def d139_eq{a b:List Rat}(hl:a.length<=1000)(ha:∀q∈a,Sz 268435456 (rr q))(hb:∀q∈b,Sz 268435456 (rr q)):d139 (a.map rr) (b.map rr)=some (decide (a=b)):=by
 unfold d139 d202;rw[xao,xao];by_cases h:a.length=b.length
 ·rw[zdt ((a.length:Int)=(b.length:Int)),xat,xaf];have e:∀X:Option Bool,X=some (decide (a=b))->(X.bind λr=>some r)=some (decide (a=b)):=λX h=>by rw[h];rfl
  refine e _ ?_;refine zeo (λi=>(b.map rr,(λa_1 a_2=>d203 a_1 a_2),a.map rr,(a.length:Int),(i:Int))) (λi=>!decide (a.getD i 0=b.getD i 0)) a.length (λ_=>Sum.inr false) (Sum.inl ()) rfl (λi hi _=>?_) (λ_=>?_) (λi hi hp _=>?_) (λh2=>?_)
  ·have hc:i<b.length:=by omega
   simp only[xao,dlt hi,dlt hc,zbp,xai,xab,tn,zck hi,zck hc,d203_eq (ha _ (zba hi)) (hb _ (zba hc)),xaa,wsx i];cases(decide (a.getD i 0=b.getD i 0))<;>rfl
  ·simp only[nlt (xag a.length),xaf]
  ·have hd:a.getD i 0≠b.getD i 0:=by simpa using hp
   show some false=some (decide (a=b));rw[xah (λe=>hd (by rw[e]))]
  ·show some true=some (decide (a=b));rw[xae (list_eqQ h λi hi=>by simpa using h2 i hi)]
 ·rw[zdf ((a.length:Int)=(b.length:Int)),xap,xab,xah (λe=>h (by rw[e]))];rfl
def rd_ext{r r':Rd}:r=r'↔r.votes=r'.votes/\r.keep=r'.keep/\r.quota=r'.quota/\r.exh=r'.exh/\r.sur=r'.sur/\r.el=r'.el/\r.ex=r'.ex/\r.ti=r'.ti:=by obtain⟨a1,a2,a3,a4,a5,a6,a7,a8⟩:=r;obtain⟨b1,b2,b3,b4,b5,b6,b7,b8⟩:=r';simp
def d69_eq{r r':Rd}(h:r.Sm)(h':r'.Sm):d69 (rdT r) (rdT r')=some (decide (r=r')):=by
 have e3:d139 [(rdT r).2.2.1,(rdT r).2.2.2.1,(rdT r).2.2.2.2.1] [(rdT r').2.2.1,(rdT r').2.2.2.1,(rdT r').2.2.2.2.1]=some (decide ([r.quota,r.exh,r.sur]=[r'.quota,r'.exh,r'.sur])):=
  d139_eq (a:=[r.quota,r.exh,r.sur]) (b:=[r'.quota,r'.exh,r'.sur]) (by simp) (λq hq=>by
   simp only[xar,xdj,xhb]at hq;rcases hq with rfl|rfl|rfl
   ·exact h.q
   ·exact h.e
   ·exact h.s) (λq hq=>by
   simp only[xar,xdj,xhb]at hq;rcases hq with rfl|rfl|rfl
   ·exact h'.q
   ·exact h'.e
   ·exact h'.s)
 unfold d69;rw[e3];have hl:=h.l;show(d139 (r.votes.map rr) (r'.votes.map rr)).bind _=_;rw[d139_eq h.v.1 h.v.2 h'.v.2,xaa];show(bif decide (r.votes=r'.votes)then(d139 (r.keep.map rr) (r'.keep.map rr)).bind _ else _)=_;rw[d139_eq h.k.1 h.k.2 h'.k.2];have h6:d56 (rdT r).2.2.2.2.2.1 (rdT r').2.2.2.2.2.1=some (decide (r.el=r'.el)):=d56_eq (by show r.el.length<=_;omega);have h7:d56 (rdT r).2.2.2.2.2.2.1 (rdT r').2.2.2.2.2.2.1=some (decide (r.ex=r'.ex)):=d56_eq (by show r.ex.length<=_;omega);have h8:d56 (rdT r).2.2.2.2.2.2.2 (rdT r').2.2.2.2.2.2.2=some (decide (r.ti=r'.ti)):=d56_eq (by show r.ti.length<=_;omega);rw[h6,h7,h8];simp only[xaa];have key:decide (r=r')=(decide (r.votes=r'.votes)&&(decide (r.keep=r'.keep)&&(decide ([r.quota,r.exh,r.sur]=[r'.quota,r'.exh,r'.sur])&&(decide (r.el=r'.el)&&(decide (r.ex=r'.ex)&&decide (r.ti=r'.ti)))))):=by rw[xeb];simp only[xak,xal];rw[rd_ext];simp only[xio,and_true];grind
 rw[key];cases decide (r.votes=r'.votes)<;>cases decide (r.keep=r'.keep)<;>cases decide ([r.quota,r.exh,r.sur]=[r'.quota,r'.exh,r'.sur])<;>cases decide (r.el=r'.el)<;>cases decide (r.ex=r'.ex)<;>rfl
def d178_gen{a b:List Rat}(hl:a.length<=1000)(ha:∀q∈a,Sz 268435456 (rr q)):d178 (a.map rr) (b.map rr)=some (decide (a=b)):=by
 unfold d178;rw[xao,xao];by_cases h:a.length=b.length
 ·rw[zdt ((a.length:Int)=(b.length:Int)),xat,xaf];refine zeo (λi=>(a.map rr,b.map rr,(i:Int))) (λi=>!decide (a.getD i 0=b.getD i 0)) a.length (λ_=>Sum.inr false) (Sum.inl ()) rfl (λi hi _=>?_) (λ_=>?_) (λi hi hp _=>?_) (λh2=>?_)
  ·have hb:i<b.length:=by omega
   simp only[xao,dlt hi,dlt hb,zbp,xai,xab,tn,zck hi,zck hb,zzf (ha _ (zba hi)),xaa,wsx i];cases(decide (a.getD i 0=b.getD i 0))<;>rfl
  ·simp only[xao,nlt (xag a.length),xaf]
  ·have hc:a.getD i 0≠b.getD i 0:=by simpa using hp
   show some false=some (decide (a=b));rw[xah (λe=>hc (by rw[e]))]
  ·show some true=some (decide (a=b));rw[xae (list_eqQ h λi hi=>by simpa using h2 i hi)]
 ·rw[zdf ((a.length:Int)=(b.length:Int)),xap,xab,xah (λe=>h (by rw[e]))]
def d95_gen{r r':Rd}(h:r.Sm)(h':r'.Sm):d95 (rdT r) (rdT r')=some (decide (r=r')):=by
 have hl:=h.l;have ha:=h'.l;unfold d95;show(d178 (r.votes.map rr) (r'.votes.map rr)).bind _=_;rw[d178_gen h.v.1 h.v.2,xaa];show(bif decide (r.votes=r'.votes)then(d178 (r.keep.map rr) (r'.keep.map rr)).bind _ else _)=_;rw[d178_gen h.k.1 h.k.2];have g3:d179 (rdT r).2.2.1 (rdT r').2.2.1=some (decide (r.quota=r'.quota)):=zzf h.q;have g4:d179 (rdT r).2.2.2.1 (rdT r').2.2.2.1=some (decide (r.exh=r'.exh)):=zzf h.e;have g5:d179 (rdT r).2.2.2.2.1 (rdT r').2.2.2.2.1=some (decide (r.sur=r'.sur)):=zzf h.s;have h6:d26 (rdT r).2.2.2.2.2.1 (rdT r').2.2.2.2.2.1=some (decide (r.el=r'.el)):=d26_eq (by show r.el.length<=_;omega) (by show r'.el.length<=_;omega);have h7:d26 (rdT r).2.2.2.2.2.2.1 (rdT r').2.2.2.2.2.2.1=some (decide (r.ex=r'.ex)):=d26_eq (by show r.ex.length<=_;omega) (by show r'.ex.length<=_;omega);have h8:d26 (rdT r).2.2.2.2.2.2.2 (rdT r').2.2.2.2.2.2.2=some (decide (r.ti=r'.ti)):=d26_eq (by show r.ti.length<=_;omega) (by show r'.ti.length<=_;omega);rw[g3,g4,g5,h6,h7,h8];simp only[xaa];have key:decide (r=r')=(decide (r.votes=r'.votes)&&(decide (r.keep=r'.keep)&&(decide (r.quota=r'.quota)&&(decide (r.exh=r'.exh)&&(decide (r.sur=r'.sur)&&(decide (r.el=r'.el)&&(decide (r.ex=r'.ex)&&decide (r.ti=r'.ti)))))))):=by rw[xeb];simp only[xak,xal];exact rd_ext
 rw[key];cases decide (r.votes=r'.votes)<;>cases decide (r.keep=r'.keep)<;>cases decide (r.quota=r'.quota)<;>cases decide (r.exh=r'.exh)<;>cases decide (r.sur=r'.sur)<;>cases decide (r.el=r'.el)<;>cases decide (r.ex=r'.ex)<;>rfl
def zxz{rs:List Rd}{i:Nat}(hi:i<rs.length)(d:RD):(rs.map rdT).getD i d=rdT (rs.getD i ⟨[],[],0,0,0,[],[],[]⟩):=by rw[xad,xci,xaj hi,xad,xaj hi];rfl
def list_eqR{a b:List Rd}(hl:a.length=b.length)(h:∀i,i<a.length->a.getD i ⟨[],[],0,0,0,[],[],[]⟩=b.getD i ⟨[],[],0,0,0,[],[],[]⟩):a=b:=by refine xhk hl λi h1 h2=>?_;have:=h i h1;rw[xad,xad,xaj h1,xaj h2]at this;exact this
def d22_gen{m s d n m' s' d' n':Int}{rs rs':List Rd}{w0 w1:List Int}(hm:m=m'/\s=s'/\d=d'/\n=n')(h:∀r∈rs,r.Sm)(h':∀r∈rs',r.Sm)(hl:rs.length<=1000)(hw:w0.length<=281474976710656)(hw':w1.length<=281474976710656) :
  d22 (m,s,d,n,rs.map rdT,w0) (m',s',d',n',rs'.map rdT,w1)=some (decide (rs=rs')&&decide (w0=w1)):=by
 obtain⟨rfl,rfl,rfl,rfl⟩:=hm;unfold d22 d52;simp only[zal,xbh,xat,xap,xab,d26_eq hw hw',xaa,xaf,xao];have e:∀(X:Option Bool) (b:Bool),X=some b->(X.bind λr=>some r)=some b:=λX b h=>by rw[h];rfl
 refine e _ _ ?_;by_cases hw2:w0=w1
 ·rw[xae hw2,xat,xap,xab,Bool.and_true];by_cases hll:rs.length=rs'.length
  ·rw[zdt ((rs.length:Int)=(rs'.length:Int)),xat,xaf];refine zeo (λi=>((m,s,d,n,rs.map rdT,w0),(m,s,d,n,rs'.map rdT,w1),(i:Int))) (λi=>!decide (rs.getD i ⟨[],[],0,0,0,[],[],[]⟩=rs'.getD i ⟨[],[],0,0,0,[],[],[]⟩)) rs.length (λ_=>Sum.inr false) (Sum.inl ()) rfl (λi hi _=>?_) (λ_=>?_) (λi hi hp _=>?_) (λh2=>?_)
   ·have ha:i<rs'.length:=by omega
    simp only[xao,dlt hi,dlt ha,zbp,xai,xab,tn,zxz hi,zxz ha,d95_gen (h _ (zba hi)) (h' _ (zba ha)),xaa,wsx i];cases(decide (rs.getD i ⟨[],[],0,0,0,[],[],[]⟩=rs'.getD i ⟨[],[],0,0,0,[],[],[]⟩))<;>rfl
   ·simp only[xao,nlt (xag rs.length),xaf]
   ·have hb:rs.getD i ⟨[],[],0,0,0,[],[],[]⟩≠rs'.getD i ⟨[],[],0,0,0,[],[],[]⟩:=by simpa using hp
    show some false=some (decide (rs=rs'));rw[xah (λe=>hb (by rw[e]))]
   ·show some true=some (decide (rs=rs'));rw[xae (list_eqR hll λi hi=>by simpa using h2 i hi)]
  ·rw[zdf ((rs.length:Int)=(rs'.length:Int)),xap,xab,xah (λe=>hll (by rw[e]))]
 ·rw[xah hw2,xap,xat,xaf,Bool.and_false];try rfl
def Nm(q:Rat):Prop:=0<=q/\Sz 64 (rr q)
def zuq(n:Nat)(l:List Int):Prop:=(∀x∈l,0<=x/\x<(n:Int))/\l.Pairwise λx y=>x<y
structure RdV(n:Nat)(r:Rd):Prop where
 vl:r.votes.length=n
 kl:r.keep.length=n
 v:∀q∈r.votes,Nm q
 k:∀q∈r.keep,Nm q
 q:Nm r.quota
 e:Nm r.exh
 s:Nm r.sur
 el:zuq n r.el
 ex:zuq n r.ex
 ti:zuq n r.ti
 ex1:r.ex.length<=1
def d284_refl{a:List Int}(ha:a.length<=281474976710656):d284 a a=some true:=by
 unfold d284;rw[xae rfl,xat,xaf];refine zaa (λi=>(a,a,(a.length:Int),(i:Int))) a.length rfl (λi hi=>?_) (b:=(Sum.inl ():Unit⊕Bool)) ?_ rfl;·simp only[dlt hi,zbp,xai,xab,tn,xbh,xat,xaf,wsx i]
 ·simp only[nlt (xag a.length),xaf]
def d200_eq{q:Rat}(h:Nm q):d200 (rr q)=some true:=by
 obtain⟨h0,h1,h2⟩:=h;unfold d200 d252;rw[zjt (zxv q) ⟨by omega,by omega⟩,zsh];simp only[xaa,d284_refl (show(rr q).2.1.length<=281474976710656 by omega),d284_refl (show(rr q).2.2.length<=281474976710656 by omega),beq_self_eq_true,xab,zdt (((rr q).2.1.length:Int)<=64),zdt (((rr q).2.2.length:Int)<=64)];have:¬q.num<0:=by have:=Rat.num_nonneg.2 h0;omega
 show some (!decide (q.num<0))=_;rw[xah this];rfl
def d199_eq{n:Nat}{l:List Int}(h:zuq n l)(hl:l.length<=1000):d199 l (n:Int)=some true:=by
 unfold d199;refine zaa (λi=>(l,(n:Int),l,(l.length:Int),(i:Int))) l.length rfl (λi hi=>?_) (b:=(Sum.inl ():Unit⊕Bool)) ?_ rfl
 ·have hm:=h.1 _ (zbx hi);simp only[dlt hi,zbp,xai,xab,tn,zal,zdf (l.getD i 0<0),zdf ((n:Int)<=l.getD i 0),xap,wsx i];cases i with
  |zero=>simp
  |succ j=>
   have hp:=xex.1 h.2 j (j+1) (by omega) hi (by omega);have e1:l.getD j 0=l[j]'(by omega):=by rw[xad,xaj (by omega)];rfl
   have e2:l.getD (j+1) 0=l[j+1]'hi:=by rw[xad,xaj hi];rfl
   have ew:w (((j+1:Nat):Int)-1)=(j:Int):=zur (by omega);simp only[zdt ((0:Int)<((j+1:Nat):Int)),xab,ew,zbp,dlt (show j<l.length by omega),xai,tn];rw[xah (show ¬l.getD (j+1) 0<=l.getD j 0 by rw[e1,e2];omega),xaf]
 ·simp only[nlt (xag l.length),xaf]
def zuk{n:Nat}{l:List Int}(h:zuq n l)(hn:n<=7):l.length<=7:=by have:isB (n:Int) l:=⟨h.2.imp λ{a b} h=>by omega,h.1⟩;exact xay (zjk this (by omega)) (by omega)
def d136_eq{n:Nat}(hn:n<=7){r:Rd}(h:RdV n r):d136 (rdT r) (n:Int)=some true:=by
 unfold d136;simp only[zal];have a1:((rdT r).1.length:Int)=(n:Int):=by show((r.votes.map rr).length:Int)=_;rw[xao,h.vl]
 have a2:((rdT r).2.1.length:Int)=(n:Int):=by show((r.keep.map rr).length:Int)=_;rw[xao,h.kl]
 have a3:¬(1:Int)<((rdT r).2.2.2.2.2.2.1.length:Int):=by have:=h.ex1;show ¬(1:Int)<(r.ex.length:Int);omega
 simp only[xae a1,xae a2,xah a3,xat,xap,xab,xaf];have hd:∀l∈[r.el,r.ex,r.ti],zuq n l:=λl hl=>by
  simp only[xar,xdj,xhb]at hl;rcases hl with rfl|rfl|rfl
  ·exact h.el
  ·exact h.ex
  ·exact h.ti
 have hb:∀l∈[r.votes,r.keep,[r.quota,r.exh,r.sur]],l.length<=1000/\∀q∈l,Nm q:=λl hl=>by
  simp only[xar,xdj,xhb]at hl;rcases hl with rfl|rfl|rfl
  ·exact⟨by have:=h.vl;omega,h.v⟩
  ·exact⟨by have:=h.kl;omega,h.k⟩
  ·refine⟨by simp,λq hq=>?_⟩;simp only[xar,xdj,xhb]at hq;rcases hq with rfl|rfl|rfl
   ·exact h.q
   ·exact h.e
   ·exact h.s
 refine zaa (λi=>((n:Int),rdT r,[r.el,r.ex,r.ti],(3:Int),(i:Int))) 3 rfl (λi hi=>?_) (b:=(Sum.inl (rdT r):RD⊕Bool)) ?_ ?_;·have hm:[r.el,r.ex,r.ti].getD i []∈[r.el,r.ex,r.ti]:=zba (by simpa using hi);have hA:=hd _ hm;have e3:decide ((i:Int)<3)=true:=xae (by omega);have e4:decide ((i:Int)<(([r.el,r.ex,r.ti]:List (List Int)).length:Int))=true:=xae (by simp;omega);simp only[e3,e4,zbp,xai,xab,tn,d199_eq hA (by have:=zuk hA hn;omega),xaa,xat,xaf,wsx i]
 ·rfl
 ·show(zac _ ([r.votes.map rr,r.keep.map rr,[rr r.quota,rr r.exh,rr r.sur]],(3:Int),(0:Int))).bind _=_;have eL:([r.votes.map rr,r.keep.map rr,[rr r.quota,rr r.exh,rr r.sur]]:List (List Rt))=[r.votes,r.keep,[r.quota,r.exh,r.sur]].map (List.map rr):=rfl;rw[eL];generalize hLg:[r.votes,r.keep,[r.quota,r.exh,r.sur]]=LL at hb;have he:LL.length=3:=by rw[<-hLg];rfl
  refine zaa (λi=>(LL.map (List.map rr),(3:Int),(i:Int))) 3 rfl (λi hi=>?_) (b:=(Sum.inl ():Unit⊕Bool)) ?_ rfl
  ·have ha:i<LL.length:=by omega
   obtain⟨g1,g2⟩:=hb _ (zba (d:=[]) ha);have e3:decide ((i:Int)<3)=true:=xae (by omega);have hc:∀d,(LL.map (List.map rr)).getD i d=(LL.getD i []).map rr:=λd=>by rw[xad,xci,xaj ha,xad,xaj ha];rfl
   simp only[e3,xao,dlt ha,zbp,xai,xab,tn,hc];generalize LL.getD i []=l at g1 g2;refine zaa (λj=>(LL.map (List.map rr),(3:Int),(i:Int),l.map rr,(l.length:Int),(j:Int))) l.length rfl (λj hj=>?_) (b:=Sum.inl (LL.map (List.map rr),(3:Int),(i:Int))) ?_ ?_;·simp only[xao,dlt hj,zbp,xai,xab,tn,zck hj,d200_eq (g2 _ (zba hj)),xaa,xat,xaf,wsx j]
   ·simp only[nlt (xag l.length),xaf]
   ·simp only[wsx i]
  ·simp
def gl(G:List Int):List Bool:=lst (λc:Nat=>decide ((c:Int)∈G)) 7
def gl_nil:gl []=[false,false,false,false,false,false,false]:=by decide
def gl_get(G:List Int){k:Nat}(hk:k<7)(d:Bool):(gl G).getD k d=decide ((k:Int)∈G):=zaf _ hk d
def gl_set(G:List Int)(k:Nat):(gl G).set k true=gl (G++[(k:Int)]):=by
 unfold gl;rw[zcl];refine zai λi hi=>?_;by_cases h:i=k;·subst h;rw[zce];simp
 ·rw[zfg _ _ h];have:(i:Int)≠(k:Int):=by omega
  simp[this]
def zta{β:Type}(f:Rd->List β){rs:List Rd}{i:Nat}(hi:i<rs.length):(rs.take (i+1)).flatMap f=(rs.take i).flatMap f++f (rs.getD i ⟨[],[],0,0,0,[],[],[]⟩):=by rw[zaw rs ⟨[],[],0,0,0,[],[],[]⟩ hi,xfj];simp
def flat_split{β:Type}(f:Rd->List β){rs:List Rd}{i:Nat}(hi:i<rs.length):rs.flatMap f=(rs.take i).flatMap f++f (rs.getD i ⟨[],[],0,0,0,[],[],[]⟩)++(rs.drop (i+1)).flatMap f:=by rw[<-zta f hi,<-xfj,xcp]
def zms{n:Nat}(hn:n<=7){rs:List Rd}(hv:∀r∈rs,RdV n r):(rs.flatMap Rd.el).length<=7*rs.length:=by
 induction rs with
 |nil=>simp
 |cons r rs ih=>have h1:=zuk (hv r (by simp)).el hn;have h2:=ih λx hx=>hv x (by simp[hx]);rw[xdb,xbo,xbd];omega
def zki(r:Rd):List Int:=r.el++r.ex
def d67_eq{m s d:Int}{n:Nat}{rs:List Rd}(hm:1<=m/\m<=3)(hs:1<=s/\s<=5)(hd:0<=d/\d<=6)(hn:1<=n/\n<=7)(hl:1<=rs.length/\rs.length<=600)(hv:∀r∈rs,RdV n r)(hg:(rs.flatMap zki).Nodup) :
  d67 (m,s,d,(n:Int),rs.map rdT,rs.flatMap Rd.el)=some true:=by
 have hb:=hn.2;have hh:d135 (m,s,d,(n:Int),rs.map rdT,rs.flatMap Rd.el)=some true:=by unfold d135;simp only[xao,xae hm.1,xae hm.2,xae hs.1,xae hs.2,xae hd.1,xae hd.2,zdt ((1:Int)<=(n:Int)),zdt ((n:Int)<=7),zdt ((1:Int)<=(rs.length:Int)),zdt ((rs.length:Int)<=600),xab]
 unfold d67;rw[hh];simp only[xaa,xat,xaf,<-gl_nil,xao];generalize hT:((m,s,d,(n:Int),rs.map rdT,rs.flatMap Rd.el):Int×(Int×(Int×(Int×(List RD×List Int)))))=T;have hu:T.2.2.2.1=(n:Int):=by rw[<-hT]
 have hz:T.2.2.2.2.2=rs.flatMap Rd.el:=by rw[<-hT]
 refine zaa (λi=>(T,gl ((rs.take i).flatMap zki),(rs.take i).flatMap Rd.el,rs.map rdT,(rs.length:Int),(i:Int))) rs.length ?_ (λi hi=>?_) (b:=Sum.inl (T,rs.flatMap Rd.el)) ?_ ?_;·rw[<-hT];rfl
 ·have hV:=hv _ (zba (d:=⟨[],[],0,0,0,[],[],[]⟩) hi);have h5:=flat_split zki hi;rw[h5]at hg;have he:=(xdh.1 hg).1;have hp:=zms (rs:=rs.take i) hb λr hr=>hv r (xca hr);rw[xax]at hp;rw[zta zki hi,zta Rd.el hi];simp only[xao,dlt hi,zbp,xai,xab,tn,zxz hi,hu];generalize rs.getD i ⟨[],[],0,0,0,[],[],[]⟩=r at hV he;generalize(rs.take i).flatMap zki=G at he;generalize(rs.take i).flatMap Rd.el=W at hp;simp only[d136_eq hb hV,xaa,xat,xaf];have eEl:(((((((rdT r).2).2).2).2).2).1:List Int)=r.el:=rfl;have eEx:((((((((rdT r).2).2).2).2).2).2).1:List Int)=r.ex:=rfl;simp only[eEl,eEx];have h4:∀l∈[r.el,r.ex],∀x∈l,∃k:Nat,x=(k:Int)/\k<7:=λl hl x hx=>by
   simp only[xar,xdj,xhb]at hl;rcases hl with rfl|rfl
   ·have:=hV.el.1 x hx;exact⟨x.toNat,by omega,by omega⟩
   ·have:=hV.ex.1 x hx;exact⟨x.toNat,by omega,by omega⟩
  have ho:∀l∈[r.el,r.ex],l.length<=7:=λl hl=>by
   simp only[xar,xdj,xhb]at hl;rcases hl with rfl|rfl
   ·exact zuk hV.el hb
   ·exact zuk hV.ex hb
  have h3:zki r=[r.el,r.ex].flatten:=by simp[zki]
  rw[h3]at he ⊢;have h2:=zuk hV.el hb;refine zaa (λj=>(T,gl (G++([r.el,r.ex].take j).flatten),W,rdT r,rs.map rdT,(rs.length:Int),(i:Int),[r.el,r.ex],(2:Int),(j:Int))) 2 ?_ (λj hj=>?_) (b:=Sum.inl (T,gl (G++[r.el,r.ex].flatten),W,rdT r,rs.map rdT,(rs.length:Int),(i:Int))) ?_ ?_;·simp
  ·have hf:j < [r.el,r.ex].length:=by simpa using hj
   have e2:decide ((j:Int)<2)=true:=xae (by omega);have hq:=zba (d:=([]:List Int)) hf;have ht:=h4 _ hq;have h0:=ho _ hq;have etk:[r.el,r.ex].take (j+1)=[r.el,r.ex].take j++[[r.el,r.ex].getD j []]:=zaw _ _ hf;have ha:(G++([r.el,r.ex].take j).flatten++[r.el,r.ex].getD j []).Nodup:=by
    have e:[r.el,r.ex].flatten=([r.el,r.ex].take (j+1)).flatten++([r.el,r.ex].drop (j+1)).flatten:=by rw[<-xka,xcp]
    rw[e,etk,xka,List.flatten_cons,List.flatten_nil,xbn,<-xbv,<-xbv]at he;exact(xdh.1 he).1
   rw[etk,xka,List.flatten_cons,List.flatten_nil,xbn,<-xbv];simp only[e2,dlt hf,zbp,xai,xab,tn];generalize hLL:[r.el,r.ex]=LL at *;generalize LL.getD j []=l at ht h0 ha;generalize G++(LL.take j).flatten=H at ha;refine zaa (λk=>(T,gl (H++l.take k),W,rdT r,rs.map rdT,(rs.length:Int),(i:Int),LL,(2:Int),(j:Int),l,(l.length:Int),(k:Int))) l.length ?_ (λk hk=>?_) (b:=Sum.inl (T,gl (H++l),W,rdT r,rs.map rdT,(rs.length:Int),(i:Int),LL,(2:Int),(j:Int))) ?_ ?_;·simp
   ·obtain⟨x,ex,hx⟩:=ht _ (zba (d:=(0:Int)) hk);have etk2:l.take (k+1)=l.take k++[l.getD k 0]:=zaw _ _ hk;have hw:¬(x:Int)∈H++l.take k:=by have e:l=l.take (k+1)++l.drop (k+1):=(xcp _ _).symm;rw[e,etk2,<-xbv,<-xbv,ex]at ha;have h1:=(xdh.1 (xdh.1 ha).1).2.2;exact λhc=>h1 _ hc _ (by simp) rfl
    rw[etk2,<-xbv];simp only[dlt hk,zbp,xai,xab,tn,ex,zdt ((x:Int)<7),gl_get _ hx,xah hw,xaf,gl_set,wsx k]
   ·simp only[nlt (xag l.length),xaf,xaz]
   ·simp only[wsx j]
  ·simp
  ·have hy:(rdT r).2.2.2.2.2.1=r.el:=rfl;simp only[hy];rw[zmq (by omega),xab];simp only[wsx i]
 ·simp only[nlt (xag rs.length),xaf,xaz]
 ·have hp:=zms hb hv;simp only[hz];rw[d56_eq (by omega),xae rfl];rfl
abbrev ST:=CT×(List Grp×(List Int×(List Bool×(List Bool×(Int×List (List Rt))))))
abbrev IS:=ST×(Int×(List Int×(Int×(Bool×Int))))
abbrev TS:=ST×(Int×(List Bool×(List Bool×(List Rt×(List (List Int)×List Rt)))))
abbrev KK:=(ST×Unit)⊕(IS⊕(TS⊕Unit))
abbrev TP:=Int×(Int×(Int×(Int×(List RD×List Int))))
noncomputable def rnd (k:KK):Option (RD×Bool×KK):=zlw k
inductive Mach:KK->List Rd->Prop
 |last {k k':KK} {r:Rd}:rnd k=some (rdT r,true,k')->Mach k [r]
 |next {k k':KK} {r:Rd} {rest:List Rd}:rnd k=some (rdT r,false,k')->Mach k' rest->Mach k (r::rest)
def Mach.ne{k:KK}{rest:List Rd}(h:Mach k rest):rest≠ []:=by cases h<;>simp
noncomputable def chkR (len:Nat):List Rd->List Rd->Nat->Int×Int
 |_,[],_=>((len:Int),14)
 | [],_::_,i=>((i:Int),14)
 |r::rest,t::ts,i=>if r=t then(if rest=[]then(if ts=[]then((len:Int),0)else(((i+1:Nat):Int),14))else chkR len rest ts (i+1))else((i:Int),14)
def chkR_zero{len:Nat}:∀{rest ts:List Rd} {i:Nat},rest≠ []->((chkR len rest ts i).2=0↔rest=ts)
 |r::rest,[],i,_=>by
  unfold chkR;constructor;·intro h;cases h
  ·intro h;cases h
 |r::rest,t::ts,i,_=>by
  unfold chkR;by_cases h1:r=t
  ·rw[if_pos h1];by_cases h2:rest=[]
   ·rw[if_pos h2];by_cases h3:ts=[];·rw[if_pos h3,h1,h2,h3];simp
    ·rw[if_neg h3,h1,h2];constructor;·intro h;cases h
     ·intro h;simp only[xio,xgl]at h;exact absurd h.symm h3
   ·rw[if_neg h2,chkR_zero h2,h1];simp
  ·rw[if_neg h1];constructor;·intro h;cases h
   ·intro h;simp only[xio]at h;exact absurd h.1 h1
 | [],_,_,h=>absurd rfl h
def zug{len:Nat}:∀{rest:List Rd} {i:Nat},rest≠ []->chkR len rest rest i=((len:Int),0)
 |r::rest,i,_=>by
  unfold chkR;rw[if_pos rfl];by_cases h:rest=[];·rw[if_pos h,if_pos h]
  ·rw[if_neg h];exact zug h
 | [],_,h=>absurd rfl h
def d34_eq{c:CT}{gs:List Grp}{lots:List Int}(hg:GsOK gs)(hl:lots.length<=281474976710656)(hfit:zlc c.2.2.1 c gs lots=0){m s d n:Int}{ts:List Rd}{ws:List Int}
  (hv:d67 (m,s,d,n,ts.map rdT,ws)=some true) (h1:m=c.2.2.1) (h2:s=c.2.2.2.1) (h3:d=c.2.2.2.2.2.1) (h4:n=(c.2.1.length:Int)) (ht:∀r∈ts,r.Sm) (hlt:ts.length<=1000)
  {k:KK} (hk:d68 c gs lots=some k) {rest:List Rd} (hm:Mach k rest) (hr:∀r∈rest,r.Sm) :
  d34 c gs lots (m,s,d,n,ts.map rdT,ws)=some (chkR ts.length rest ts 0):=by
 subst h1 h2 h3 h4;unfold d34;rw[d66_eq _ c hg hl,hfit];simp only[xaa,xbh,xat,xaf,zal,hv,xap,xab,hk,xao];generalize hT:((c.2.2.1,c.2.2.2.1,c.2.2.2.2.2.1,(c.2.1.length:Int),ts.map rdT,ws):TP)=T;have hd:T.2.2.2.2.1.length=ts.length:=by rw[<-hT];simp
 generalize hC:chkR ts.length rest ts 0=C;refine zfs (Q:=λz=>z=some C) (λ(m:Nat) (a:TP×KK×List RD×Int×Int)=>∃(k:KK) (rest:List Rd) (i:Nat),a=(T,k,ts.map rdT,(ts.length:Int),(i:Int))/\Mach k rest/\(∀r∈rest,r.Sm)/\i<=ts.length/\m=ts.length-i/\chkR ts.length rest (ts.drop i) i=C) ts.length ⟨k,rest,0,by rw[<-hT];rfl,hm,hr,xbx _,by omega,by rw[xhi];exact hC⟩ ?_;rintro m a ⟨k,rest,i,rfl,hm,hr,hi,rfl,hc⟩;by_cases hlt2:i<ts.length
 ·have hf:ts.drop i=ts.getD i ⟨[],[],0,0,0,[],[],[]⟩::ts.drop (i+1):=by rw[xey hlt2,xad,xaj hlt2];rfl
  have hb:=ht _ (zba (d:=⟨[],[],0,0,0,[],[],[]⟩) hlt2);rw[hf]at hc;have he:(ts.drop (i+1)).length=ts.length-(i+1):=xeq;have ewi:w ((i:Int)+1)=((i+1:Nat):Int):=zmh (by omega);simp only[dlt hlt2,zbp,xai,xab,xao,tn,zxz hlt2];generalize ts.getD i ⟨[],[],0,0,0,[],[],[]⟩=t at hc hb;cases hm with
  | @last _ k' r hrnd=>
   have ha:∀{Z:Type} (f:RD×Bool×KK->Option Z),(zlw k).bind f=f (rdT r,true,k'):=λf=>by show(rnd k).bind f=_;rw[hrnd];rfl
   unfold chkR at hc;by_cases e:r=t
   ·rw[if_pos e,if_pos rfl]at hc;refine .inr ?_;by_cases e2:i+1<ts.length;·rw[if_neg (λh=>by rw[h]at he;simp at he;omega)]at hc;refine⟨Sum.inr (((i+1:Nat):Int),14),(ha _).trans ?_,by rw[<-hc]⟩;simp only[xaa,d69_eq (hr r (by simp)) hb,xae e,xat,xaf,xab,ewi,hd,zdt (((i+1:Nat):Int)<(ts.length:Int))]
    ·rw[if_pos (xec.1 (by rw[he];omega))]at hc;refine⟨Sum.inr ((ts.length:Int),0),(ha _).trans ?_,by rw[<-hc]⟩;simp only[xaa,d69_eq (hr r (by simp)) hb,xae e,xat,xaf,xab,ewi,hd,zdf (((i+1:Nat):Int)<(ts.length:Int))]
   ·rw[if_neg e]at hc;refine .inr ⟨Sum.inr ((i:Int),14),(ha _).trans ?_,by rw[<-hc]⟩;simp only[xaa,d69_eq (hr r (by simp)) hb,xah e,xap,xab]
  | @next _ k' r rest' hrnd hm'=>
   have ha:∀{Z:Type} (f:RD×Bool×KK->Option Z),(zlw k).bind f=f (rdT r,false,k'):=λf=>by show(rnd k).bind f=_;rw[hrnd];rfl
   unfold chkR at hc;by_cases e:r=t;·rw[if_pos e,if_neg hm'.ne]at hc;refine .inl ⟨(T,k',ts.map rdT,(ts.length:Int),((i+1:Nat):Int)),_,(ha _).trans ?_,(by omega:ts.length-(i+1)<ts.length-i),k',rest',i+1,rfl,hm',λr hr'=>hr r (by simp[hr']),by omega,rfl,hc⟩;simp only[xaa,d69_eq (hr r (by simp)) hb,xae e,xat,xaf,ewi]
   ·rw[if_neg e]at hc;refine .inr ⟨Sum.inr ((i:Int),14),(ha _).trans ?_,by rw[<-hc]⟩;simp only[xaa,d69_eq (hr r (by simp)) hb,xah e,xap,xab]
 ·have:ts.drop i=[]:=xfy (by omega);rw[this]at hc;refine .inr ⟨Sum.inl T,by simp only[nlt (show ts.length<=i by omega),xaf],?_⟩;simp only[hd];cases rest with
  |nil=>exact absurd rfl hm.ne
  |cons r rest=>unfold chkR at hc;rw[<-hc]
def zga(lots:List Int)(least:Bool):List (List Rat)->Int->Int->Bool
 | [],a,b=>if least then decide (zan lots b<zan lots a)else decide (zan lots a<zan lots b)
 |r::rs,a,b=>if zam r a=zam r b then zga lots least rs a b else if least then decide (zam r a<zam r b)else decide (zam r b<zam r a)
def zsb{lots:List Int}{least:Bool}{a b:Int}:∀{E:List (List Rat)},zga lots least E a b=true->zga lots least E b a=false
 | [],h=>by
  cases least;·have h1:zan lots a<zan lots b:=xbc h;exact xah (by omega)
  ·have h1:zan lots b<zan lots a:=xbc h;exact xah (by omega)
 |r::rs,h=>by
  unfold zga at h ⊢;by_cases e:zam r a=zam r b;·rw[if_pos e]at h;rw[if_pos e.symm];exact zsb h
  ·rw[if_neg e]at h;rw[if_neg (λe'=>e e'.symm)];cases least;·have h1:zam r b<zam r a:=xbc h;exact xah (xhp.2 (xhz h1))
   ·have h1:zam r a<zam r b:=xbc h;exact xah (xhp.2 (xhz h1))
def pickR(lots:List Int)(least:Bool)(E:List (List Rat))(l:List Int):Int:=if(zmv least E l).length=1 then(zmv least E l).headD 0 else zpw lots least (zmv least E l)
def extr_le{least:Bool}{r:Int->Rat}{l:List Int}{x k:Int}(h:x∈zjq least r l)(hk:k∈l):if least then r x<=r k else r k<=r x:=by
 have:=xbl.1 (xfw.1 h).2 k hk;cases least;·simpa using this
 ·simpa using this
def not_extr{least:Bool}{r:Int->Rat}{l:List Int}{x:Int}(hx:x∈l)(h:x∉zjq least r l):∃k∈l,if least then r k<r x else r x<r k:=by
 have h1:¬(l.all λk=>if least then decide (r x<=r k)else decide (r k<=r x))=true:=λe=>h (xfw.2 ⟨hx,e⟩);rw[xbl]at h1;simp only[Classical.not_forall]at h1;obtain⟨k,hk,h2⟩:=h1;refine⟨k,hk,?_⟩;cases least;·simp only[xbb,xcg,xak]at h2 ⊢;exact xii.1 h2
 ·simp only[if_true,xak]at h2 ⊢;exact xii.1 h2
def zpb{lots:List Int}{least:Bool}:∀{E:List (List Rat)} {l:List Int},l≠ []->(∀c∈l,c∈lots)->pickR lots least E l∈l/\∀c∈l,c≠pickR lots least E l->zga lots least E (pickR lots least E l) c=true
 | [],l,hne,hl=>by
  have e:pickR lots least [] l=if l.length=1 then l.headD 0 else zpw lots least l:=rfl
  rw[e];by_cases h1:l.length=1;·obtain⟨x,rfl⟩:=xcw.1 h1;exact⟨by simp,λc hc hn=>absurd (xba.1 hc) (by simpa using hn)⟩
  ·rw[if_neg h1];have hm:=byLot_mem (lots:=lots) (least:=least) hne;refine⟨hm,λc hc hn=>?_⟩;have h2:=byLot_ext lots least hne c hc;have h3:zan lots c≠zan lots (zpw lots least l):=λe=>hn (place_inj (hl c hc) e);show(if least then decide (zan lots c<zan lots (zpw lots least l))else decide (zan lots (zpw lots least l)<zan lots c))=true;cases least;·simp only[xbb,xcg]at h2 h3 ⊢;exact xae (by omega)
   ·simp only[if_true]at h2 h3 ⊢;exact xae (by omega)
 |r::rs,l,hne,hl=>by
  have e:pickR lots least (r::rs) l=pickR lots least rs (if 1<l.length then zjq least (zam r) l else l):=rfl;rw[e];by_cases h1:1<l.length
  ·rw[if_pos h1];obtain⟨h2,h3⟩:=zpb (E:=rs) (extr_ne (least:=least) (r:=zam r) hne) λc hc=>hl c (zoc hc);generalize pickR lots least rs (zjq least (zam r) l)=m at h2 h3;refine⟨zoc h2,λc hc hn=>?_⟩;unfold zga;by_cases hx:c∈zjq least (zam r) l
   ·have a1:=extr_le h2 hc;have a2:=extr_le hx (zoc h2);have eq:zam r m=zam r c:=by
     cases least;·simp only[xbb,xcg]at a1 a2;exact Rat.le_antisymm a2 a1
     ·simp only[if_true]at a1 a2;exact Rat.le_antisymm a1 a2
    rw[if_pos eq];exact h3 c hx hn
   ·obtain⟨k,hk,h4⟩:=not_extr hc hx;have a1:=extr_le h2 hk;cases least;·simp only[xbb,xcg]at h4 a1 ⊢;have h5:zam r c<zam r m:=xii.1 λe=>absurd h4 (xhp.2 (Rat.le_trans a1 e));rw[if_neg (λe=>by rw[e]at h5;exact xkf h5)];exact xae h5
    ·simp only[if_true]at h4 a1 ⊢;have h5:zam r m<zam r c:=xii.1 λe=>absurd h4 (xhp.2 (Rat.le_trans e a1));rw[if_neg (λe=>by rw[e]at h5;exact xkf h5)];exact xae h5
  ·rw[if_neg h1];have ha:l.length=1:=by
    cases l with
    |nil=>exact absurd rfl hne
    |cons x t=>simp at h1 ⊢;omega
   obtain⟨h2,h3⟩:=zpb (E:=rs) hne hl;obtain⟨x,rfl⟩:=xcw.1 ha;refine⟨h2,λc hc hn=>absurd ?_ hn⟩;rw[xba.1 hc,xba.1 h2]
def zlb{f:Int->Int->Bool}{m:Int}:∀{t:List Int} {x:Int},m∈x::t->(∀c∈x::t,c≠m->f m c=true/\f c m=false)->t.foldl (λb c=>if f c b then c else b) x=m
 | [],x,hm,_=>(xba.1 hm).symm
 |y::t,x,hm,h=>by
  rw[xfd];by_cases hx:x=m
  ·subst hx;by_cases hy:y=x;·subst hy;rw[show(if f y y then y else y)=y by split<;>rfl];exact zlb (by simp) λc hc hn=>h c (by rcases xar.1 hc with rfl|hc<;>simp[*]) hn
   ·rw[(h y (by simp) hy).2];exact zlb (by simp) λc hc hn=>h c (by rcases xar.1 hc with rfl|hc<;>simp[*]) hn
  ·have hmt:m∈y::t:=(xar.1 hm).resolve_left λe=>hx e.symm;by_cases hy:y=m;·subst hy;rw[(h x (by simp) hx).1];exact zlb (by simp) λc hc hn=>h c (xan _ hc) hn
   ·refine zlb (xan _ ((xar.1 hmt).resolve_left λe=>hy e.symm)) λc hc hn=>?_;rcases xar.1 hc with rfl|hc
    ·split;·exact h y (by simp) hy
     ·exact h x (by simp) hx
    ·exact h c (by simp[hc]) hn
def zuf{ties:Int}{E:List (List Rat)}{tied lots:List Int}{least:Bool}(hne:tied≠ [])(hl:∀c∈tied,c∈lots) :
  tied.tail.foldl (λb c=>if zga lots least (zau ties E) c b then c else b) (tied.headD 0)=zvc ties E tied lots least:=by
 obtain⟨h1,h2⟩:=zpb (lots:=lots) (least:=least) (E:=zau ties E) hne hl;have e:zvc ties E tied lots least=pickR lots least (zau ties E) tied:=rfl;rw[e];cases tied with
 |nil=>exact absurd rfl hne
 |cons x t=>exact zlb h1 λc hc hn=>⟨h2 c hc hn,zsb (h2 c hc hn)⟩
def zml{ties:Int}{E:List (List Rat)}{lots:List Int}{least:Bool}{x:Int}(hx:x∈lots):zvc ties E [x] lots least=x:=by rw[<-zuf (by simp) (by simpa using hx)];rfl
end Go.Proofs.YtamgmpngdmnadaaGreat
