/- Part 14 of what stands below the statement. -/
import Derived.Test.YtamgmpngdmnadaaGreatE13
open Go Go.Proofs Go.X
namespace Go.Proofs.YtamgmpngdmnadaaGreat
set_option linter.unusedVariables false
set_option maxRecDepth 100000
noncomputable section
abbrev uc11:=(Bool×(List Int×List Int))
abbrev uc7:=(List uc11×(List uc11×(uc11×(uc11×(uc11×(List Int×(List Int×List Int)))))))
abbrev uc6:=(Int×(Int×(Int×(Int×(List uc7×List Int)))))
abbrev uc5:=(uc6×Int)
abbrev uc9:=(List Int×(Int×(Int×uc11)))
abbrev uc10:=(List uc11)
abbrev uc12:=(List Int×Int)
abbrev uc13:=(List Int)
abbrev uc8:=(List Int×(List uc13×(Int×(Int×(Int×(Int×(Int×(Int×Int))))))))
abbrev uc3:=(uc8×(List Int×(Int×(Int×(List uc9×(List Int×(List uc11×(Int×(List uc10×uc6)))))))))
abbrev uc0:=(uc6×uc3)
abbrev uc1:=(uc3×uc7)
abbrev uc2:=(uc3×uc10)
abbrev uc4:=(uc8×(List uc12×(List Int×(Int×(List Int×(List Int×(Int×(List uc10×(Int×(Int×uc6))))))))))
def d89(p0:uc4):Option (Bool×uc4):=
 (d152 p0.1.2.2.2.2.2.1 p0.2.2.2.2.2.1 p0.2.1).bind fun r=>
 (zae (β:=(uc4×uc13×Int×Int)) (fun((x,y,z,aa,q,ab,k):uc4×uc13×Int×Int×uc13×Int×Int)=>
 bif (decide (k<ab))then
 bif (decide (0≤k)&&decide (k<(q.length:Int)))then
 some (Sum.inl (x,y,z,(w (aa+(List.getD q (Int.toNat k) 0))),q,ab,(w (k+1))))
 else none
 else
 some (Sum.inr (x,y,z,aa))) (p0,r.1,r.2.1,0,r.1,(r.1.length:Int),0)).bind fun((e,s,ay,t):uc4×uc13×Int×Int)=>
 bif (!decide ((w (e.1.2.2.2.1+1))=0))then
 (d153 e s).bind fun az=>
 (d153 e e.2.2.2.2.2.1).bind fun ba=>
 (d154 (w ((w (Int.tdiv t (w (e.1.2.2.2.1+1))))+1)) e.2.2.2.1).bind fun bb=>
 (d154 ay e.2.2.2.1).bind fun bc=>
 (d156 e s (w ((w (Int.tdiv t (w (e.1.2.2.2.1+1))))+1))).bind fun be=>
 (d155 e (az,ba,bb,bc,(false,[],[]),[],[],[]) be).bind fun u=>
 (d157 u.1 1).bind fun ac=>
 (zae (β:=(uc4×uc13×Int×uc7×Int)) (fun((ae,l,m,af,ag,h,ah,g):uc4×uc13×Int×uc7×Int×uc13×Int×Int)=>
 bif (decide (g<ah))then
 bif (decide (0≤g)&&decide (g<(h.length:Int)))then
 bif (decide (0≤(List.getD h (Int.toNat g) 0))&&decide ((List.getD h (Int.toNat g) 0)<(l.length:Int)))then
 some (Sum.inl (ae,l,m,af,(w (ag+(bif (decide (0<(w ((List.getD l (Int.toNat (List.getD h (Int.toNat g) 0)) 0)-m))))then(w ((List.getD l (Int.toNat (List.getD h (Int.toNat g) 0)) 0)-m))else 0))),h,ah,(w (g+1))))
 else none
 else none
 else
 some (Sum.inr (ae,l,m,af,ag))) (u.1,s,(w ((w (Int.tdiv t (w (e.1.2.2.2.1+1))))+1)),u.2,0,ac,(ac.length:Int),0)).bind fun((a,ai,aj,b,i):uc4×uc13×Int×uc7×Int)=>
 (d154 i a.2.2.2.1).bind fun n=>
 letJ (fun((f,o,ak,bf,al):uc4×uc7×Int×Int×Bool)=>
 letJ (fun((c,j,bg,bh):uc4×uc7×Int×Bool)=>
 bif (decide ((c.2.2.2.2.2.2.2.1.length:Int)+(([j.1]:List uc10).length:Int)≤LIM))then
 bif (decide ((c.2.2.2.2.2.2.2.2.2.2.2.2.2.2.1.length:Int)+(([j]:List uc7).length:Int)≤LIM))then
 bif (decide ((c.2.2.2.2.2.2.2.2.2.2.2.2.2.2.2.length:Int)+(j.2.2.2.2.2.1.length:Int)≤LIM))then
 some (!bh,(c.1,c.2.1,c.2.2.1,c.2.2.2.1,c.2.2.2.2.1,c.2.2.2.2.2.1,c.2.2.2.2.2.2.1,(c.2.2.2.2.2.2.2.1++[j.1]),c.2.2.2.2.2.2.2.2.1,bg,c.2.2.2.2.2.2.2.2.2.2.1,c.2.2.2.2.2.2.2.2.2.2.2.1,c.2.2.2.2.2.2.2.2.2.2.2.2.1,c.2.2.2.2.2.2.2.2.2.2.2.2.2.1,(c.2.2.2.2.2.2.2.2.2.2.2.2.2.2.1++[j]),(c.2.2.2.2.2.2.2.2.2.2.2.2.2.2.2++j.2.2.2.2.2.1)))
 else none
 else none
 else none) fun am=>
 bif (decide (0<(w ((o.2.2.2.2.2.1.length:Int)+(o.2.2.2.2.2.2.1.length:Int)))))then
 am ((f.1,f.2.1,f.2.2.1,f.2.2.2.1,f.2.2.2.2.1,f.2.2.2.2.2.1,f.2.2.2.2.2.2.1,f.2.2.2.2.2.2.2.1,bf,f.2.2.2.2.2.2.2.2.2),o,ak,al)
 else
 am (f,o,ak,al)) fun p=>
 bif (decide (a.2.2.2.2.2.2.1=a.1.2.2.2.1))then
 p (a,(b.1,b.2.1,b.2.2.1,b.2.2.2.1,n,b.2.2.2.2.2),i,(w ((a.2.2.2.2.2.2.2.2.2.2.2.2.2.2.1.length:Int)+1)),(decide (a.2.2.2.2.2.2.1=a.1.2.2.2.1)))
 else
 (d157 a 0).bind fun bi=>
 bif (decide ((w (a.2.2.2.2.2.2.1+(bi.length:Int)))≤a.1.2.2.2.1))then
 (d157 a 0).bind fun bj=>
 (d155 a (b.1,b.2.1,b.2.2.1,b.2.2.2.1,n,b.2.2.2.2.2) bj).bind fun an=>
 p (an.1,an.2,i,(w ((a.2.2.2.2.2.2.2.2.2.2.2.2.2.2.1.length:Int)+1)),true)
 else
 letJ (fun((ao,ap,bk,aq,v,ar,au,bl):uc4×uc13×Int×uc7×Int×Int×Bool×Bool)=>
 bif bl then
 (d159 ao aq ap v).bind fun av=>
 p (av.1,av.2,v,ar,au)
 else
 (d160 ao ap bk).bind fun bm=>
 p (bm,aq,v,ar,au)) fun ax=>
 bif (decide ((b.2.2.2.2.2.1.length:Int)=0))then
 (d158 a i (w ((a.2.2.2.2.2.2.2.2.2.2.2.2.2.2.1.length:Int)+1))).bind fun bn=>
 ax (a,ai,aj,(b.1,b.2.1,b.2.2.1,b.2.2.2.1,n,b.2.2.2.2.2),i,(w ((a.2.2.2.2.2.2.2.2.2.2.2.2.2.2.1.length:Int)+1)),(decide (a.2.2.2.2.2.2.1=a.1.2.2.2.1)),bn)
 else
 ax (a,ai,aj,(b.1,b.2.1,b.2.2.1,b.2.2.2.1,n,b.2.2.2.2.2),i,(w ((a.2.2.2.2.2.2.2.2.2.2.2.2.2.2.1.length:Int)+1)),(decide (a.2.2.2.2.2.2.1=a.1.2.2.2.1)),false)
 else none
def sg89:Sig:=⟨[(y130,(.io (.own 0 (.pr .sh (.pr .sh (.pr .sh (.pr .sh (.pr (.own 3 .sh) (.pr (.own 3 .sh) (.pr .sh (.pr (.own 97 .sh) (.pr .sh (.pr .sh (.pr .sh (.pr .sh (.pr .sh (.pr .sh (.pr (.own 103 .sh) (.own 3 .sh)))))))))))))))))))],[(y4,.sh)]⟩
theorem sim89:Sim Tryz.prog 89 sg89 d89:=uqz Tryz.func89 (zaa rfl) Tryz.call89 (by kernel_rfl) (by kernel_rfl) [.fn E152,.fn E153,.fn E154,.fn E156,.fn E155,.fn E157,.fn E158,.fn E159,.fn E160] (uqs (.seq (.reg [] [{},{},{},{},{},{},{},{},{},{},{},{},{},{},{fl:=1}]) (uqs (.seq (uqs (.block (.loop [(0,.v y130 (.own 0 (.pr .sh (.pr .sh (.pr .sh (.pr .sh (.pr (.own 3 .sh) (.pr (.own 3 .sh) (.pr .sh (.pr (.own 97 .sh) (.pr .sh (.pr .sh (.pr .sh (.pr .sh (.pr .sh (.pr .sh (.pr (.own 103 .sh) (.own 3 .sh)))))))))))))))))),(3,uqf),(4,uqa),(6,uqa),(34,uqf),(35,uqa),(36,uqa)] [(.brk 0,[(0,.v y130 (.own 0 (.pr .sh (.pr .sh (.pr .sh (.pr .sh (.pr (.own 3 .sh) (.pr (.own 3 .sh) (.pr .sh (.pr (.own 97 .sh) (.pr .sh (.pr .sh (.pr .sh (.pr .sh (.pr .sh (.pr .sh (.pr (.own 103 .sh) (.own 3 .sh)))))))))))))))))),(3,uqf),(4,uqa),(6,uqa)])] (uqs (.seq (.cond .nil .nil) (.seq (.block (uqs uqr)) uqr)))))) (uqs (.seq (.reg [] [{},{},{},{},{},{},{},{},{},{},{},{},{},{},{},{},{},{},{},{},{},{frz:=[(55,[]),(61,[])],fl:=7}]) (.seq (.reg [(10,[0,1,1,1,1,1,1,0]),(10,[0,1,1,1,1,1,1,1])] []) (uqs (.seq (uqs (.block (.loop [(0,.v y130 (.own 0 (.pr .sh (.pr .sh (.pr .sh (.pr .sh (.pr (.own 3 .sh) (.pr (.own 3 .sh) (.pr .sh (.pr (.own 97 .sh) (.pr .sh (.pr .sh (.pr .sh (.pr .sh (.pr .sh (.pr .sh (.pr (.own 103 .sh) (.own 3 .sh)))))))))))))))))),(3,uqf),(9,uqa),(10,.v y194 (.own 0 (.pr .sh (.pr .sh (.pr .sh (.pr .sh (.pr .sh (.pr (.own 3 .sh) (.pr .sh .sh))))))))),(11,uqa),(82,uqd),(83,uqa),(84,uqa)] [(.brk 2,[(0,.v y130 (.own 0 (.pr .sh (.pr .sh (.pr .sh (.pr .sh (.pr (.own 3 .sh) (.pr (.own 3 .sh) (.pr .sh (.pr (.own 97 .sh) (.pr .sh (.pr .sh (.pr .sh (.pr .sh (.pr .sh (.pr .sh (.pr (.own 103 .sh) (.own 3 .sh)))))))))))))))))),(3,uqf),(9,uqa),(10,.v y194 (.own 0 (.pr .sh (.pr .sh (.pr .sh (.pr .sh (.pr .sh (.pr (.own 3 .sh) (.pr .sh .sh))))))))),(11,uqa)])] (uqs (.seq (.cond .nil .nil) (.seq (.block (uqs uqr)) uqr)))))) (uqs (uqs (uqs (.join (.block (uqs (.cond .nil (uqs (.cond (uqs uqr) (.join uqr [(0,.v y130 (.own 0 (.pr .sh (.pr .sh (.pr .sh (.pr .sh (.pr (.own 3 .sh) (.pr (.own 3 .sh) (.pr .sh (.pr (.own 97 .sh) (.pr .sh (.pr .sh (.pr .sh (.pr .sh (.pr .sh (.pr .sh (.pr (.own 103 .sh) (.own 3 .sh)))))))))))))))))),(3,uqf),(9,uqa),(10,.v y194 (.own 0 (.pr .sh (.pr .sh (.pr .sh (.pr .sh (.pr .sh (.pr (.own 3 .sh) (.pr .sh .sh))))))))),(11,uqa),(14,uqa),(15,uqc),(147,uqc)] (.cond uqr uqr))))))) [(0,.v y130 (.own 0 (.pr .sh (.pr .sh (.pr .sh (.pr .sh (.pr (.own 3 .sh) (.pr (.own 3 .sh) (.pr .sh (.pr (.own 97 .sh) (.pr .sh (.pr .sh (.pr .sh (.pr .sh (.pr .sh (.pr .sh (.pr (.own 103 .sh) (.own 3 .sh)))))))))))))))))),(10,.v y194 (.own 0 (.pr .sh (.pr .sh (.pr .sh (.pr .sh (.pr .sh (.pr (.own 3 .sh) (.pr .sh .sh))))))))),(11,uqa),(14,uqa),(15,uqc)] (.join (uqs (.cond uqr .nil)) [(0,.v y130 (.own 0 (.pr .sh (.pr .sh (.pr .sh (.pr .sh (.pr (.own 3 .sh) (.pr (.own 3 .sh) (.pr .sh (.pr (.own 97 .sh) (.pr .sh (.pr .sh (.pr .sh (.pr .sh (.pr .sh (.pr .sh (.pr (.own 103 .sh) (.own 3 .sh)))))))))))))))))),(10,.v y194 (.own 0 (.pr .sh (.pr .sh (.pr .sh (.pr .sh (.pr .sh (.pr (.own 3 .sh) (.pr .sh .sh))))))))),(11,uqa),(15,uqc)] (uqs (uqs (.seq (.reg [(10,[0,1,1,1,1,1,0])] []) (uqs (uqs .nil))))))))))))))))))) fun xs=>by kernel_rfl
def E89:FnE Tryz.prog:=⟨89,sg89,d89,sim89⟩
def d49(c:uc8)(gs:List uc12)(lots:List Int):Option uc5:=
 (d66 2 c gs lots).bind fun r=>
 bif !(decide (r=0))then
 some ((0,0,0,0,[],[]),r)
 else
 (d87 c.2.2.2.2.2.1).bind fun b=>
 bif (decide ((c.2.1.length:Int)=(c.2.1.length:Int))&&(decide (0≤(c.2.1.length:Int))&&decide ((c.2.1.length:Int)≤LIM)))then
 (d88 [b] (c.2.1.length:Int)).bind fun f=>
 (zae (β:=(uc6×uc4)) (fun((e,k):uc6×uc4)=>
 (d89 k).bind fun a=>
 bif a.1 then
 some (Sum.inl (e,a.2))
 else
 some (Sum.inr (e,a.2))) ((0,0,0,0,[],[]),(c,gs,lots,b,(List.replicate (Int.toNat (c.2.1.length:Int)) 0),f,0,[],0,0,2,c.2.2.2.1,c.2.2.2.2.2.1,(c.2.1.length:Int),[],[]))).bind fun((h,g):uc6×uc4)=>
 some (g.2.2.2.2.2.2.2.2.2.2,0)
 else none
def sg49:Sig:=⟨[(y23,.sh),(y64,.sh),(y26,.sh)],[(y36,.sh),(y2,.sh)]⟩
theorem sim49:Sim Tryz.prog 49 sg49 d49:=uqz Tryz.func49 (zaa rfl) Tryz.call49 (by kernel_rfl) (by kernel_rfl) [.fn E66,.fn E87,.fn E88,.fn E89] (uqs (.seq (uqs (uqs (.cond (uqs .nil) .nil))) (uqs (.seq (.reg [] [{},{},{},{},{},{},{},{},{},{},{},{},{},{fl:=1500304103},{fl:=1000007097}]) (uqs (.seq (.block (.loop [(6,.v (.ptr y36) (.own 0 .sh)),(10,.v y130 (.own 0 (.pr .sh (.pr .sh (.pr .sh (.pr .sh (.pr (.own 3 .sh) (.pr (.own 3 .sh) (.pr .sh (.pr (.own 97 .sh) (.pr .sh (.pr .sh (.pr .sh (.pr .sh (.pr .sh (.pr .sh (.pr (.own 103 .sh) (.own 3 .sh))))))))))))))))))] [(.brk 0,[(6,.v (.ptr y36) (.own 0 .sh)),(10,.v y130 (.own 0 (.pr .sh (.pr .sh (.pr .sh (.pr .sh (.pr (.own 3 .sh) (.pr (.own 3 .sh) (.pr .sh (.pr (.own 97 .sh) (.pr .sh (.pr .sh (.pr .sh (.pr .sh (.pr .sh (.pr .sh (.pr (.own 103 .sh) (.own 3 .sh))))))))))))))))))])] (.seq (uqs (.cond .nil .nil)) (.block .nil)))) (.seq (.reg [(10,[0,1,1,1,1,1,1,1,1,1,1,1,1,1,1,0]),(10,[0,1,1,1,1,1,1,1,1,1,1,1,1,1,1,1])] []) .nil))))))) fun xs=>by kernel_rfl
def E49:FnE Tryz.prog:=⟨49,sg49,d49,sim49⟩
def d161(l:List uc12)(number:(uc12→Option Int)):Option Int:=
 (zae (β:=Int) (fun((c,n,b,e,a):(uc12→Option Int)×Int×(List uc12)×Int×Int)=>
 bif (decide (a<e))then
 bif (decide (0≤a)&&decide (a<(b.length:Int)))then
 (c (List.getD b (Int.toNat a) ([],0))).bind fun r=>
 some (Sum.inl (c,(w (n+r)),b,e,(w (a+1))))
 else none
 else
 some (Sum.inr n)) (number,0,l,(l.length:Int),0)).bind fun(f:Int)=>
 some f
def sg161:Sig:=⟨[(y64,.bw),(y200,.bw)],[(y2,.sh)]⟩
theorem sim161:Sim Tryz.prog 161 sg161 d161:=uqz Tryz.func161 (zaa rfl) Tryz.call161 (by kernel_rfl) (by kernel_rfl) [] (uqs (uqs (.seq (uqs (.block (.loop [(1,.v y200 .bw),(5,uqa),(8,.v y64 .bw),(9,uqa),(10,uqa)] [(.brk 0,[(5,uqa)])] (uqs (.seq (.cond .nil .nil) (.seq (.block (uqs uqr)) uqr)))))) (uqs .nil)))) fun xs=>by kernel_rfl
def E161:FnE Tryz.prog:=⟨161,sg161,d161,sim161⟩
def d162(g:uc12):Option Int:=
 some g.2
def sg162:Sig:=⟨[(y77,.bw)],[(y2,.sh)]⟩
theorem sim162:Sim Tryz.prog 162 sg162 d162:=uqz Tryz.func162 (zaa rfl) Tryz.call162 (by kernel_rfl) (by kernel_rfl) [] (uqs (uqs .nil)) fun xs=>by kernel_rfl
def E162:FnE Tryz.prog:=⟨162,sg162,d162,sim162⟩
def d90(gs:List uc12):Option Int:=
 (d146 gs).bind fun r=>
 bif !r then
 some 0
 else
 (d161 gs (fun a=>d162 a)).bind fun b=>
 some b
def sg90:Sig:=⟨[(y64,.bw)],[(y2,.sh)]⟩
theorem sim90:Sim Tryz.prog 90 sg90 d90:=uqz Tryz.func90 (zaa rfl) Tryz.call90 (by kernel_rfl) (by kernel_rfl) [.fn E146,.fn E161,.fn E162] (uqs (.seq (uqs (.cond (uqs .nil) .nil)) (uqs .nil))) fun xs=>by kernel_rfl
def E90:FnE Tryz.prog:=⟨90,sg90,d90,sim90⟩
def d163(g:uc12):Option Int:=
 bif (decide ((g.1.length:Int)=0))then
 some 0
 else
 some g.2
def sg163:Sig:=⟨[(y77,.bw)],[(y2,.sh)]⟩
theorem sim163:Sim Tryz.prog 163 sg163 d163:=uqz Tryz.func163 (zaa rfl) Tryz.call163 (by kernel_rfl) (by kernel_rfl) [] (uqs (.seq (uqs (.cond (uqs .nil) .nil)) (uqs .nil))) fun xs=>by kernel_rfl
def E163:FnE Tryz.prog:=⟨163,sg163,d163,sim163⟩
def d92(gs:List uc12):Option Int:=
 (d146 gs).bind fun r=>
 bif !r then
 some 0
 else
 (d161 gs (fun a=>d163 a)).bind fun b=>
 some b
def sg92:Sig:=⟨[(y64,.bw)],[(y2,.sh)]⟩
theorem sim92:Sim Tryz.prog 92 sg92 d92:=uqz Tryz.func92 (zaa rfl) Tryz.call92 (by kernel_rfl) (by kernel_rfl) [.fn E146,.fn E161,.fn E163] (uqs (.seq (uqs (.cond (uqs .nil) .nil)) (uqs .nil))) fun xs=>by kernel_rfl
def E92:FnE Tryz.prog:=⟨92,sg92,d92,sim92⟩
def d91(ballots:Int)(seats:Int):Option Int:=
 letJ (fun((c,b,e):Int×Int×Bool)=>
 bif e then
 some 0
 else
 bif (!decide ((w (b+1))=0))then
 some (w ((w (Int.tdiv c (w (b+1))))+1))
 else none) fun a=>
 bif !(decide (ballots<0))then
 bif !(decide (100000<ballots))then
 bif !(decide (seats<1))then
 a (ballots,seats,(decide (5<seats)))
 else
 a (ballots,seats,true)
 else
 a (ballots,seats,true)
 else
 a (ballots,seats,true)
def sg91:Sig:=⟨[(y2,.sh),(y2,.sh)],[(y2,.sh)]⟩
theorem sim91:Sim Tryz.prog 91 sg91 d91:=uqz Tryz.func91 (zaa rfl) Tryz.call91 (by kernel_rfl) (by kernel_rfl) [] (uqs (.seq (.join uqr [(0,uqa),(1,uqa),(18,uqc)] (.cond (uqs .nil) .nil)) (uqs .nil))) fun xs=>by kernel_rfl
def E91:FnE Tryz.prog:=⟨91,sg91,d91,sim91⟩
def d172(k:uc3)(standing:Int):Option uc13:=
 (zae (β:=uc13) (fun((c,out,b,e,a):Int×uc13×uc13×Int×Int)=>
 bif (decide (a<e))then
 letJ (fun((g,h,i,j,l):Int×uc13×uc13×Int×Int)=>
 some (Sum.inl (g,h,i,j,(w (l+1))))) fun f=>
 bif (decide (0≤a)&&decide (a<(b.length:Int)))then
 bif (decide ((List.getD b (Int.toNat a) 0)=c))then
 bif (decide ((out.length:Int)+(([a]:List Int).length:Int)≤LIM))then
 f (c,(out++[a]),b,e,a)
 else none
 else
 f (c,out,b,e,a)
 else none
 else
 some (Sum.inr out)) (standing,[],k.2.2.2.2.2.1,(k.2.2.2.2.2.1.length:Int),0)).bind fun(m:List Int)=>
 some m
def sg172:Sig:=⟨[(y134,.bw),(y2,.sh)],[(y26,(.own 3 .sh))]⟩
theorem sim172:Sim Tryz.prog 172 sg172 d172:=uqz Tryz.func172 (zaa rfl) Tryz.call172 (by kernel_rfl) (by kernel_rfl) [] (uqs (.seq (.reg [] [{fl:=2}]) (.seq (uqs (.block (.loop [(1,uqa),(5,uqd),(11,uqb),(12,uqa),(13,uqa)] [(.brk 0,[(5,uqd)])] (uqs (.seq (.cond .nil .nil) (.join (.block (uqs (uqs (.cond uqr .nil)))) [(1,uqa),(5,uqd),(11,uqb),(12,uqa),(13,uqa)] uqr)))))) (uqs .nil)))) fun xs=>by kernel_rfl
def E172:FnE Tryz.prog:=⟨172,sg172,d172,sim172⟩
def d167(p0:uc3):Option uc10:=
 (zae (β:=uc2) (fun((l,g,m,n):uc3×uc10×Int×Int)=>
 bif (decide (n<m))then
 (d93 0).bind fun r=>
 bif (decide ((g.length:Int)+(([r]:List uc11).length:Int)≤LIM))then
 some (Sum.inl (l,(g++[r]),m,(w (n+1))))
 else none
 else
 some (Sum.inr (l,g))) (p0,[],(p0.2.2.2.2.2.1.length:Int),0)).bind fun((h,u):uc3×uc10)=>
 (zae (β:=uc2) (fun((i,e,b,j,a):uc3×uc10×(List uc9)×Int×Int)=>
 bif (decide (a<j))then
 letJ (fun((v,x,y,z,aa):uc3×uc10×(List uc9)×Int×Int)=>
 some (Sum.inl (v,x,y,z,(w (aa+1))))) fun o=>
 bif (decide (0≤a)&&decide (a<(b.length:Int)))then
 bif (decide ((((List.getD b (Int.toNat a) ([],0,0,false,[],[])).2).2).1<(((List.getD b (Int.toNat a) ([],0,0,false,[],[])).1).length:Int)))then
 bif (decide (0≤(((List.getD b (Int.toNat a) ([],0,0,false,[],[])).2).2).1)&&decide ((((List.getD b (Int.toNat a) ([],0,0,false,[],[])).2).2).1<(((List.getD b (Int.toNat a) ([],0,0,false,[],[])).1).length:Int)))then
 bif (decide (0≤(List.getD ((List.getD b (Int.toNat a) ([],0,0,false,[],[])).1) (Int.toNat ((((List.getD b (Int.toNat a) ([],0,0,false,[],[])).2).2).1)) 0))&&decide ((List.getD ((List.getD b (Int.toNat a) ([],0,0,false,[],[])).1) (Int.toNat ((((List.getD b (Int.toNat a) ([],0,0,false,[],[])).2).2).1)) 0)<(e.length:Int)))then
 (d93 (((List.getD b (Int.toNat a) ([],0,0,false,[],[])).2).1)).bind fun ab=>
 (d227 ((((List.getD b (Int.toNat a) ([],0,0,false,[],[])).2).2).2) ab).bind fun ac=>
 (d175 (List.getD e (Int.toNat (List.getD ((List.getD b (Int.toNat a) ([],0,0,false,[],[])).1) (Int.toNat ((((List.getD b (Int.toNat a) ([],0,0,false,[],[])).2).2).1)) 0)) (false,[],[])) ac).bind fun ae=>
 bif (decide (0≤(List.getD ((List.getD b (Int.toNat a) ([],0,0,false,[],[])).1) (Int.toNat ((((List.getD b (Int.toNat a) ([],0,0,false,[],[])).2).2).1)) 0))&&decide ((List.getD ((List.getD b (Int.toNat a) ([],0,0,false,[],[])).1) (Int.toNat ((((List.getD b (Int.toNat a) ([],0,0,false,[],[])).2).2).1)) 0)<(e.length:Int)))then
 o (i,(List.set e (Int.toNat (List.getD ((List.getD b (Int.toNat a) ([],0,0,false,[],[])).1) (Int.toNat ((((List.getD b (Int.toNat a) ([],0,0,false,[],[])).2).2).1)) 0)) ae),b,j,a)
 else none
 else none
 else none
 else
 o (i,e,b,j,a)
 else none
 else
 some (Sum.inr (i,e))) (h,u,h.2.2.2.2.1,(h.2.2.2.2.1.length:Int),0)).bind fun((p,af):uc3×uc10)=>
 (d172 p 2).bind fun q=>
 (zae (β:=uc10) (fun((s,k,f,t,c):uc3×uc10×uc13×Int×Int)=>
 bif (decide (c<t))then
 bif (decide (0≤c)&&decide (c<(f.length:Int)))then
 (d93 s.2.2.2.1).bind fun ag=>
 bif (decide (0≤(List.getD f (Int.toNat c) 0))&&decide ((List.getD f (Int.toNat c) 0)<(k.length:Int)))then
 some (Sum.inl (s,(List.set k (Int.toNat (List.getD f (Int.toNat c) 0)) ag),f,t,(w (c+1))))
 else none
 else none
 else
 some (Sum.inr k)) (p,af,q,(q.length:Int),0)).bind fun(ah:List uc11)=>
 some ah
def sg167:Sig:=⟨[(y134,.bw)],[(y97,(.own 101 .sh))]⟩
theorem sim167:Sim Tryz.prog 167 sg167 d167:=uqz Tryz.func167 (zaa rfl) Tryz.call167 (by kernel_rfl) (by kernel_rfl) [.fn E93,.fn E227,.fn E175,.fn E172] (uqs (.seq (.reg [] [{fl:=2}]) (.seq (uqs (.block (.loop [(0,.v y134 .bw),(3,.v y97 (.own 101 .sh)),(13,uqa),(14,uqa)] [(.brk 0,[(0,.v y134 .bw),(3,.v y97 (.own 101 .sh))])] (uqs (.seq (.cond .nil .nil) (.seq (.block uqr) uqr)))))) (.seq (uqs (.block (.loop [(0,.v y134 .bw),(3,.v y97 (.own 101 .sh)),(24,.v y136 .bw),(25,uqa),(26,uqa)] [(.brk 2,[(0,.v y134 .bw),(3,.v y97 (.own 101 .sh))])] (uqs (.seq (.cond .nil .nil) (.join (.block (uqs (uqs (.cond (uqs uqr) .nil)))) [(0,.v y134 .bw),(3,.v y97 (.own 101 .sh)),(24,.v y136 .bw),(25,uqa),(26,uqa)] uqr)))))) (.seq (uqs (.block (.loop [(0,.v y134 .bw),(3,.v y97 (.own 101 .sh)),(58,uqd),(59,uqa),(60,uqa)] [(.brk 4,[(3,.v y97 (.own 101 .sh))])] (uqs (.seq (.cond .nil .nil) (.seq (.block (uqs uqr)) uqr)))))) (uqs .nil)))))) fun xs=>by kernel_rfl
def E167:FnE Tryz.prog:=⟨167,sg167,d167,sim167⟩
def d168(l:List uc11):Option uc10:=
 (zae (β:=uc10) (fun((out,b,c,a):uc10×uc10×Int×Int)=>
 bif (decide (a<c))then
 bif (decide (0≤a)&&decide (a<(b.length:Int)))then
 (d228 (((List.getD b (Int.toNat a) (false,[],[])).2).1)).bind fun r=>
 (d228 (((List.getD b (Int.toNat a) (false,[],[])).2).2)).bind fun e=>
 bif (decide ((out.length:Int)+(([((List.getD b (Int.toNat a) (false,[],[])).1,r,e)]:List uc11).length:Int)≤LIM))then
 some (Sum.inl ((out++[((List.getD b (Int.toNat a) (false,[],[])).1,r,e)]),b,c,(w (a+1))))
 else none
 else none
 else
 some (Sum.inr out)) ([],l,(l.length:Int),0)).bind fun(f:List uc11)=>
 some f
def sg168:Sig:=⟨[(y97,.bw)],[(y97,(.own 101 .sh))]⟩
theorem sim168:Sim Tryz.prog 168 sg168 d168:=uqz Tryz.func168 (zaa rfl) Tryz.call168 (by kernel_rfl) (by kernel_rfl) [.fn E228] (uqs (.seq (.reg [] [{fl:=2}]) (.seq (uqs (.block (.loop [(3,.v y97 (.own 101 .sh)),(6,.v y97 .bw),(7,uqa),(8,uqa)] [(.brk 0,[(3,.v y97 (.own 101 .sh))])] (uqs (.seq (.cond .nil .nil) (.seq (.block (uqs (.reg [] [{},{},{},{},{},{},{},{},{},{frz:=[(17,[]),(20,[])]}]))) uqr)))))) (uqs .nil)))) fun xs=>by kernel_rfl
def E168:FnE Tryz.prog:=⟨168,sg168,d168,sim168⟩
def d173(c:Int)(p1:uc7):Option Bool:=
 bif (decide (0≤c)&&decide (c<(p1.1.length:Int)))then
 (d174 (List.getD p1.1 (Int.toNat c) (false,[],[])) p1.2.2.1).bind fun r=>
 some (decide (r<0))
 else none
def sg173:Sig:=⟨[(y2,.bw),(y194,.bw)],[(y4,.sh)]⟩
theorem sim173:Sim Tryz.prog 173 sg173 d173:=uqz Tryz.func173 (zaa rfl) Tryz.call173 (by kernel_rfl) (by kernel_rfl) [.fn E174] (uqs (uqs .nil)) fun xs=>by kernel_rfl
def E173:FnE Tryz.prog:=⟨173,sg173,d173,sim173⟩
def d170(k:uc3)(r:uc7)(candidates:List Int):Option uc1:=
 (zae (β:=uc1) (fun((a,b,e,g,c):uc3×uc7×uc13×Int×Int)=>
 bif (decide (c<g))then
 bif (decide (0≤c)&&decide (c<(e.length:Int)))then
 bif (decide (0≤(List.getD e (Int.toNat c) 0))&&decide ((List.getD e (Int.toNat c) 0)<(a.2.2.2.2.2.1.length:Int)))then
 bif (decide ((b.2.2.2.2.2.1.length:Int)+(([(List.getD e (Int.toNat c) 0)]:List Int).length:Int)≤LIM))then
 some (Sum.inl ((a.1,a.2.1,a.2.2.1,a.2.2.2.1,a.2.2.2.2.1,(List.set a.2.2.2.2.2.1 (Int.toNat (List.getD e (Int.toNat c) 0)) 1),a.2.2.2.2.2.2.1,(w (a.2.2.2.2.2.2.2.1+1)),a.2.2.2.2.2.2.2.2),(b.1,b.2.1,b.2.2.1,b.2.2.2.1,b.2.2.2.2.1,(b.2.2.2.2.2.1++[(List.getD e (Int.toNat c) 0)]),b.2.2.2.2.2.2),e,g,(w (c+1))))
 else none
 else none
 else none
 else
 some (Sum.inr (a,b))) (k,r,candidates,(candidates.length:Int),0)).bind fun((h,f):uc3×uc7)=>
 (d98 f.2.2.2.2.2.1).bind fun i=>
 some (h,(f.1,f.2.1,f.2.2.1,f.2.2.2.1,f.2.2.2.2.1,i,f.2.2.2.2.2.2))
def sg170:Sig:=⟨[(y134,(.io (.own 0 (.pr .sh (.pr .sh (.pr .sh (.pr .sh (.pr (.own 140 .sh) (.pr (.own 3 .sh) (.pr (.own 101 .sh) (.pr .sh (.pr (.own 97 .sh) (.pr .sh (.pr .sh (.pr .sh (.pr .sh (.pr (.own 103 .sh) (.own 3 .sh)))))))))))))))))),(y194,(.io (.own 0 (.pr .sh (.pr .sh (.pr .sh (.pr .sh (.pr .sh (.pr (.own 3 .sh) (.pr .sh .sh)))))))))),(y26,.bw)],[]⟩
theorem sim170:Sim Tryz.prog 170 sg170 d170:=uqz Tryz.func170 (zaa rfl) Tryz.call170 (by kernel_rfl) (by kernel_rfl) [.fn E98] (.seq (uqs (.block (.loop [(0,.v y134 (.own 0 (.pr .sh (.pr .sh (.pr .sh (.pr .sh (.pr (.own 140 .sh) (.pr (.own 3 .sh) (.pr (.own 101 .sh) (.pr .sh (.pr (.own 97 .sh) (.pr .sh (.pr .sh (.pr .sh (.pr .sh (.pr (.own 103 .sh) (.own 3 .sh))))))))))))))))),(1,.v y194 (.own 0 (.pr .sh (.pr .sh (.pr .sh (.pr .sh (.pr .sh (.pr (.own 3 .sh) (.pr .sh .sh))))))))),(8,uqb),(9,uqa),(10,uqa)] [(.brk 0,[(0,.v y134 (.own 0 (.pr .sh (.pr .sh (.pr .sh (.pr .sh (.pr (.own 140 .sh) (.pr (.own 3 .sh) (.pr (.own 101 .sh) (.pr .sh (.pr (.own 97 .sh) (.pr .sh (.pr .sh (.pr .sh (.pr .sh (.pr (.own 103 .sh) (.own 3 .sh))))))))))))))))),(1,.v y194 (.own 0 (.pr .sh (.pr .sh (.pr .sh (.pr .sh (.pr .sh (.pr (.own 3 .sh) (.pr .sh .sh)))))))))])] (uqs (.seq (.cond .nil .nil) (.seq (.block (uqs (uqs (uqs uqr)))) uqr)))))) uqr) fun xs=>by kernel_rfl
def E170:FnE Tryz.prog:=⟨170,sg170,d170,sim170⟩
def d232(p0:uc3)(p1:uc7)(p2:List Int)(p3:Bool):Option (Int×uc3×uc7):=
 (zae (β:=(uc3×uc7×Bool×uc13)) (fun((j,f,h,e,c,k,b):uc3×uc7×Bool×uc13×uc13×Int×Int)=>
 bif (decide (b<k))then
 letJ (fun((z,aa,ab,ac,ae,af,ag):uc3×uc7×Bool×uc13×uc13×Int×Int)=>
 some (Sum.inl (z,aa,ab,ac,ae,af,(w (ag+1))))) fun l=>
 bif (decide (0≤b)&&decide (b<(c.length:Int)))then
 letJ (fun((m,n,o,p,q,x,s,t,u):uc3×uc7×Bool×uc13×Int×Int×uc13×Int×Int)=>
 bif (decide (x<0))then
 l (m,n,o,[q],s,t,u)
 else
 bif (decide (x=0))then
 bif (decide ((p.length:Int)+(([q]:List Int).length:Int)≤LIM))then
 l (m,n,o,(p++[q]),s,t,u)
 else none
 else
 l (m,n,o,p,s,t,u)) fun v=>
 bif (decide (0<(e.length:Int)))then
 bif (decide (0≤(List.getD c (Int.toNat b) 0))&&decide ((List.getD c (Int.toNat b) 0)<(f.1.length:Int)))then
 bif (decide (0≤0)&&decide (0<(e.length:Int)))then
 bif (decide (0≤(List.getD e 0 0))&&decide ((List.getD e 0 0)<(f.1.length:Int)))then
 (d174 (List.getD f.1 (Int.toNat (List.getD c (Int.toNat b) 0)) (false,[],[])) (List.getD f.1 (Int.toNat (List.getD e 0 0)) (false,[],[]))).bind fun r=>
 bif !h then
 v (j,f,h,e,(List.getD c (Int.toNat b) 0),(w (0-r)),c,k,b)
 else
 v (j,f,h,e,(List.getD c (Int.toNat b) 0),r,c,k,b)
 else none
 else none
 else none
 else
 v (j,f,h,e,(List.getD c (Int.toNat b) 0),(-1),c,k,b)
 else none
 else
 some (Sum.inr (j,f,h,e))) (p0,p1,p3,[],p2,(p2.length:Int),0)).bind fun((a,g,ah,i):uc3×uc7×Bool×uc13)=>
 bif (decide ((i.length:Int)=1))then
 bif (decide (0≤0)&&decide (0<(i.length:Int)))then
 some ((List.getD i 0 0),a,g)
 else none
 else
 (d150 a.1.2.2.2.2.2.2.1 a.2.2.2.2.2.2.2.2.1 i a.2.1 ah).bind fun y=>
 some (y.1,(a.1,a.2.1,a.2.2.1,a.2.2.2.1,a.2.2.2.2.1,a.2.2.2.2.2.1,a.2.2.2.2.2.2.1,a.2.2.2.2.2.2.2.1,y.2.2,a.2.2.2.2.2.2.2.2.2),(g.1,g.2.1,g.2.2.1,g.2.2.2.1,g.2.2.2.2.1,g.2.2.2.2.2.1,g.2.2.2.2.2.2.1,i))
def sg232:Sig:=⟨[(y134,(.io (.own 0 (.pr .sh (.pr .sh (.pr .sh (.pr .sh (.pr (.own 140 .sh) (.pr (.own 3 .sh) (.pr (.own 101 .sh) (.pr .sh (.pr (.own 97 .sh) (.pr .sh (.pr .sh (.pr .sh (.pr .sh (.pr (.own 103 .sh) (.own 3 .sh)))))))))))))))))),(y194,(.io (.own 0 (.pr .sh (.pr .sh (.pr .sh (.pr .sh (.pr .sh (.pr (.own 3 .sh) (.pr .sh .sh)))))))))),(y26,.sh),(y4,.sh)],[(y2,.sh)]⟩
theorem sim232:Sim Tryz.prog 232 sg232 d232:=uqz Tryz.func232 (zaa rfl) Tryz.call232 (by kernel_rfl) (by kernel_rfl) [.fn E174,.fn E150] (uqs (.seq (.reg [] [{fl:=2}]) (.seq (uqs (.block (.loop [(0,.v y134 (.own 0 (.pr .sh (.pr .sh (.pr .sh (.pr .sh (.pr (.own 140 .sh) (.pr (.own 3 .sh) (.pr (.own 101 .sh) (.pr .sh (.pr (.own 97 .sh) (.pr .sh (.pr .sh (.pr .sh (.pr .sh (.pr (.own 103 .sh) (.own 3 .sh))))))))))))))))),(1,.v y194 (.own 0 (.pr .sh (.pr .sh (.pr .sh (.pr .sh (.pr .sh (.pr (.own 3 .sh) (.pr .sh .sh))))))))),(3,uqc),(9,uqd),(15,uqf),(16,uqa),(17,uqa)] [(.brk 0,[(0,.v y134 (.own 0 (.pr .sh (.pr .sh (.pr .sh (.pr .sh (.pr (.own 140 .sh) (.pr (.own 3 .sh) (.pr (.own 101 .sh) (.pr .sh (.pr (.own 97 .sh) (.pr .sh (.pr .sh (.pr .sh (.pr .sh (.pr (.own 103 .sh) (.own 3 .sh))))))))))))))))),(1,.v y194 (.own 0 (.pr .sh (.pr .sh (.pr .sh (.pr .sh (.pr .sh (.pr (.own 3 .sh) (.pr .sh .sh))))))))),(3,uqc),(9,uqd)])] (uqs (.seq (.cond .nil .nil) (.join (.block (uqs (uqs (.join (uqs (.cond (uqs (uqs (.cond uqr .nil))) .nil)) [(0,.v y134 (.own 0 (.pr .sh (.pr .sh (.pr .sh (.pr .sh (.pr (.own 140 .sh) (.pr (.own 3 .sh) (.pr (.own 101 .sh) (.pr .sh (.pr (.own 97 .sh) (.pr .sh (.pr .sh (.pr .sh (.pr .sh (.pr (.own 103 .sh) (.own 3 .sh))))))))))))))))),(1,.v y194 (.own 0 (.pr .sh (.pr .sh (.pr .sh (.pr .sh (.pr .sh (.pr (.own 3 .sh) (.pr .sh .sh))))))))),(3,uqc),(9,uqd),(11,uqa),(12,uqa),(15,uqf),(16,uqa),(17,uqa)] (.block (uqs (.cond uqr (uqs (.cond uqr .nil))))))))) [(0,.v y134 (.own 0 (.pr .sh (.pr .sh (.pr .sh (.pr .sh (.pr (.own 140 .sh) (.pr (.own 3 .sh) (.pr (.own 101 .sh) (.pr .sh (.pr (.own 97 .sh) (.pr .sh (.pr .sh (.pr .sh (.pr .sh (.pr (.own 103 .sh) (.own 3 .sh))))))))))))))))),(1,.v y194 (.own 0 (.pr .sh (.pr .sh (.pr .sh (.pr .sh (.pr .sh (.pr (.own 3 .sh) (.pr .sh .sh))))))))),(3,uqc),(9,uqd),(15,uqf),(16,uqa),(17,uqa)] uqr)))))) (.seq (uqs (.cond (uqs .nil) .nil)) (.seq (.reg [(9,[])] []) (.seq (.reg [] [{},{},{},{},{},{},{},{},{},{},{},{},{},{},{},{},{fl:=1}]) (uqs .nil))))))) fun xs=>by kernel_rfl
def E232:FnE Tryz.prog:=⟨232,sg232,d232,sim232⟩
def d234(p0:uc3)(p1:Int)(p2:uc11):Option uc3:=
 (zae (β:=uc3) (fun((e,g,j,h,c):uc3×Int×uc11×Int×Int)=>
 bif (decide (c<h))then
 letJ (fun((aa,ab,ac,ae,af):uc3×Int×uc11×Int×Int)=>
 some (Sum.inl (aa,ab,ac,ae,(w (af+1))))) fun k=>
 bif (decide (0≤c)&&decide (c<(e.2.2.2.2.1.length:Int)))then
 letJ (fun((a,l,i,t7x,m,n,ag):uc3×Int×uc11×Int×Int×Int×Bool)=>
 bif ag then
 k (a,l,i,m,n)
 else
 (d227 ((((List.getD a.2.2.2.2.1 (Int.toNat t7x) ([],0,0,false,[],[])).2).2).2) i).bind fun r=>
 (zae (β:=(uc3×Int×uc11×Int×Int)) (fun((b,o,p,t7x_1,q,s):uc3×Int×uc11×Int×Int×Int)=>
 letJ (fun((f,t,u,t7x_2,v,x,ah):uc3×Int×uc11×Int×Int×Int×Bool)=>
 bif ah then
 some (Sum.inl ((f.1,f.2.1,f.2.2.1,f.2.2.2.1,(List.set f.2.2.2.2.1 (Int.toNat t7x_2) ((List.getD f.2.2.2.2.1 (Int.toNat t7x_2) ([],0,0,false,[],[])).1,((List.getD f.2.2.2.2.1 (Int.toNat t7x_2) ([],0,0,false,[],[])).2).1,(w (((((List.getD f.2.2.2.2.1 (Int.toNat t7x_2) ([],0,0,false,[],[])).2).2).1)+1)),(((List.getD f.2.2.2.2.1 (Int.toNat t7x_2) ([],0,0,false,[],[])).2).2).2)),f.2.2.2.2.2),t,u,(((Int.toNat t7x_2):Nat):Int),v,x))
 else
 some (Sum.inr (f,t,u,v,x))) fun y=>
 bif (decide ((((List.getD b.2.2.2.2.1 (Int.toNat t7x_1) ([],0,0,false,[],[])).2).2).1<(((List.getD b.2.2.2.2.1 (Int.toNat t7x_1) ([],0,0,false,[],[])).1).length:Int)))then
 bif (decide (0≤(((List.getD b.2.2.2.2.1 (Int.toNat t7x_1) ([],0,0,false,[],[])).2).2).1)&&decide ((((List.getD b.2.2.2.2.1 (Int.toNat t7x_1) ([],0,0,false,[],[])).2).2).1<(((List.getD b.2.2.2.2.1 (Int.toNat t7x_1) ([],0,0,false,[],[])).1).length:Int)))then
 bif (decide (0≤(List.getD ((List.getD b.2.2.2.2.1 (Int.toNat t7x_1) ([],0,0,false,[],[])).1) (Int.toNat ((((List.getD b.2.2.2.2.1 (Int.toNat t7x_1) ([],0,0,false,[],[])).2).2).1)) 0))&&decide ((List.getD ((List.getD b.2.2.2.2.1 (Int.toNat t7x_1) ([],0,0,false,[],[])).1) (Int.toNat ((((List.getD b.2.2.2.2.1 (Int.toNat t7x_1) ([],0,0,false,[],[])).2).2).1)) 0)<(b.2.2.2.2.2.1.length:Int)))then
 y (b,o,p,(((Int.toNat t7x_1):Nat):Int),q,s,!(decide ((List.getD b.2.2.2.2.2.1 (Int.toNat (List.getD ((List.getD b.2.2.2.2.1 (Int.toNat t7x_1) ([],0,0,false,[],[])).1) (Int.toNat ((((List.getD b.2.2.2.2.1 (Int.toNat t7x_1) ([],0,0,false,[],[])).2).2).1)) 0)) 0)=0)))
 else none
 else none
 else
 y (b,o,p,(((Int.toNat t7x_1):Nat):Int),q,s,false)) ((a.1,a.2.1,a.2.2.1,a.2.2.2.1,(List.set (List.set a.2.2.2.2.1 (Int.toNat t7x) ((List.getD a.2.2.2.2.1 (Int.toNat t7x) ([],0,0,false,[],[])).1,((List.getD a.2.2.2.2.1 (Int.toNat t7x) ([],0,0,false,[],[])).2).1,(((List.getD a.2.2.2.2.1 (Int.toNat t7x) ([],0,0,false,[],[])).2).2).1,r)) (Int.toNat t7x) ((List.getD (List.set a.2.2.2.2.1 (Int.toNat t7x) ((List.getD a.2.2.2.2.1 (Int.toNat t7x) ([],0,0,false,[],[])).1,((List.getD a.2.2.2.2.1 (Int.toNat t7x) ([],0,0,false,[],[])).2).1,(((List.getD a.2.2.2.2.1 (Int.toNat t7x) ([],0,0,false,[],[])).2).2).1,r)) (Int.toNat t7x) ([],0,0,false,[],[])).1,((List.getD (List.set a.2.2.2.2.1 (Int.toNat t7x) ((List.getD a.2.2.2.2.1 (Int.toNat t7x) ([],0,0,false,[],[])).1,((List.getD a.2.2.2.2.1 (Int.toNat t7x) ([],0,0,false,[],[])).2).1,(((List.getD a.2.2.2.2.1 (Int.toNat t7x) ([],0,0,false,[],[])).2).2).1,r)) (Int.toNat t7x) ([],0,0,false,[],[])).2).1,(w (((((List.getD (List.set a.2.2.2.2.1 (Int.toNat t7x) ((List.getD a.2.2.2.2.1 (Int.toNat t7x) ([],0,0,false,[],[])).1,((List.getD a.2.2.2.2.1 (Int.toNat t7x) ([],0,0,false,[],[])).2).1,(((List.getD a.2.2.2.2.1 (Int.toNat t7x) ([],0,0,false,[],[])).2).2).1,r)) (Int.toNat t7x) ([],0,0,false,[],[])).2).2).1)+1)),(((List.getD (List.set a.2.2.2.2.1 (Int.toNat t7x) ((List.getD a.2.2.2.2.1 (Int.toNat t7x) ([],0,0,false,[],[])).1,((List.getD a.2.2.2.2.1 (Int.toNat t7x) ([],0,0,false,[],[])).2).1,(((List.getD a.2.2.2.2.1 (Int.toNat t7x) ([],0,0,false,[],[])).2).2).1,r)) (Int.toNat t7x) ([],0,0,false,[],[])).2).2).2)),a.2.2.2.2.2),l,i,(((Int.toNat t7x):Nat):Int),m,n)).bind fun((ai,aj,ak,al,am):uc3×Int×uc11×Int×Int)=>
 k (ai,aj,ak,al,am)) fun z=>
 bif !(decide ((((List.getD e.2.2.2.2.1 (Int.toNat c) ([],0,0,false,[],[])).1).length:Int)≤(((List.getD e.2.2.2.2.1 (Int.toNat c) ([],0,0,false,[],[])).2).2).1))then
 bif (decide (0≤(((List.getD e.2.2.2.2.1 (Int.toNat c) ([],0,0,false,[],[])).2).2).1)&&decide ((((List.getD e.2.2.2.2.1 (Int.toNat c) ([],0,0,false,[],[])).2).2).1<(((List.getD e.2.2.2.2.1 (Int.toNat c) ([],0,0,false,[],[])).1).length:Int)))then
 z (e,g,j,(((Int.toNat c):Nat):Int),h,c,!(decide ((List.getD ((List.getD e.2.2.2.2.1 (Int.toNat c) ([],0,0,false,[],[])).1) (Int.toNat ((((List.getD e.2.2.2.2.1 (Int.toNat c) ([],0,0,false,[],[])).2).2).1)) 0)=g)))
 else none
 else
 z (e,g,j,(((Int.toNat c):Nat):Int),h,c,true)
 else none
 else
 some (Sum.inr e)) (p0,p1,p2,(p0.2.2.2.2.1.length:Int),0)).bind fun(an:uc3)=>
 some an
def sg234:Sig:=⟨[(y134,(.io (.own 0 (.pr .sh (.pr .sh (.pr .sh (.pr .sh (.pr (.own 140 .sh) (.pr (.own 3 .sh) (.pr (.own 101 .sh) (.pr .sh (.pr (.own 97 .sh) (.pr .sh (.pr .sh (.pr .sh (.pr .sh (.pr (.own 103 .sh) (.own 3 .sh)))))))))))))))))),(y2,.sh),(y101,.sh)],[]⟩
theorem sim234:Sim Tryz.prog 234 sg234 d234:=uqz Tryz.func234 (zaa rfl) Tryz.call234 (by kernel_rfl) (by kernel_rfl) [.fn E227] (uqs (uqs (.block (.loop [(0,.v y134 (.own 0 (.pr .sh (.pr .sh (.pr .sh (.pr .sh (.pr (.own 140 .sh) (.pr (.own 3 .sh) (.pr (.own 101 .sh) (.pr .sh (.pr (.own 97 .sh) (.pr .sh (.pr .sh (.pr .sh (.pr .sh (.pr (.own 103 .sh) (.own 3 .sh))))))))))))))))),(1,uqa),(5,.v (.ptr y101) (.own 0 .sh)),(12,uqa),(13,uqa)] [(.brk 0,[(0,.v y134 (.own 0 (.pr .sh (.pr .sh (.pr .sh (.pr .sh (.pr (.own 140 .sh) (.pr (.own 3 .sh) (.pr (.own 101 .sh) (.pr .sh (.pr (.own 97 .sh) (.pr .sh (.pr .sh (.pr .sh (.pr .sh (.pr (.own 103 .sh) (.own 3 .sh)))))))))))))))))])] (uqs (.seq (.cond .nil .nil) (.join (.block (uqs (uqs (.seq (.join uqr [(0,.v y134 (.own 0 (.pr .sh (.pr .sh (.pr .sh (.pr .sh (.pr (.own 140 .sh) (.pr (.own 3 .sh) (.pr (.own 101 .sh) (.pr .sh (.pr (.own 97 .sh) (.pr .sh (.pr .sh (.pr .sh (.pr .sh (.pr (.own 103 .sh) (.own 3 .sh))))))))))))))))),(1,uqa),(5,.v (.ptr y101) (.own 0 .sh)),(7,.refi 0 [0,1,1,1,1,0] []),(12,uqa),(13,uqa),(45,uqc)] (.cond .nil .nil)) (uqs (uqs (.block (.loop [(0,.v y134 (.own 0 (.pr .sh (.pr .sh (.pr .sh (.pr .sh (.pr (.own 140 .sh) (.pr (.own 3 .sh) (.pr (.own 101 .sh) (.pr .sh (.pr (.own 97 .sh) (.pr .sh (.pr .sh (.pr .sh (.pr .sh (.pr (.own 103 .sh) (.own 3 .sh))))))))))))))))),(1,uqa),(5,.v (.ptr y101) (.own 0 .sh)),(7,.refi 0 [0,1,1,1,1,0] []),(12,uqa),(13,uqa)] [(.brk 2,[(0,.v y134 (.own 0 (.pr .sh (.pr .sh (.pr .sh (.pr .sh (.pr (.own 140 .sh) (.pr (.own 3 .sh) (.pr (.own 101 .sh) (.pr .sh (.pr (.own 97 .sh) (.pr .sh (.pr .sh (.pr .sh (.pr .sh (.pr (.own 103 .sh) (.own 3 .sh))))))))))))))))),(1,uqa),(5,.v (.ptr y101) (.own 0 .sh)),(12,uqa),(13,uqa)])] (.seq (.join uqr [(0,.v y134 (.own 0 (.pr .sh (.pr .sh (.pr .sh (.pr .sh (.pr (.own 140 .sh) (.pr (.own 3 .sh) (.pr (.own 101 .sh) (.pr .sh (.pr (.own 97 .sh) (.pr .sh (.pr .sh (.pr .sh (.pr .sh (.pr (.own 103 .sh) (.own 3 .sh))))))))))))))))),(1,uqa),(5,.v (.ptr y101) (.own 0 .sh)),(7,.refi 0 [0,1,1,1,1,0] []),(12,uqa),(13,uqa),(90,uqc)] (.cond .nil .nil)) (.block uqr)))))))))) [(0,.v y134 (.own 0 (.pr .sh (.pr .sh (.pr .sh (.pr .sh (.pr (.own 140 .sh) (.pr (.own 3 .sh) (.pr (.own 101 .sh) (.pr .sh (.pr (.own 97 .sh) (.pr .sh (.pr .sh (.pr .sh (.pr .sh (.pr (.own 103 .sh) (.own 3 .sh))))))))))))))))),(1,uqa),(5,.v (.ptr y101) (.own 0 .sh)),(12,uqa),(13,uqa)] uqr))))))) fun xs=>by kernel_rfl
def E234:FnE Tryz.prog:=⟨234,sg234,d234,sim234⟩
def d176(k:uc3)(r:uc7):Option uc1:=
 (d172 k 1).bind fun e=>
 (d232 k r e false).bind fun a=>
 bif (decide (0≤a.1)&&decide (a.1<(a.2.2.1.length:Int)))then
 (d93 a.2.1.2.2.2.1).bind fun f=>
 (d169 (List.getD a.2.2.1 (Int.toNat a.1) (false,[],[])) f).bind fun g=>
 bif (decide (0≤a.1)&&decide (a.1<(a.2.2.1.length:Int)))then
 (d233 g (List.getD a.2.2.1 (Int.toNat a.1) (false,[],[]))).bind fun c=>
 (d234 a.2.1 a.1 c.1).bind fun b=>
 bif (decide (0≤a.1)&&decide (a.1<(b.2.2.2.2.2.1.length:Int)))then
 bif (decide (0≤a.1)&&decide (a.1<(b.2.2.2.2.2.2.1.length:Int)))then
 some ((b.1,b.2.1,b.2.2.1,b.2.2.2.1,b.2.2.2.2.1,(List.set b.2.2.2.2.2.1 (Int.toNat a.1) 2),(List.set b.2.2.2.2.2.2.1 (Int.toNat a.1) c.1),b.2.2.2.2.2.2.2),a.2.2)
 else none
 else none
 else none
 else none
def sg176:Sig:=⟨[(y134,(.io (.own 0 (.pr .sh (.pr .sh (.pr .sh (.pr .sh (.pr (.own 140 .sh) (.pr (.own 3 .sh) (.pr (.own 101 .sh) (.pr .sh (.pr (.own 97 .sh) (.pr .sh (.pr .sh (.pr .sh (.pr .sh (.pr (.own 103 .sh) (.own 3 .sh)))))))))))))))))),(y194,(.io (.own 0 (.pr .sh (.pr .sh (.pr .sh (.pr .sh (.pr .sh (.pr (.own 3 .sh) (.pr .sh .sh))))))))))],[]⟩
theorem sim176:Sim Tryz.prog 176 sg176 d176:=uqz Tryz.func176 (zaa rfl) Tryz.call176 (by kernel_rfl) (by kernel_rfl) [.fn E172,.fn E232,.fn E93,.fn E169,.fn E233,.fn E234] (.seq (.reg [] [{},{},{},{},{frz:=[(11,[])]}]) (uqs (.seq (.reg [] [{},{},{},{},{},{},{},{},{},{fl:=1}]) (uqs (uqs uqr))))) fun xs=>by kernel_rfl
def E176:FnE Tryz.prog:=⟨176,sg176,d176,sim176⟩
def d177(k:uc3)(r:uc7):Option uc1:=
 (d172 k 0).bind fun b=>
 (d232 k r b true).bind fun a=>
 bif (decide (0≤a.1)&&decide (a.1<(a.2.1.2.2.2.2.2.1.length:Int)))then
 (d93 0).bind fun c=>
 bif (decide (0≤a.1)&&decide (a.1<(a.2.1.2.2.2.2.2.2.1.length:Int)))then
 (d93 1).bind fun e=>
 (d234 (a.2.1.1,a.2.1.2.1,a.2.1.2.2.1,a.2.1.2.2.2.1,a.2.1.2.2.2.2.1,(List.set a.2.1.2.2.2.2.2.1 (Int.toNat a.1) 3),(List.set a.2.1.2.2.2.2.2.2.1 (Int.toNat a.1) c),a.2.1.2.2.2.2.2.2.2) a.1 e).bind fun f=>
 some (f,(a.2.2.1,a.2.2.2.1,a.2.2.2.2.1,a.2.2.2.2.2.1,a.2.2.2.2.2.2.1,a.2.2.2.2.2.2.2.1,[a.1],a.2.2.2.2.2.2.2.2.2))
 else none
 else none
def sg177:Sig:=⟨[(y134,(.io (.own 0 (.pr .sh (.pr .sh (.pr .sh (.pr .sh (.pr (.own 140 .sh) (.pr (.own 3 .sh) (.pr (.own 101 .sh) (.pr .sh (.pr (.own 97 .sh) (.pr .sh (.pr .sh (.pr .sh (.pr .sh (.pr (.own 103 .sh) (.own 3 .sh)))))))))))))))))),(y194,(.io (.own 0 (.pr .sh (.pr .sh (.pr .sh (.pr .sh (.pr .sh (.pr (.own 3 .sh) (.pr .sh .sh))))))))))],[]⟩
theorem sim177:Sim Tryz.prog 177 sg177 d177:=uqz Tryz.func177 (zaa rfl) Tryz.call177 (by kernel_rfl) (by kernel_rfl) [.fn E172,.fn E232,.fn E93,.fn E234] (.seq (.reg [] [{},{},{},{},{frz:=[(8,[])]}]) (uqs (.seq (.reg [(1,[0,1,1,1,1,1,1,0])] []) (uqs uqr)))) fun xs=>by kernel_rfl
def E177:FnE Tryz.prog:=⟨177,sg177,d177,sim177⟩
def d94(p0:uc3):Option (Bool×uc3):=
 (d167 p0).bind fun r=>
 (d168 p0.2.2.2.2.2.2.1).bind fun aa=>
 (d93 p0.2.2.2.1).bind fun ab=>
 (d93 p0.2.2.1).bind fun ac=>
 (zae (β:=uc1) (fun((o,h,n,p,j):uc3×uc7×uc10×Int×Int)=>
 bif (decide (j<p))then
 bif (decide (0≤j)&&decide (j<(n.length:Int)))then
 (d169 h.2.2.2.1 (List.getD n (Int.toNat j) (false,[],[]))).bind fun ae=>
 some (Sum.inl (o,(h.1,h.2.1,h.2.2.1,ae,h.2.2.2.2),n,p,(w (j+1))))
 else none
 else
 some (Sum.inr (o,h))) (p0,(r,aa,ab,ac,(false,[],[]),[],[],[]),r,(r.length:Int),0)).bind fun((q,s):uc3×uc7)=>
 (d172 q 0).bind fun af=>
 (d171 af (fun a=>d173 a s)).bind fun ag=>
 (d170 q s ag).bind fun f=>
 (d93 0).bind fun ah=>
 (d172 f.1 1).bind fun t=>
 (zae (β:=uc1) (fun((u,e,k,v,g):uc3×uc7×uc13×Int×Int)=>
 bif (decide (g<v))then
 bif (decide (0≤g)&&decide (g<(k.length:Int)))then
 bif (decide (0≤(List.getD k (Int.toNat g) 0))&&decide ((List.getD k (Int.toNat g) 0)<(e.1.length:Int)))then
 (d169 (List.getD e.1 (Int.toNat (List.getD k (Int.toNat g) 0)) (false,[],[])) e.2.2.1).bind fun ai=>
 (d175 e.2.2.2.2.1 ai).bind fun aj=>
 some (Sum.inl (u,(e.1,e.2.1,e.2.2.1,e.2.2.2.1,aj,e.2.2.2.2.2),k,v,(w (g+1))))
 else none
 else none
 else
 some (Sum.inr (u,e))) (f.1,(f.2.1,f.2.2.1,f.2.2.2.1,f.2.2.2.2.1,ah,f.2.2.2.2.2.2),t,(t.length:Int),0)).bind fun((c,l):uc3×uc7)=>
 letJ (fun((b,i,ak):uc3×uc7×Bool)=>
 bif (decide ((b.2.2.2.2.2.2.2.2.1.length:Int)+(([i.1]:List uc10).length:Int)≤LIM))then
 bif (decide ((b.2.2.2.2.2.2.2.2.2.2.2.2.2.1.length:Int)+(([i]:List uc7).length:Int)≤LIM))then
 bif (decide ((b.2.2.2.2.2.2.2.2.2.2.2.2.2.2.length:Int)+(i.2.2.2.2.2.1.length:Int)≤LIM))then
 some (!ak,(b.1,b.2.1,b.2.2.1,b.2.2.2.1,b.2.2.2.2.1,b.2.2.2.2.2.1,b.2.2.2.2.2.2.1,b.2.2.2.2.2.2.2.1,(b.2.2.2.2.2.2.2.2.1++[i.1]),b.2.2.2.2.2.2.2.2.2.1,b.2.2.2.2.2.2.2.2.2.2.1,b.2.2.2.2.2.2.2.2.2.2.2.1,b.2.2.2.2.2.2.2.2.2.2.2.2.1,(b.2.2.2.2.2.2.2.2.2.2.2.2.2.1++[i]),(b.2.2.2.2.2.2.2.2.2.2.2.2.2.2++i.2.2.2.2.2.1)))
 else none
 else none
 else none) fun m=>
 bif (decide (c.2.2.2.2.2.2.2.1=c.1.2.2.2.1))then
 m (c,l,(decide (c.2.2.2.2.2.2.2.1=c.1.2.2.2.1)))
 else
 (d172 c 0).bind fun al=>
 bif (decide ((w (c.2.2.2.2.2.2.2.1+(al.length:Int)))≤c.1.2.2.2.1))then
 (d172 c 0).bind fun am=>
 (d170 c l am).bind fun x=>
 m (x.1,x.2,true)
 else
 (d172 c 1).bind fun an=>
 bif (decide (0<(an.length:Int)))then
 (d176 c l).bind fun y=>
 m (y.1,y.2,(decide (c.2.2.2.2.2.2.2.1=c.1.2.2.2.1)))
 else
 (d177 c l).bind fun z=>
 m (z.1,z.2,(decide (c.2.2.2.2.2.2.2.1=c.1.2.2.2.1)))
def sg94:Sig:=⟨[(y134,(.io (.own 0 (.pr .sh (.pr .sh (.pr .sh (.pr .sh (.pr (.own 140 .sh) (.pr (.own 3 .sh) (.pr (.own 101 .sh) (.pr .sh (.pr (.own 97 .sh) (.pr .sh (.pr .sh (.pr .sh (.pr .sh (.pr (.own 103 .sh) (.own 3 .sh))))))))))))))))))],[(y4,.sh)]⟩
theorem sim94:Sim Tryz.prog 94 sg94 d94:=uqz Tryz.func94 (zaa rfl) Tryz.call94 (by kernel_rfl) (by kernel_rfl) [.fn E167,.fn E168,.fn E93,.fn E169,.fn E172,.fn E171,.fn E173,.fn E170,.fn E175,.fn E176,.fn E177] (uqs (.seq (.reg [] [{},{},{},{},{},{},{},{},{},{},{},{},{frz:=[(10,[]),(15,[])],fl:=7}]) (.seq (.reg [(3,[0,1,1,1,1,1,1,0]),(3,[0,1,1,1,1,1,1,1])] []) (.seq (uqs (.block (.loop [(0,.v y134 (.own 0 (.pr .sh (.pr .sh (.pr .sh (.pr .sh (.pr (.own 140 .sh) (.pr (.own 3 .sh) (.pr (.own 101 .sh) (.pr .sh (.pr (.own 97 .sh) (.pr .sh (.pr .sh (.pr .sh (.pr .sh (.pr (.own 103 .sh) (.own 3 .sh))))))))))))))))),(3,.v y194 (.own 0 (.pr .sh (.pr .sh (.pr .sh (.pr .sh (.pr .sh (.pr (.own 3 .sh) (.pr .sh .sh))))))))),(29,.v y97 .sh),(30,uqa),(31,uqa)] [(.brk 0,[(0,.v y134 (.own 0 (.pr .sh (.pr .sh (.pr .sh (.pr .sh (.pr (.own 140 .sh) (.pr (.own 3 .sh) (.pr (.own 101 .sh) (.pr .sh (.pr (.own 97 .sh) (.pr .sh (.pr .sh (.pr .sh (.pr .sh (.pr (.own 103 .sh) (.own 3 .sh))))))))))))))))),(3,.v y194 (.own 0 (.pr .sh (.pr .sh (.pr .sh (.pr .sh (.pr .sh (.pr (.own 3 .sh) (.pr .sh .sh)))))))))])] (uqs (.seq (.cond .nil .nil) (.seq (.block (uqs uqr)) uqr)))))) (uqs (uqs (.seq (uqs (.block (.loop [(0,.v y134 (.own 0 (.pr .sh (.pr .sh (.pr .sh (.pr .sh (.pr (.own 140 .sh) (.pr (.own 3 .sh) (.pr (.own 101 .sh) (.pr .sh (.pr (.own 97 .sh) (.pr .sh (.pr .sh (.pr .sh (.pr .sh (.pr (.own 103 .sh) (.own 3 .sh))))))))))))))))),(3,.v y194 (.own 0 (.pr .sh (.pr .sh (.pr .sh (.pr .sh (.pr .sh (.pr (.own 3 .sh) (.pr .sh .sh))))))))),(50,uqd),(51,uqa),(52,uqa)] [(.brk 2,[(0,.v y134 (.own 0 (.pr .sh (.pr .sh (.pr .sh (.pr .sh (.pr (.own 140 .sh) (.pr (.own 3 .sh) (.pr (.own 101 .sh) (.pr .sh (.pr (.own 97 .sh) (.pr .sh (.pr .sh (.pr .sh (.pr .sh (.pr (.own 103 .sh) (.own 3 .sh))))))))))))))))),(3,.v y194 (.own 0 (.pr .sh (.pr .sh (.pr .sh (.pr .sh (.pr .sh (.pr (.own 3 .sh) (.pr .sh .sh)))))))))])] (uqs (.seq (.cond .nil .nil) (.seq (.block (uqs uqr)) uqr)))))) (uqs (.join (.block (uqs (.cond .nil (uqs (.cond (uqs uqr) (uqs (.cond uqr uqr))))))) [(0,.v y134 (.own 0 (.pr .sh (.pr .sh (.pr .sh (.pr .sh (.pr (.own 140 .sh) (.pr (.own 3 .sh) (.pr (.own 101 .sh) (.pr .sh (.pr (.own 97 .sh) (.pr .sh (.pr .sh (.pr .sh (.pr .sh (.pr (.own 103 .sh) (.own 3 .sh))))))))))))))))),(3,.v y194 (.own 0 (.pr .sh (.pr .sh (.pr .sh (.pr .sh (.pr .sh (.pr (.own 3 .sh) (.pr .sh .sh))))))))),(8,uqc)] (uqs (.seq (.reg [(3,[0,1,1,1,1,1,0])] []) (uqs (uqs .nil))))))))))))) fun xs=>by kernel_rfl
def E94:FnE Tryz.prog:=⟨94,sg94,d94,sim94⟩
def d50(p0:uc8)(p1:List uc12)(p2:List Int):Option uc5:=
 (d66 3 p0 p1 p2).bind fun r=>
 bif !(decide (r=0))then
 some ((0,0,0,0,[],[]),r)
 else
 (d90 p1).bind fun q=>
 (d92 p1).bind fun s=>
 (d91 s p0.2.2.2.1).bind fun t=>
 bif (decide ((p0.2.1.length:Int)=(p0.2.1.length:Int))&&(decide (0≤(p0.2.1.length:Int))&&decide ((p0.2.1.length:Int)≤LIM)))then
 (zae (β:=((List uc12)×uc6×uc3)) (fun((g,h,a,i,j):(List uc12)×uc6×uc3×Int×Int)=>
 bif (decide (j<i))then
 (d93 1).bind fun k=>
 bif (decide ((a.2.2.2.2.2.2.1.length:Int)+(([k]:List uc11).length:Int)≤LIM))then
 some (Sum.inl (g,h,(a.1,a.2.1,a.2.2.1,a.2.2.2.1,a.2.2.2.2.1,a.2.2.2.2.2.1,(a.2.2.2.2.2.2.1++[k]),a.2.2.2.2.2.2.2),i,(w (j+1))))
 else none
 else
 some (Sum.inr (g,h,a))) (p1,(0,0,0,0,[],[]),(p0,p2,q,t,[],(List.replicate (Int.toNat (p0.2.1.length:Int)) 0),[],0,[],3,p0.2.2.2.1,0,(p0.2.1.length:Int),[],[]),(p0.2.1.length:Int),0)).bind fun((l,u,v):(List uc12)×uc6×uc3)=>
 (zae (β:=uc0) (fun((m,b,e,n,c):uc6×uc3×(List uc12)×Int×Int)=>
 bif (decide (c<n))then
 bif (decide (0≤c)&&decide (c<(e.length:Int)))then
 (d93 1).bind fun o=>
 bif (decide ((b.2.2.2.2.1.length:Int)+(([((List.getD e (Int.toNat c) ([],0)).1,(List.getD e (Int.toNat c) ([],0)).2,0,o)]:List uc9).length:Int)≤LIM))then
 some (Sum.inl (m,(b.1,b.2.1,b.2.2.1,b.2.2.2.1,(b.2.2.2.2.1++[((List.getD e (Int.toNat c) ([],0)).1,(List.getD e (Int.toNat c) ([],0)).2,0,o)]),b.2.2.2.2.2),e,n,(w (c+1))))
 else none
 else none
 else
 some (Sum.inr (m,b))) (u,v,l,(l.length:Int),0)).bind fun((x,y):uc6×uc3)=>
 (zae (β:=uc0) (fun((p,z):uc6×uc3)=>
 (d94 z).bind fun f=>
 bif f.1 then
 some (Sum.inl (p,f.2))
 else
 some (Sum.inr (p,f.2))) (x,y)).bind fun((ab,aa):uc6×uc3)=>
 some (aa.2.2.2.2.2.2.2.2.2,0)
 else none
def sg50:Sig:=⟨[(y23,.sh),(y64,.sh),(y26,.sh)],[(y36,.sh),(y2,.sh)]⟩
theorem sim50:Sim Tryz.prog 50 sg50 d50:=uqz Tryz.func50 (zaa rfl) Tryz.call50 (by kernel_rfl) (by kernel_rfl) [.fn E66,.fn E90,.fn E92,.fn E91,.fn E93,.fn E94] (uqs (.seq (uqs (uqs (.cond (uqs .nil) .nil))) (uqs (.seq (.reg [] [{},{},{},{},{},{},{},{},{},{},{},{},{},{},{fl:=1500304103},{fl:=80971610104140}]) (.seq (uqs (.block (.loop [(1,.v y64 .sh),(6,.v (.ptr y36) (.own 0 .sh)),(10,.v y134 (.own 0 (.pr .sh (.pr .sh (.pr .sh (.pr .sh (.pr (.own 140 .sh) (.pr (.own 3 .sh) (.pr (.own 101 .sh) (.pr .sh (.pr (.own 97 .sh) (.pr .sh (.pr .sh (.pr .sh (.pr .sh (.pr (.own 103 .sh) (.own 3 .sh))))))))))))))))),(41,uqa),(42,uqa)] [(.brk 0,[(1,.v y64 .sh),(6,.v (.ptr y36) (.own 0 .sh)),(10,.v y134 (.own 0 (.pr .sh (.pr .sh (.pr .sh (.pr .sh (.pr (.own 140 .sh) (.pr (.own 3 .sh) (.pr (.own 101 .sh) (.pr .sh (.pr (.own 97 .sh) (.pr .sh (.pr .sh (.pr .sh (.pr .sh (.pr (.own 103 .sh) (.own 3 .sh)))))))))))))))))])] (uqs (.seq (.cond .nil .nil) (.seq (.block uqr) uqr)))))) (.seq (uqs (.block (.loop [(6,.v (.ptr y36) (.own 0 .sh)),(10,.v y134 (.own 0 (.pr .sh (.pr .sh (.pr .sh (.pr .sh (.pr (.own 140 .sh) (.pr (.own 3 .sh) (.pr (.own 101 .sh) (.pr .sh (.pr (.own 97 .sh) (.pr .sh (.pr .sh (.pr .sh (.pr .sh (.pr (.own 103 .sh) (.own 3 .sh))))))))))))))))),(55,.v y64 .sh),(56,uqa),(57,uqa)] [(.brk 2,[(6,.v (.ptr y36) (.own 0 .sh)),(10,.v y134 (.own 0 (.pr .sh (.pr .sh (.pr .sh (.pr .sh (.pr (.own 140 .sh) (.pr (.own 3 .sh) (.pr (.own 101 .sh) (.pr .sh (.pr (.own 97 .sh) (.pr .sh (.pr .sh (.pr .sh (.pr .sh (.pr (.own 103 .sh) (.own 3 .sh)))))))))))))))))])] (uqs (.seq (.cond .nil .nil) (.seq (.block (uqs uqr)) uqr)))))) (.seq (.block (.loop [(6,.v (.ptr y36) (.own 0 .sh)),(10,.v y134 (.own 0 (.pr .sh (.pr .sh (.pr .sh (.pr .sh (.pr (.own 140 .sh) (.pr (.own 3 .sh) (.pr (.own 101 .sh) (.pr .sh (.pr (.own 97 .sh) (.pr .sh (.pr .sh (.pr .sh (.pr .sh (.pr (.own 103 .sh) (.own 3 .sh)))))))))))))))))] [(.brk 4,[(6,.v (.ptr y36) (.own 0 .sh)),(10,.v y134 (.own 0 (.pr .sh (.pr .sh (.pr .sh (.pr .sh (.pr (.own 140 .sh) (.pr (.own 3 .sh) (.pr (.own 101 .sh) (.pr .sh (.pr (.own 97 .sh) (.pr .sh (.pr .sh (.pr .sh (.pr .sh (.pr (.own 103 .sh) (.own 3 .sh)))))))))))))))))])] (.seq (uqs (.cond .nil .nil)) (.block .nil)))) (.seq (.reg [(10,[0,1,1,1,1,1,1,1,1,1,1,1,1,1,0]),(10,[0,1,1,1,1,1,1,1,1,1,1,1,1,1,1])] []) .nil)))))))) fun xs=>by kernel_rfl
def E50:FnE Tryz.prog:=⟨50,sg50,d50,sim50⟩
def d20(p0:uc8)(p1:List (Bool×List Int))(p2:List Int):Option uc5:=
 letJ (fun((f,q,s,t,u):(List (Bool×List Int))×uc13×uc8×uc6×Bool)=>
 bif u then
 some ((0,0,0,0,[],[]),5)
 else
 bif (decide (100000<(f.length:Int)))then
 some ((0,0,0,0,[],[]),7)
 else
 (zae (β:=(uc13×uc8×uc6×(List uc13))) (fun((g,h,i,e,b,j,a):uc13×uc8×uc6×(List uc13)×(List (Bool×List Int))×Int×Int)=>
 bif (decide (a<j))then
 letJ (fun((v,x,y,z,aa,ab,ac):uc13×uc8×uc6×(List uc13)×(List (Bool×List Int))×Int×Int)=>
 some (Sum.inl (v,x,y,z,aa,ab,(w (ac+1))))) fun l=>
 bif (decide (0≤a)&&decide (a<(b.length:Int)))then
 bif !((List.getD b (Int.toNat a) (false,[])).1)then
 bif (decide ((e.length:Int)+(([(List.getD b (Int.toNat a) (false,[])).2]:List uc13).length:Int)≤LIM))then
 l (g,h,i,(e++[(List.getD b (Int.toNat a) (false,[])).2]),b,j,a)
 else none
 else
 l (g,h,i,e,b,j,a)
 else none
 else
 some (Sum.inr (g,h,i,e))) (q,s,t,[],f,(f.length:Int),0)).bind fun((k,c,af,ae):uc13×uc8×uc6×(List uc13))=>
 (d47 (c.2.1.length:Int) ae).bind fun r=>
 bif !(decide (r.2=0))then
 some ((0,0,0,0,[],[]),8)
 else
 bif (decide (c.2.2.1=1))then
 (d48 c r.1 k).bind fun m=>
 some (m.1,m.2)
 else
 bif (decide (c.2.2.1=2))then
 (d49 c r.1 k).bind fun n=>
 some (n.1,n.2)
 else
 (d50 c r.1 k).bind fun o=>
 some (o.1,o.2)) fun p=>
 bif !(decide (p0.2.2.1<1))then
 p (p1,p2,p0,(0,0,0,0,[],[]),(decide (3<p0.2.2.1)))
 else
 p (p1,p2,p0,(0,0,0,0,[],[]),true)
def sg20:Sig:=⟨[(y23,.sh),(y25,.sh),(y26,.sh)],[(y36,.sh),(y2,.sh)]⟩
theorem sim20:Sim Tryz.prog 20 sg20 d20:=uqz Tryz.func20 (zaa rfl) Tryz.call20 (by kernel_rfl) (by kernel_rfl) [.fn E47,.fn E48,.fn E49,.fn E50] (uqs (.seq (.join uqr [(1,.v y25 .sh),(2,uqf),(3,.v (.ptr y23) (.own 0 .sh)),(6,.v (.ptr y36) (.own 0 .sh)),(20,uqc)] (.cond (uqs .nil) .nil)) (.seq (uqs (.cond (uqs .nil) .nil)) (.seq (.reg [] [{fl:=2}]) (.seq (uqs (.block (.loop [(2,uqf),(3,.v (.ptr y23) (.own 0 .sh)),(6,.v (.ptr y36) (.own 0 .sh)),(8,.v y48 (.own 26 .sh)),(26,.v y25 .sh),(27,uqa),(28,uqa)] [(.brk 0,[(2,uqf),(3,.v (.ptr y23) (.own 0 .sh)),(6,.v (.ptr y36) (.own 0 .sh)),(8,.v y48 (.own 26 .sh))])] (uqs (.seq (.cond .nil .nil) (.join (.block (uqs (uqs (.cond uqr .nil)))) [(2,uqf),(3,.v (.ptr y23) (.own 0 .sh)),(6,.v (.ptr y36) (.own 0 .sh)),(8,.v y48 (.own 26 .sh)),(26,.v y25 .sh),(27,uqa),(28,uqa)] uqr)))))) (.seq (.reg [] [{},{},{},{},{},{fl:=1}]) (.seq (uqs (.cond (uqs .nil) .nil)) (.seq (uqs (.block (uqs (.cond (uqs .nil) (uqs (.cond (uqs .nil) .nil)))))) (uqs .nil))))))))) fun xs=>by kernel_rfl
def E20:FnE Tryz.prog:=⟨20,sg20,d20,sim20⟩
end
end Go.Proofs.YtamgmpngdmnadaaGreat
