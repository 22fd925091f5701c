/- Part 11 of what stands below the statement. -/
import Derived.Test.YtmipjomnjkmdbaaGreatV10
open Go Go.Proofs Go.X
namespace Go.Proofs.YtmipjomnjkmdbaaGreat
set_option linter.unusedVariables false
set_option maxRecDepth 100000
noncomputable section
abbrev uc9:=(Bool×(List Bool×List Bool))
abbrev uc10:=(Bool×(List Int×List Int))
abbrev uc4:=(List uc10×(List uc10×(uc10×(uc10×(uc10×(List Int×(List Int×List Int)))))))
abbrev uc2:=(Int×(Int×(Int×(Int×(List uc4×List Int)))))
abbrev uc1:=(uc2×Int)
abbrev uc3:=(uc4×Int)
abbrev uc8:=(List uc10)
abbrev uc14:=(List Int×Int)
abbrev uc11:=(List uc14)
abbrev uc15:=(List Bool)
abbrev uc7:=(List uc15×(List Bool×List Int))
abbrev uc12:=(List uc15)
abbrev uc16:=(List Int)
abbrev uc6:=(List Int×(List uc16×(Int×(Int×(Int×(Int×(Int×(Int×Int))))))))
abbrev uc0:=(uc11×uc16×uc6×uc2×Int×Int×uc2×uc16×uc7×uc8)
abbrev uc5:=(uc6×(List uc14×(List Int×(List Bool×List uc8))))
abbrev uc13:=(List uc16)
abbrev uc17:=uc11×uc16×uc6×uc2×Int×Int×uc2×uc16×uc7×uc8×uc12×uc15×uc4×uc15×uc15×Int
abbrev uc18:=uc11×uc16×uc6×uc2×Int×Int×uc2×uc16×uc7×uc8×uc12×uc15×uc4×Int×Bool
abbrev uc19:=uc11×uc16×uc6×uc2×Int×Int×uc2×uc16×uc7×uc8
abbrev uc20:=Int×Int×uc6×uc16×uc13×Int×Int×Int
def d90(p0:uc7)(p1:List uc14)(p2:List Int)(p3:Int)(p4:List Bool)(p5:List Bool):Option uc7:=
 (d77 p0.2.1 p5).bind fun r=>
 (zaa (β:=(uc7×uc7)) (fun((f,n,h,o,p,g,i,j,a):uc11×uc16×Int×uc15×uc15×uc7×uc7×uc7×Int)=>
 bif (decide (a<(f.length:Int)))then
 letJ (fun((aa,ab,ac,ae,af,ag,ah,ai,aj):uc11×uc16×Int×uc15×uc15×uc7×uc7×uc7×Int)=>
 some (Sum.inl (aa,ab,ac,ae,af,ag,ah,ai,(w (aj+1))))) fun q=>
 bif (decide (0≤a)&&decide (a<(f.length:Int)))then
 letJ (fun((s,k,t,l,m,c,u,e,b,ak,al):uc11×uc16×Int×uc15×uc15×uc7×uc7×uc7×Int×uc16×Bool)=>
 bif al then
 bif (decide (0≤b)&&decide (b<(c.1.length:Int)))then
 (d77 (List.getD c.1 (Int.toNat b) []) l).bind fun v=>
 bif (decide ((e.1.length:Int)+(([v]:List uc15).length:Int)≤LIM))then
 bif (decide (0≤b)&&decide (b<(c.2.2.length:Int)))then
 (d150 ak k (w ((List.getD c.2.2 (Int.toNat b) 0)+1))).bind fun x=>
 bif (decide ((e.2.2.length:Int)+(([x]:List Int).length:Int)≤LIM))then
 q (s,k,t,l,m,c,u,((e.1++[v]),e.2.1,(e.2.2++[x])),b)
 else none
 else none
 else none
 else none
 else
 bif (decide (0≤b)&&decide (b<(c.1.length:Int)))then
 (d77 (List.getD c.1 (Int.toNat b) []) m).bind fun y=>
 bif (decide ((e.1.length:Int)+(([y]:List uc15).length:Int)≤LIM))then
 bif (decide (0≤b)&&decide (b<(c.2.2.length:Int)))then
 bif (decide ((e.2.2.length:Int)+(([(List.getD c.2.2 (Int.toNat b) 0)]:List Int).length:Int)≤LIM))then
 q (s,k,t,l,m,c,u,((e.1++[y]),e.2.1,(e.2.2++[(List.getD c.2.2 (Int.toNat b) 0)])),b)
 else none
 else none
 else none
 else none) fun z=>
 bif (decide (0≤a)&&decide (a<(g.2.2.length:Int)))then
 bif (decide ((List.getD g.2.2 (Int.toNat a) 0)<(((List.getD f (Int.toNat a) ([],0)).1).length:Int)))then
 bif (decide (0≤a)&&decide (a<(g.2.2.length:Int)))then
 bif (decide (0≤(List.getD g.2.2 (Int.toNat a) 0))&&decide ((List.getD g.2.2 (Int.toNat a) 0)<(((List.getD f (Int.toNat a) ([],0)).1).length:Int)))then
 z (f,n,h,o,p,g,i,j,a,(List.getD f (Int.toNat a) ([],0)).1,(decide ((List.getD ((List.getD f (Int.toNat a) ([],0)).1) (Int.toNat (List.getD g.2.2 (Int.toNat a) 0)) 0)=h)))
 else none
 else none
 else
 z (f,n,h,o,p,g,i,j,a,(List.getD f (Int.toNat a) ([],0)).1,false)
 else none
 else none
 else
 some (Sum.inr (i,j))) (p1,p2,p3,p4,p5,p0,([],[],[]),([],r,[]),0)).bind fun((an,am):uc7×uc7)=>
 some am
def d28(p0:uc6)(p1:List uc14)(p2:List Int):Option uc1:=
 (d23 3 p0 p1 p2).bind fun r=>
 bif !(decide (r=0))then
 some ((0,0,0,0,[],[]),r)
 else
 (d74 p1).bind fun gm=>
 (d73 gm p0.2.2.2.1).bind fun gn=>
 bif (decide ((p0.2.1.length:Int)=(p0.2.1.length:Int))&&(decide (0≤(p0.2.1.length:Int))&&decide ((p0.2.1.length:Int)≤LIM)))then
 (d75 1).bind fun go=>
 (zaa (β:=uc0) (fun((bp,bq,br,bs,ao,bt,bu,bv,bx,ap,bz):uc11×uc16×uc6×uc2×Int×Int×uc2×uc16×uc7×uc8×Int)=>
 bif (decide (bz<ao))then
 (d39 1).bind fun ca=>
 bif (decide ((ap.length:Int)+(([ca]:List uc10).length:Int)≤LIM))then
 some (Sum.inl (bp,bq,br,bs,ao,bt,bu,bv,bx,(ap++[ca]),(w (bz+1))))
 else none
 else
 some (Sum.inr (bp,bq,br,bs,ao,bt,bu,bv,bx,ap))) (p1,p2,p0,(0,0,0,0,[],[]),(p0.2.1.length:Int),gn,(3,p0.2.2.2.1,0,(p0.2.1.length:Int),[],[]),(List.replicate (Int.toNat (p0.2.1.length:Int)) 0),([],go,[]),[],0)).bind fun((gp,gq,gr,gs,gt,gu,gv,gx,gy,gz):uc19)=>
 (zaa (β:=uc0) (fun((aq,cb,cc,ce,cf,cg,ch,ci,n,cj,ck):uc11×uc16×uc6×uc2×Int×Int×uc2×uc16×uc7×uc8×Int)=>
 bif (decide (ck<(aq.length:Int)))then
 (d75 1).bind fun cl=>
 bif (decide ((n.1.length:Int)+(([cl]:List uc15).length:Int)≤LIM))then
 bif (decide ((n.2.2.length:Int)+(([0]:List Int).length:Int)≤LIM))then
 some (Sum.inl (aq,cb,cc,ce,cf,cg,ch,ci,((n.1++[cl]),n.2.1,(n.2.2++[0])),cj,(w (ck+1))))
 else none
 else none
 else
 some (Sum.inr (aq,cb,cc,ce,cf,cg,ch,ci,n,cj))) (gp,gq,gr,gs,gt,gu,gv,gx,gy,gz,0)).bind fun((ha,hb,hc,he,hf,hg,hh,hi,hj,hk):uc19)=>
 (zaa (β:=uc1) (fun((cm,hl,hm,hn,ho,y,hp,cn,ar,au):uc19)=>
 (d76 ar cm cn y).bind fun hq=>
 (d75 y).bind fun hr=>
 (d77 hr ar.2.1).bind fun hs=>
 (d39 y).bind fun ht=>
 bif (decide ((([]:List uc10).length:Int)+(au.length:Int)≤LIM))then
 (d75 0).bind fun hu=>
 (d75 0).bind fun hv=>
 (zaa (β:=(uc11×uc16×uc6×uc2×Int×Int×uc2×uc16×uc7×uc8×uc12×uc15×uc4×uc15×uc15)) (fun((av,ax,ay,az,z,ba,bb,t,aa,bc,f,ab,o,co,be,b):uc17)=>
 bif (decide (b<z))then
 letJ (fun((hx,hy,hz,ia,ib,ic,ie,ig,ih,ii,ij,ik,il,im,io,ip):uc17)=>
 some (Sum.inl (hx,hy,hz,ia,ib,ic,ie,ig,ih,ii,ij,ik,il,im,io,(w (ip+1))))) fun cp=>
 bif (decide (0≤b)&&decide (b<(f.length:Int)))then
 (d78 (List.getD f (Int.toNat b) []) aa.2.1).bind fun bf=>
 bif (decide ((o.1.length:Int)+(([bf]:List uc10).length:Int)≤LIM))then
 bif (decide (0≤b)&&decide (b<(f.length:Int)))then
 (d79 co (List.getD f (Int.toNat b) [])).bind fun cq=>
 letJ (fun((cr,cs,ct,cu,cv,cx,cy,ac,cz,ea,ae,bg,eb,ec,ee,g):uc17)=>
 bif (decide (0≤g)&&decide (g<(ac.length:Int)))then
 bif (decide ((List.getD ac (Int.toNat g) 0)=1))then
 bif (decide (0≤g)&&decide (g<(ae.length:Int)))then
 (d82 (List.getD ae (Int.toNat g) []) bg).bind fun iq=>
 (d79 ee iq).bind fun ir=>
 cp (cr,cs,ct,cu,cv,cx,cy,ac,cz,ea,ae,bg,eb,ec,ir,g)
 else none
 else
 cp (cr,cs,ct,cu,cv,cx,cy,ac,cz,ea,ae,bg,eb,ec,ee,g)
 else none) fun ef=>
 letJ (fun((eg,eh,ei,ej,ek,el,em,bh,en,eo,ep,eq,h,er,es,p,it):uc11×uc16×uc6×uc2×Int×Int×uc2×uc16×uc7×uc8×uc12×uc15×uc4×uc15×uc15×Int×Bool)=>
 bif it then
 bif (decide (0≤p)&&decide (p<(bh.length:Int)))then
 (d81 h.2.2.2.2.2.1 p).bind fun iu=>
 ef (eg,eh,ei,ej,ek,el,em,(List.set bh (Int.toNat p) 1),en,eo,ep,eq,(h.1,h.2.1,h.2.2.1,h.2.2.2.1,h.2.2.2.2.1,iu,h.2.2.2.2.2.2),er,es,p)
 else none
 else
 ef (eg,eh,ei,ej,ek,el,em,bh,en,eo,ep,eq,h,er,es,p)) fun et=>
 bif (decide (0≤b)&&decide (b<(t.length:Int)))then
 bif (decide ((List.getD t (Int.toNat b) 0)=0))then
 bif (decide (0≤b)&&decide (b<(f.length:Int)))then
 (d80 (List.getD f (Int.toNat b) []) ab).bind fun iv=>
 et (av,ax,ay,az,z,ba,bb,t,aa,bc,f,ab,((o.1++[bf]),o.2),cq,be,b,(decide (0≤iv)))
 else none
 else
 et (av,ax,ay,az,z,ba,bb,t,aa,bc,f,ab,((o.1++[bf]),o.2),cq,be,b,false)
 else none
 else none
 else none
 else none
 else
 some (Sum.inr (av,ax,ay,az,z,ba,bb,t,aa,bc,f,ab,o,co,be))) (cm,hl,hm,hn,ho,y,hp,cn,ar,au,hq,hs,([],au,ht,(false,[],[]),(false,[],[]),[],[],[]),hu,hv,0)).bind fun((bi,eu,af,ev,ex,ey,ez,u,v,fa,fb,fc,i,ix,iy):uc11×uc16×uc6×uc2×Int×Int×uc2×uc16×uc7×uc8×uc12×uc15×uc4×uc15×uc15)=>
 (d83 bi).bind fun iz=>
 (d75 iz).bind fun ja=>
 (d77 ja v.2.1).bind fun jb=>
 (d82 jb ix).bind fun jc=>
 (d78 jc v.2.1).bind fun fe=>
 (d78 iy v.2.1).bind fun ff=>
 (d84 u 1).bind fun ag=>
 (d84 u 2).bind fun ah=>
 letJ (fun((fg,fh,bj,ai,fi,fj,aj,ak,fk,fl,fm,fn,e,je,jf):uc18)=>
 bif jf then
 letJ (fun((kh,c,bk):uc2×uc2×uc4)=>
 bif (decide ((c.2.2.2.2.1.length:Int)+(([bk]:List uc4).length:Int)≤LIM))then
 (d86 (c.1,c.2.1,c.2.2.1,c.2.2.2.1,(c.2.2.2.2.1++[bk]),c.2.2.2.2.2)).bind fun jg=>
 some (Sum.inr ((c.1,c.2.1,c.2.2.1,c.2.2.2.1,(c.2.2.2.2.1++[bk]),jg),0))
 else none) fun fo=>
 bif (decide (je<bj.2.2.2.1))then
 (d85 e.2.2.2.2.2.1 ak).bind fun jh=>
 fo (ai,aj,(e.1,e.2.1,e.2.2.1,e.2.2.2.1,e.2.2.2.2.1,jh.1,e.2.2.2.2.2.2))
 else
 fo (ai,aj,e)
 else
 letJ (fun((fp,bl,bm,fq,fr,fs,l,bn,ft,fu,bo,fv,j,ji,al):uc18)=>
 (d87 bo bn ji al).bind fun x=>
 bif (decide (0≤0)&&decide (0<(x.length:Int)))then
 letJ (fun((am,fx,fy,fz,ga,gb,gc,q,ge,an,s,jj,k,jk,a):uc11×uc16×uc6×uc2×Int×Int×uc2×uc16×uc7×uc8×uc12×uc15×uc4×Bool×Int)=>
 letJ (fun((jl,jm,jn,jo,jp,jq,m,jr,js,jt,gf):uc11×uc16×uc6×uc2×Int×Int×uc2×uc16×uc7×uc8×uc4)=>
 bif (decide ((m.2.2.2.2.1.length:Int)+(([gf]:List uc4).length:Int)≤LIM))then
 some (Sum.inl (jl,jm,jn,jo,jp,jq,(m.1,m.2.1,m.2.2.1,m.2.2.2.1,(m.2.2.2.2.1++[gf]),m.2.2.2.2.2),jr,js,jt))
 else none) fun gg=>
 bif jk then
 bif (decide (0≤a)&&decide (a<(s.length:Int)))then
 (d82 (List.getD s (Int.toNat a) []) jj).bind fun gh=>
 bif (decide (0≤a)&&decide (a<(s.length:Int)))then
 (d78 gh (List.getD s (Int.toNat a) [])).bind fun ju=>
 bif (decide (0≤a)&&decide (a<(q.length:Int)))then
 bif (decide (0≤a)&&decide (a<(an.length:Int)))then
 bif (decide (0≤a)&&decide (a<(s.length:Int)))then
 (d90 ge am (List.set q (Int.toNat a) 2) a gh (List.getD s (Int.toNat a) [])).bind fun jv=>
 gg (am,fx,fy,fz,ga,gb,gc,(List.set q (Int.toNat a) 2),jv,(List.set an (Int.toNat a) ju),k)
 else none
 else none
 else none
 else none
 else none
 else
 (d39 0).bind fun jx=>
 bif (decide (0≤a)&&decide (a<(q.length:Int)))then
 bif (decide (0≤a)&&decide (a<(an.length:Int)))then
 (d75 1).bind fun jy=>
 (d75 1).bind fun jz=>
 (d90 ge am (List.set q (Int.toNat a) 3) a jy jz).bind fun ka=>
 gg (am,fx,fy,fz,ga,gb,gc,(List.set q (Int.toNat a) 3),ka,(List.set an (Int.toNat a) jx),(k.1,k.2.1,k.2.2.1,k.2.2.2.1,k.2.2.2.2.1,k.2.2.2.2.2.1,[a],k.2.2.2.2.2.2.2))
 else none
 else none) fun gi=>
 bif (decide (1<(x.length:Int)))then
 (d89 l.2.2.2.2.1).bind fun gj=>
 (d88 bm.2.2.2.2.2.2.1 gj.1 x bl (!al)).bind fun kb=>
 gi (fp,bl,bm,fq,fr,fs,(l.1,l.2.1,l.2.2.1,l.2.2.2.1,gj.2,l.2.2.2.2.2),bn,ft,fu,bo,fv,(j.1,j.2.1,j.2.2.1,j.2.2.2.1,j.2.2.2.2.1,j.2.2.2.2.2.1,j.2.2.2.2.2.2.1,x),al,kb.1)
 else
 gi (fp,bl,bm,fq,fr,fs,l,bn,ft,fu,bo,fv,j,al,(List.getD x 0 0))
 else none) fun gk=>
 (d84 ak 1).bind fun kc=>
 bif (decide (0<kc))then
 gk (fg,fh,bj,ai,fi,fj,aj,ak,fk,fl,fm,fn,e,1,true)
 else
 gk (fg,fh,bj,ai,fi,fj,aj,ak,fk,fl,fm,fn,e,0,false)) fun gl=>
 bif !(decide ((w (ag+ah))=af.2.2.2.1))then
 (d84 u 0).bind fun ke=>
 gl (bi,eu,af,ev,ex,ey,ez,u,v,fa,fb,fc,(i.1,i.2.1,i.2.2.1,fe,ff,i.2.2.2.2.2),(w (ag+ah)),(decide ((w ((w (ag+ah))+ke))≤af.2.2.2.1)))
 else
 gl (bi,eu,af,ev,ex,ey,ez,u,v,fa,fb,fc,(i.1,i.2.1,i.2.2.1,fe,ff,i.2.2.2.2.2),(w (ag+ah)),true)
 else none) (ha,hb,hc,he,hf,hg,hh,hi,hj,hk)).bind fun((kf,kg):uc2×Int)=>
 some (kf,kg)
 else none
def d184(a:List uc10)(b:List uc10):Option Bool:=
 bif !(decide ((a.length:Int)=(b.length:Int)))then
  some false
 else
  (zaa (β:=Unit⊕Bool) (fun((c,e,i):uc8×uc8×Int)=>
    bif (decide (i<(c.length:Int)))then
     bif (decide (0≤i)&&decide (i<(c.length:Int)))then
      bif (decide (0≤i)&&decide (i<(e.length:Int)))then
       (d37 (List.getD c (Int.toNat i) (false,[],[])) (List.getD e (Int.toNat i) (false,[],[]))).bind fun r=>
       bif !r then
        some (Sum.inr (Sum.inr false))
       else
        some (Sum.inl (c,e,(w (i+1))))
      else none
     else none
    else
     some (Sum.inr (Sum.inl ()))) (a,b,0)).bind fun
  |Sum.inl _=>
   some true
  |Sum.inr f=>
   some f
def d151(a:uc4)(b:uc4):Option Bool:=
 (d184 a.1 b.1).bind fun r=>
 bif r then
 (d184 a.2.1 b.2.1).bind fun c=>
 bif c then
 (d37 a.2.2.1 b.2.2.1).bind fun e=>
 bif e then
 (d37 a.2.2.2.1 b.2.2.2.1).bind fun f=>
 bif f then
 (d37 a.2.2.2.2.1 b.2.2.2.2.1).bind fun g=>
 bif g then
 (d38 a.2.2.2.2.2.1 b.2.2.2.2.2.1).bind fun h=>
 bif h then
 (d38 a.2.2.2.2.2.2.1 b.2.2.2.2.2.2.1).bind fun i=>
 bif i then
 (d38 a.2.2.2.2.2.2.2 b.2.2.2.2.2.2.2).bind fun j=>
 some j
 else
 some false
 else
 some false
 else
 some false
 else
 some false
 else
 some false
 else
 some false
 else
 some false
def d91(p0:uc2)(p1:uc2):Option Bool:=
 letJ (fun((f,g,h):uc2×uc2×Bool)=>
   bif h then
    some false
   else
    (zaa (β:=Unit⊕Bool) (fun((c,e,a):uc2×uc2×Int)=>
      bif (decide (a<(c.2.2.2.2.1.length:Int)))then
       bif (decide (0≤a)&&decide (a<(c.2.2.2.2.1.length:Int)))then
        bif (decide (0≤a)&&decide (a<(e.2.2.2.2.1.length:Int)))then
         (d151 (List.getD c.2.2.2.2.1 (Int.toNat a) ([],[],(false,[],[]),(false,[],[]),(false,[],[]),[],[],[])) (List.getD e.2.2.2.2.1 (Int.toNat a) ([],[],(false,[],[]),(false,[],[]),(false,[],[]),[],[],[]))).bind fun i=>
         bif !i then
          some (Sum.inr (Sum.inr false))
         else
          some (Sum.inl (c,e,(w (a+1))))
        else none
       else none
      else
       some (Sum.inr (Sum.inl ()))) (f,g,0)).bind fun
    |Sum.inl _=>
     some true
    |Sum.inr j=>
     some j) fun b=>
 bif !(!(decide (p0.1=p1.1)))then
  bif !(!(decide (p0.2.1=p1.2.1)))then
   bif !(!(decide (p0.2.2.1=p1.2.2.1)))then
    bif !(!(decide (p0.2.2.2.1=p1.2.2.2.1)))then
     (d38 p0.2.2.2.2.2 p1.2.2.2.2.2).bind fun r=>
     bif !(!r)then
      b (p0,p1,!(decide ((p0.2.2.2.2.1.length:Int)=(p1.2.2.2.2.1.length:Int))))
     else
      b (p0,p1,true)
    else
     b (p0,p1,true)
   else
    b (p0,p1,true)
  else
   b (p0,p1,true)
 else
  b (p0,p1,true)
def d29(a:uc2)(b:uc2):Option Bool:=
 (d91 a b).bind fun r=>
 some r
def d3(p0:uc6)(p1:List uc14)(p2:List Int)(p3:Bool)(p4:Int)(p5:Int)(p6:List uc16):Option Bool:=
 letJ (fun((e,f,l,m,n,o,a,p):uc11×uc16×Bool×Int×Int×uc13×uc6×Bool)=>
 bif p then
 (d21).bind fun q=>
 some q
 else
 bif l then
 (d22 a e f).bind fun s=>
 (d21).bind fun t=>
 bif t then
 (d23 3 a e f).bind fun u=>
 some (decide (s.2=u))
 else
 some false
 else
 (d24 m 7).bind fun c=>
 (d25 2 (w (1+c)) a.2.2.2.1 0 a.2.2.2.2.2.2.1).bind fun g=>
 (d26 (w (1+c)) o 16).bind fun h=>
 (d27 (w (1+c)) n).bind fun i=>
 (d22 g h i).bind fun j=>
 (d28 g h i).bind fun k=>
 (d21).bind fun v=>
 bif v then
 bif (decide (j.2=k.2))then
 (d29 j.1 k.1).bind fun x=>
 some x
 else
 some false
 else
 some false) fun b=>
 (d19 p1).bind fun r=>
 bif !(!r)then
 (d20 p6).bind fun y=>
 bif !(!y)then
 bif !(decide (12<(p2.length:Int)))then
 b (p1,p2,p3,p4,p5,p6,p0,(decide (12<(p0.2.1.length:Int))))
 else
 b (p1,p2,p3,p4,p5,p6,p0,true)
 else
 b (p1,p2,p3,p4,p5,p6,p0,true)
 else
 b (p1,p2,p3,p4,p5,p6,p0,true)
def d4(ballots:Int)(seats:Int):Option Bool:=
 (d30 ballots seats).bind fun r=>
 letJ (fun((b,c,q,e):Int×Int×Int×Bool)=>
 bif e then
 (d21).bind fun f=>
 bif f then
 some (decide (q=0))
 else
 some false
 else
 (d21).bind fun g=>
 bif g then
 bif (decide (1≤q))then
 bif (decide (q≤100001))then
 bif (decide (b<(w (q*(w (c+1))))))then
 some (decide ((w ((w (q-1))*(w (c+1))))≤b))
 else
 some false
 else
 some false
 else
 some false
 else
 some false) fun a=>
 bif !(decide (ballots<0))then
 bif !(decide (100000<ballots))then
 bif !(decide (seats<1))then
 a (ballots,seats,r,(decide (5<seats)))
 else
 a (ballots,seats,r,true)
 else
 a (ballots,seats,r,true)
 else
 a (ballots,seats,r,true)
def d31(n:Int)(seats:Int)(ties:Int)(c:Int)(ballots:List uc16):Option (uc6×uc11×uc2×Int):=
 (d25 2 n seats 0 ties).bind fun r=>
 (d26 n ballots 16).bind fun a=>
 (d27 n c).bind fun e=>
 (d22 r a e).bind fun b=>
 some (r,a,b.1,b.2)
def d5(p0:Int)(p1:Int)(p2:Int)(p3:Int)(p4:List uc16):Option Bool:=
 (d20 p4).bind fun r=>
 bif !r then
  (d21).bind fun z=>
  some z
 else
  (d24 p0 7).bind fun b=>
  (d31 (w (1+b)) p1 p2 p3 p4).bind fun a=>
  letJ (fun((aa,ab,ac,ae):Int×uc13×uc2×Bool)=>
    bif ae then
     some false
    else
     (d33 0).bind fun af=>
     (zaa (β:=Unit⊕Bool) (fun((ag,ah,e,ai,c):Int×uc13×uc2×uc9×Int)=>
       bif (decide (c<(e.2.2.2.2.1.length:Int)))then
        bif (decide (0≤c)&&decide (c<(e.2.2.2.2.1.length:Int)))then
         (d34 (((((List.getD e.2.2.2.2.1 (Int.toNat c) ([],[],(false,[],[]),(false,[],[]),(false,[],[]),[],[],[])).2).2).2).1)).bind fun p=>
         (zaa (β:=(Int×uc13×uc2×uc9×Int×uc4×uc9×uc9)) (fun((q,s,t,u,v,f,x,y,g):Int×uc13×uc2×uc9×Int×uc4×uc9×uc9×Int)=>
           bif (decide (g<(f.1.length:Int)))then
            bif (decide (0≤g)&&decide (g<(f.1.length:Int)))then
             (d34 (List.getD f.1 (Int.toNat g) (false,[],[]))).bind fun aj=>
             (d35 y aj).bind fun ak=>
             some (Sum.inl (q,s,t,u,v,f,x,ak,(w (g+1))))
            else none
           else
            some (Sum.inr (q,s,t,u,v,f,x,y))) (ag,ah,e,ai,c,(List.getD e.2.2.2.2.1 (Int.toNat c) ([],[],(false,[],[]),(false,[],[]),(false,[],[]),[],[],[])),p,p,0)).bind fun((h,i,m,j,n,al,k,am):Int×uc13×uc2×uc9×Int×uc4×uc9×uc9)=>
         letJ (fun((an,ao,ap,bc,aq,ar,au):Int×uc13×uc2×uc9×Int×uc9×Bool)=>
           bif au then
            some (Sum.inr (Sum.inr false))
           else
            some (Sum.inl (an,ao,ap,ar,(w (aq+1))))) fun o=>
         bif !(!(decide ((al.1.length:Int)=h)))then
          (d33 (i.length:Int)).bind fun av=>
          (d36 am av).bind fun ax=>
          bif !(!(decide (ax=0)))then
           (d36 k j).bind fun ay=>
           o (h,i,m,j,n,k,(decide (ay<0)))
          else
           o (h,i,m,j,n,k,true)
         else
          o (h,i,m,j,n,k,true)
        else none
       else
        some (Sum.inr (Sum.inl ()))) (aa,ab,ac,af,0)).bind fun
     |Sum.inl _=>
      (d21).bind fun az=>
      some az
     |Sum.inr ba=>
      some ba) fun l=>
  bif !(!(decide (a.2.2.2=0)))then
   bif !(decide ((a.2.2.1.2.2.2.2.1.length:Int)<1))then
    bif !(!(decide ((a.2.2.1.2.2.2.2.2.length:Int)=(bif (decide ((w (1+b))<a.1.2.2.2.1))then(w (1+b))else a.1.2.2.2.1))))then
     (d32 (w (1+b)) a.2.2.1.2.2.2.2.2).bind fun bb=>
     l ((w (1+b)),p4,a.2.2.1,!bb)
    else
     l ((w (1+b)),p4,a.2.2.1,true)
   else
    l ((w (1+b)),p4,a.2.2.1,true)
  else
   l ((w (1+b)),p4,a.2.2.1,true)
def d6(p0:Int)(p1:Int)(p2:Int)(p3:Int)(p4:List uc16):Option Bool:=
 (d20 p4).bind fun r=>
 bif !r then
  (d21).bind fun u=>
  some u
 else
  (d24 p0 7).bind fun p=>
  (d31 (w (1+p)) p1 p2 p3 p4).bind fun o=>
  letJ (fun((v,x,y):Int×uc2×Bool)=>
    bif y then
     some false
    else
     (d33 1).bind fun z=>
     (zaa (β:=Unit⊕Bool) (fun((g,c,m,a):Int×uc2×uc9×Int)=>
       bif (decide ((w (a+1))<(c.2.2.2.2.1.length:Int)))then
        bif (decide (0≤a)&&decide (a<(c.2.2.2.2.1.length:Int)))then
         bif (decide (0≤(w (a+1)))&&decide ((w (a+1))<(c.2.2.2.2.1.length:Int)))then
          letJ (fun((aa,ab,ac,ae,af,ag,ah):Int×uc2×uc9×Int×uc4×uc4×Bool)=>
            bif ah then
             some (Sum.inr (Sum.inr false))
            else
             (zaa (β:=(Int×uc2×uc9×Int×Int)⊕Bool) (fun((h,j,i,k,e,f,l,b):Int×uc2×uc9×Int×uc4×uc4×Int×Int)=>
               bif (decide (b<h))then
                letJ (fun((ai,aj,ak,al,am,an,ao,ap):Int×uc2×uc9×Int×uc4×uc4×Int×Int)=>
                  some (Sum.inl (ai,aj,ak,al,am,an,ao,(w (ap+1))))) fun q=>
                bif (decide (0≤b)&&decide (b<(e.2.1.length:Int)))then
                 bif (decide (0≤b)&&decide (b<(f.2.1.length:Int)))then
                  (d37 (List.getD e.2.1 (Int.toNat b) (false,[],[])) (List.getD f.2.1 (Int.toNat b) (false,[],[]))).bind fun aq=>
                  bif aq then
                   q (h,j,i,k,e,f,l,b)
                  else
                   (d38 e.2.2.2.2.2.2.1 [b]).bind fun ar=>
                   bif ar then
                    bif (decide (0≤b)&&decide (b<(f.2.1.length:Int)))then
                     (d39 0).bind fun au=>
                     (d37 (List.getD f.2.1 (Int.toNat b) (false,[],[])) au).bind fun av=>
                     bif !av then
                      some (Sum.inr (Sum.inr false))
                     else
                      q (h,j,i,k,e,f,(w (l+1)),b)
                    else none
                   else
                    bif (decide (0≤b)&&decide (b<(e.1.length:Int)))then
                     (d34 (List.getD e.1 (Int.toNat b) (false,[],[]))).bind fun ax=>
                     bif (decide (0≤b)&&decide (b<(f.2.1.length:Int)))then
                      (d34 (List.getD f.2.1 (Int.toNat b) (false,[],[]))).bind fun ay=>
                      (d41 ay).bind fun az=>
                      (d35 i az).bind fun ba=>
                      (d40 ax ba).bind fun bb=>
                      letJ (fun((bc,be,bf,bg,bh,bi,bj,bk,bl):Int×uc2×uc9×Int×uc4×uc4×Int×Int×Bool)=>
                        bif bl then
                         some (Sum.inr (Sum.inr false))
                        else
                         q (bc,be,bf,bg,bh,bi,bj,bk)) fun s=>
                      bif !(!(decide ((e.2.2.2.2.2.2.1.length:Int)=0)))then
                       (d34 e.2.2.1).bind fun bm=>
                       (d36 bb bm).bind fun bn=>
                       bif !(!(decide (bn=0)))then
                        bif (decide (0≤b)&&decide (b<(f.1.length:Int)))then
                         (d37 (List.getD f.1 (Int.toNat b) (false,[],[])) e.2.2.1).bind fun bo=>
                         s (h,j,i,k,e,f,(w (l+1)),b,!bo)
                        else none
                       else
                        s (h,j,i,k,e,f,(w (l+1)),b,true)
                      else
                       s (h,j,i,k,e,f,(w (l+1)),b,true)
                     else none
                    else none
                 else none
                else none
               else
                some (Sum.inr (Sum.inl (h,j,i,k,l)))) (aa,ab,ac,ae,af,ag,0,0)).bind fun
             |Sum.inl (bp,bq,br,bs,bt)=>
              bif !(decide (bt=1))then
               some (Sum.inr (Sum.inr false))
              else
               some (Sum.inl (bp,bq,br,(w (bs+1))))
             |Sum.inr bu=>
              some (Sum.inr (Sum.inr bu))) fun n=>
          bif !(!(decide (((((List.getD c.2.2.2.2.1 (Int.toNat a) ([],[],(false,[],[]),(false,[],[]),(false,[],[]),[],[],[])).2).1).length:Int)=g)))then
           bif !(!(decide (((((List.getD c.2.2.2.2.1 (Int.toNat (w (a+1))) ([],[],(false,[],[]),(false,[],[]),(false,[],[]),[],[],[])).2).1).length:Int)=g)))then
            bif !(!(decide ((((List.getD c.2.2.2.2.1 (Int.toNat a) ([],[],(false,[],[]),(false,[],[]),(false,[],[]),[],[],[])).1).length:Int)=g)))then
             bif !(!(decide ((((List.getD c.2.2.2.2.1 (Int.toNat (w (a+1))) ([],[],(false,[],[]),(false,[],[]),(false,[],[]),[],[],[])).1).length:Int)=g)))then
              (d37 ((((List.getD c.2.2.2.2.1 (Int.toNat a) ([],[],(false,[],[]),(false,[],[]),(false,[],[]),[],[],[])).2).2).1) ((((List.getD c.2.2.2.2.1 (Int.toNat (w (a+1))) ([],[],(false,[],[]),(false,[],[]),(false,[],[]),[],[],[])).2).2).1)).bind fun bv=>
              n (g,c,m,a,(List.getD c.2.2.2.2.1 (Int.toNat a) ([],[],(false,[],[]),(false,[],[]),(false,[],[]),[],[],[])),(List.getD c.2.2.2.2.1 (Int.toNat (w (a+1))) ([],[],(false,[],[]),(false,[],[]),(false,[],[]),[],[],[])),!bv)
             else
              n (g,c,m,a,(List.getD c.2.2.2.2.1 (Int.toNat a) ([],[],(false,[],[]),(false,[],[]),(false,[],[]),[],[],[])),(List.getD c.2.2.2.2.1 (Int.toNat (w (a+1))) ([],[],(false,[],[]),(false,[],[]),(false,[],[]),[],[],[])),true)
            else
             n (g,c,m,a,(List.getD c.2.2.2.2.1 (Int.toNat a) ([],[],(false,[],[]),(false,[],[]),(false,[],[]),[],[],[])),(List.getD c.2.2.2.2.1 (Int.toNat (w (a+1))) ([],[],(false,[],[]),(false,[],[]),(false,[],[]),[],[],[])),true)
           else
            n (g,c,m,a,(List.getD c.2.2.2.2.1 (Int.toNat a) ([],[],(false,[],[]),(false,[],[]),(false,[],[]),[],[],[])),(List.getD c.2.2.2.2.1 (Int.toNat (w (a+1))) ([],[],(false,[],[]),(false,[],[]),(false,[],[]),[],[],[])),true)
          else
           n (g,c,m,a,(List.getD c.2.2.2.2.1 (Int.toNat a) ([],[],(false,[],[]),(false,[],[]),(false,[],[]),[],[],[])),(List.getD c.2.2.2.2.1 (Int.toNat (w (a+1))) ([],[],(false,[],[]),(false,[],[]),(false,[],[]),[],[],[])),true)
         else none
        else none
       else
        some (Sum.inr (Sum.inl ()))) (v,x,z,0)).bind fun
     |Sum.inl _=>
      (d21).bind fun bx=>
      some bx
     |Sum.inr bz=>
      some bz) fun t=>
  bif !(!(decide (o.2.2.2=0)))then
   t ((w (1+p)),o.2.2.1,(decide ((o.2.2.1.2.2.2.2.1.length:Int)<1)))
  else
   t ((w (1+p)),o.2.2.1,true)
def d43(l:List Int)(to:List Int):Option uc16:=
 (zaa (β:=uc16) (fun((a,b,out,i):uc16×uc16×uc16×Int)=>
 bif (decide (i<(a.length:Int)))then
 bif (decide (0≤i)&&decide (i<(a.length:Int)))then
 bif (decide (0≤(List.getD a (Int.toNat i) 0))&&decide ((List.getD a (Int.toNat i) 0)<(b.length:Int)))then
 bif (decide ((out.length:Int)+(([(List.getD b (Int.toNat (List.getD a (Int.toNat i) 0)) 0)]:List Int).length:Int)≤LIM))then
 some (Sum.inl (a,b,(out++[(List.getD b (Int.toNat (List.getD a (Int.toNat i) 0)) 0)]),(w (i+1))))
 else none
 else none
 else none
 else
 some (Sum.inr out)) (l,to,[],0)).bind fun(c:List Int)=>
 some c
def sg43:Sig:=⟨[(y26,.bw),(y26,.bw)],[(y26,(.own 3 .sh))]⟩
theorem sim43:Sim Tryz.prog 43 sg43 d43:=uqz Tryz.func43 (zac rfl) Tryz.call43 (by kernel_rfl) (by kernel_rfl) [] (uqs (.seq (.reg [] [{fl:=2}]) (.seq (uqs (.block (.loop [(0,uqb),(1,uqb),(5,uqd),(6,uqa)] [(.brk 0,[(5,uqd)])] (.seq (uqs (.cond .nil .nil)) (.seq (.block uqr) uqr))))) (uqs .nil)))) fun xs=>by kernel_rfl
def E43:FnE Tryz.prog:=⟨43,sg43,d43,sim43⟩
def d42(gs:List uc14)(to:List Int):Option uc11:=
 (zaa (β:=uc11) (fun((a,b,out,i):uc11×uc16×uc11×Int)=>
 bif (decide (i<(a.length:Int)))then
 bif (decide (0≤i)&&decide (i<(a.length:Int)))then
 (d43 ((List.getD a (Int.toNat i) ([],0)).1) b).bind fun r=>
 bif (decide (0≤i)&&decide (i<(a.length:Int)))then
 (d98 out r ((List.getD a (Int.toNat i) ([],0)).2)).bind fun c=>
 some (Sum.inl (a,b,c,(w (i+1))))
 else none
 else none
 else
 some (Sum.inr out)) (gs,to,[],0)).bind fun(e:List uc14)=>
 some e
def sg42:Sig:=⟨[(y25,.bw),(y26,.bw)],[(y25,(.own 92 .sh))]⟩
theorem sim42:Sim Tryz.prog 42 sg42 d42:=uqz Tryz.func42 (zac rfl) Tryz.call42 (by kernel_rfl) (by kernel_rfl) [.fn E43,.fn E98] (uqs (.seq (.reg [] [{fl:=2}]) (.seq (uqs (.block (.loop [(0,uqe),(1,uqb),(5,.v y25 (.own 92 .sh)),(6,uqa)] [(.brk 0,[(5,.v y25 (.own 92 .sh))])] (.seq (uqs (.cond .nil .nil)) (.seq (.block (.reg [(5,[])] [{},{},{},{},{},{},{},{},{},{},{},{},{},{frz:=[(20,[])]}])) uqr))))) (uqs .nil)))) fun xs=>by kernel_rfl
def E42:FnE Tryz.prog:=⟨42,sg42,d42,sim42⟩
def d44(l:List Int):Option uc16:=
 (zaa (β:=uc16) (fun((a,out,x):uc16×uc16×Int)=>
 bif (decide (x<12))then
 letJ (fun((c,e,f):uc16×uc16×Int)=>
 some (Sum.inl (c,e,(w (f+1))))) fun b=>
 (d49 a x).bind fun r=>
 bif r then
 bif (decide ((out.length:Int)+(([x]:List Int).length:Int)≤LIM))then
 b (a,(out++[x]),x)
 else none
 else
 b (a,out,x)
 else
 some (Sum.inr out)) (l,[],0)).bind fun(g:List Int)=>
 some g
def sg44:Sig:=⟨[(y26,.bw)],[(y26,(.own 3 .sh))]⟩
theorem sim44:Sim Tryz.prog 44 sg44 d44:=uqz Tryz.func44 (zac rfl) Tryz.call44 (by kernel_rfl) (by kernel_rfl) [.fn E49] (uqs (.seq (.reg [] [{fl:=2}]) (.seq (uqs (.block (.loop [(0,uqb),(3,uqd),(4,uqa)] [(.brk 0,[(3,uqd)])] (.seq (uqs (.cond .nil .nil)) (.join (.block (uqs (.cond uqr .nil))) [(0,uqb),(3,uqd),(4,uqa)] uqr))))) (uqs .nil)))) fun xs=>by kernel_rfl
def E44:FnE Tryz.prog:=⟨44,sg44,d44,sim44⟩
def d7(p0:Int)(p1:Int)(p2:Int)(p3:Int)(p4:Int)(p5:List uc16):Option Bool:=
 (d20 p5).bind fun r=>
 bif !r then
 (d21).bind fun g=>
 some g
 else
 (d24 p0 7).bind fun f=>
 (d31 (w (1+f)) p1 p2 p3 p5).bind fun a=>
 (d27 (w (1+f)) p4).bind fun b=>
 (d42 a.2.1 b).bind fun h=>
 (d27 (w (1+f)) p3).bind fun i=>
 (d43 i b).bind fun j=>
 (d22 a.1 h j).bind fun c=>
 letJ (fun((k,l,m,n):uc2×uc16×uc2×Bool)=>
 bif n then
 some false
 else
 (d21).bind fun o=>
 bif o then
 (d44 m.2.2.2.2.2).bind fun p=>
 (d43 k.2.2.2.2.2 l).bind fun q=>
 (d44 q).bind fun s=>
 (d38 p s).bind fun t=>
 some t
 else
 some false) fun e=>
 bif !(!(decide (a.2.2.2=0)))then
 bif !(!(decide (c.2=0)))then
 (d32 (w (1+f)) a.2.2.1.2.2.2.2.2).bind fun u=>
 bif !(!u)then
 bif !(!(decide ((a.2.2.1.2.2.2.2.1.length:Int)=(c.1.2.2.2.2.1.length:Int))))then
 e (a.2.2.1,b,c.1,(decide ((a.2.2.1.2.2.2.2.1.length:Int)=0)))
 else
 e (a.2.2.1,b,c.1,true)
 else
 e (a.2.2.1,b,c.1,true)
 else
 e (a.2.2.1,b,c.1,true)
 else
 e (a.2.2.1,b,c.1,true)
def d45(n:Int)(bits:Int):Option uc16:=
 (zaa (β:=uc16) (fun((a,b,out,i):Int×Int×uc16×Int)=>
 bif (decide (i<a))then
 letJ (fun((f,g,h,j):Int×Int×uc16×Int)=>
 some (Sum.inl (f,g,h,(w (j+1))))) fun c=>
 (d24 b 128).bind fun r=>
 bif (decide (0≤(wu64 i)))then
 bif (decide ((w ((BitVec.ofInt 64 (w (Int.fdiv r (2^(min (Int.toNat (wu64 i)) 64))))&&&BitVec.ofInt 64 1).toNat:Int))=1))then
 bif (decide ((out.length:Int)+(([i]:List Int).length:Int)≤LIM))then
 c (a,b,(out++[i]),i)
 else none
 else
 c (a,b,out,i)
 else none
 else
 some (Sum.inr out)) (n,bits,[],0)).bind fun(e:List Int)=>
 bif (decide ((e.length:Int)=0))then
 some [0]
 else
 some e
def d47(n:Int)(u:List Int)(ballots:List uc16):Option uc13:=
 (zaa (β:=uc13) (fun((v,x,m,out,i):Int×uc16×uc13×uc13×Int)=>
 bif (decide (i<(m.length:Int)))then
 (zaa (β:=(Int×uc16×uc13×uc13×Int×uc16)) (fun((h,e,b,j,a,p,k):Int×uc16×uc13×uc13×Int×uc16×Int)=>
 bif (decide (0≤a)&&decide (a<(b.length:Int)))then
 bif (decide (k<((List.getD b (Int.toNat a) []).length:Int)))then
 letJ (fun((y,z,aa,ab,ac,ae,af):Int×uc16×uc13×uc13×Int×uc16×Int)=>
 some (Sum.inl (y,z,aa,ab,ac,ae,(w (af+1))))) fun o=>
 bif (decide (0≤a)&&decide (a<(b.length:Int)))then
 bif (decide (0≤k)&&decide (k<((List.getD b (Int.toNat a) []).length:Int)))then
 (d49 e (List.getD (List.getD b (Int.toNat a) []) (Int.toNat k) 0)).bind fun r=>
 bif r then
 bif (decide (0≤a)&&decide (a<(b.length:Int)))then
 bif (decide (0≤k)&&decide (k<((List.getD b (Int.toNat a) []).length:Int)))then
 bif (decide ((p.length:Int)+(([(List.getD (List.getD b (Int.toNat a) []) (Int.toNat k) 0)]:List Int).length:Int)≤LIM))then
 o (h,e,b,j,a,(p++[(List.getD (List.getD b (Int.toNat a) []) (Int.toNat k) 0)]),k)
 else none
 else none
 else none
 else
 o (h,e,b,j,a,p,k)
 else none
 else none
 else
 some (Sum.inr (h,e,b,j,a,p))
 else none) (v,x,m,out,i,[],0)).bind fun((q,f,g,s,c,l):Int×uc16×uc13×uc13×Int×uc16)=>
 bif (decide ((l.length:Int)+(f.length:Int)≤LIM))then
 bif (decide (0≤c)&&decide (c<(g.length:Int)))then
 bif (decide (((l++f).length:Int)+((List.getD g (Int.toNat c) []).length:Int)≤LIM))then
 (d99 q ((l++f)++(List.getD g (Int.toNat c) []))).bind fun t=>
 bif (decide ((s.length:Int)+(([t]:List uc16).length:Int)≤LIM))then
 some (Sum.inl (q,f,g,(s++[t]),(w (c+1))))
 else none
 else none
 else none
 else none
 else
 some (Sum.inr out)) (n,u,ballots,[],0)).bind fun(ag:List uc16)=>
 some ag
def d8(p0:Int)(p1:Int)(p2:Int)(p3:Int)(p4:List uc16)(p5:List uc16)(p6:Int):Option Bool:=
 letJ (fun((bj,bk,bl,bm,bn,bo,bp,bq):Int×Int×Int×Int×uc13×uc13×Int×Bool)=>
 bif bq then
 (d21).bind fun br=>
 some br
 else
 (d24 bj 7).bind fun c=>
 (d25 2 (w (1+c)) bk 0 bl).bind fun bs=>
 (d45 (w (1+c)) bp).bind fun ac=>
 (d46 (w (1+c)) bn 8).bind fun ae=>
 (d46 (w (1+c)) bo 8).bind fun bt=>
 (d47 (w (1+c)) ac bt).bind fun af=>
 bif (decide ((ae.length:Int)+(af.length:Int)≤LIM))then
 (zaa (β:=(Int×Int×uc6×uc16×uc13×Int×Int)) (fun((n,o,p,q,e,s,t,f):uc20)=>
 bif (decide (f<(e.length:Int)))then
 letJ (fun((bu,bv,bx,bz,ca,cb,cc,ce):uc20)=>
 some (Sum.inl (bu,bv,bx,bz,ca,cb,cc,(w (ce+1))))) fun ag=>
 letJ (fun((ah,ai,aj,g,b,ak,al,a):uc20)=>
 letJ (fun((am,an,ao,ap,aq,ar,au,av,cf):Int×Int×uc6×uc16×uc13×Int×Int×Int×Bool)=>
 bif cf then
 ag (am,an,ao,ap,aq,(w (ar+1)),au,av)
 else
 ag (am,an,ao,ap,aq,ar,au,av)) fun ax=>
 bif (decide (0≤a)&&decide (a<(b.length:Int)))then
 bif (decide ((g.length:Int)≤((List.getD b (Int.toNat a) []).length:Int)))then
 bif (decide (0≤a)&&decide (a<(b.length:Int)))then
 bif (zck 0 (g.length:Int) (List.getD b (Int.toNat a) []).length)then
 (d44 (List.drop 0 (List.take (Int.toNat (g.length:Int)) (List.getD b (Int.toNat a) [])))).bind fun cg=>
 (d38 cg g).bind fun ch=>
 ax (ah,ai,aj,g,b,ak,al,a,ch)
 else none
 else none
 else
 ax (ah,ai,aj,g,b,ak,al,a,false)
 else none) fun ay=>
 bif (decide (0≤f)&&decide (f<(e.length:Int)))then
 bif (decide (0<((List.getD e (Int.toNat f) []).length:Int)))then
 ay (n,o,p,q,e,s,(w (t+1)),f)
 else
 ay (n,o,p,q,e,s,t,f)
 else none
 else
 some (Sum.inr (n,o,p,q,e,s,t))) ((w (1+c)),bm,bs,ac,(ae++af),0,0,0)).bind fun((k,ci,u,az,cj,ba,bb):Int×Int×uc6×uc16×uc13×Int×Int)=>
 (d48 k cj).bind fun ck=>
 (d27 k ci).bind fun cl=>
 (d22 u ck.1 cl).bind fun l=>
 letJ (fun((cm,cn,co,cp,cq,cr,cs):Int×uc6×uc16×Int×Int×uc2×Bool)=>
 bif cs then
 some false
 else
 (zaa (β:=(Int×uc6×uc16×Int×Int×uc2×Int)) (fun((v,x,m,y,z,h,aa,i):Int×uc6×uc16×Int×Int×uc2×Int×Int)=>
 bif (decide (i<(h.2.2.2.2.2.length:Int)))then
 letJ (fun((ct,cu,cv,cx,cy,cz,ea,eb):Int×uc6×uc16×Int×Int×uc2×Int×Int)=>
 some (Sum.inl (ct,cu,cv,cx,cy,cz,ea,(w (eb+1))))) fun bc=>
 bif (decide (0≤i)&&decide (i<(h.2.2.2.2.2.length:Int)))then
 (d49 m (List.getD h.2.2.2.2.2 (Int.toNat i) 0)).bind fun ec=>
 bif ec then
 bc (v,x,m,y,z,h,(w (aa+1)),i)
 else
 bc (v,x,m,y,z,h,aa,i)
 else none
 else
 some (Sum.inr (v,x,m,y,z,h,aa))) (cm,cn,co,cp,cq,cr,0,0)).bind fun((be,j,bf,bg,ab,ee,ef):Int×uc6×uc16×Int×Int×uc2×Int)=>
 bif (!decide ((w (j.2.2.2.1+1))=0))then
 (d21).bind fun eg=>
 bif eg then
 bif (decide ((ee.2.2.2.2.2.length:Int)=(bif (decide (be<j.2.2.2.1))then be else j.2.2.2.1)))then
 bif (!decide ((w ((w (Int.tdiv ab (w (j.2.2.2.1+1))))+1))=0))then
 some (decide ((bif (decide ((bf.length:Int)<(w (Int.tdiv bg (w ((w (Int.tdiv ab (w (j.2.2.2.1+1))))+1))))))then(bf.length:Int)else(w (Int.tdiv bg (w ((w (Int.tdiv ab (w (j.2.2.2.1+1))))+1)))))≤ef))
 else none
 else
 some false
 else
 some false
 else none) fun bh=>
 bif !(!(decide (l.2=0)))then
 (d32 k l.1.2.2.2.2.2).bind fun eh=>
 bh (k,u,az,ba,bb,l.1,!eh)
 else
 bh (k,u,az,ba,bb,l.1,true)
 else none) fun bi=>
 (d20 p4).bind fun r=>
 bif !(!r)then
 (d20 p5).bind fun ei=>
 bi (p0,p1,p2,p3,p4,p5,p6,!ei)
 else
 bi (p0,p1,p2,p3,p4,p5,p6,true)
def d51(n:Int):Option uc15:=
 bif (decide (n=n)&&(decide (0≤n)&&decide (n≤LIM)))then
 (zaa (β:=uc15) (fun((a,out,i):Int×uc15×Int)=>
 bif (decide (i<a))then
 bif (decide (0≤i)&&decide (i<(out.length:Int)))then
 some (Sum.inl (a,(List.set out (Int.toNat i) true),(w (i+1))))
 else none
 else
 some (Sum.inr out)) (n,(List.replicate (Int.toNat n) false),0)).bind fun(b:List Bool)=>
 some b
 else none
def d103(remain:List Bool)(i:Int):Option Bool:=
 bif (decide (i<(remain.length:Int)))then
 bif (decide (0≤i)&&decide (i<(remain.length:Int)))then
 some (List.getD remain (Int.toNat i) false)
 else none
 else
 some false
def sg103:Sig:=⟨[(y48,.bw),(y2,.sh)],[(y4,.sh)]⟩
theorem sim103:Sim Tryz.prog 103 sg103 d103:=uqz Tryz.func103 (zac rfl) Tryz.call103 (by kernel_rfl) (by kernel_rfl) [] (uqs (uqs .nil)) fun xs=>by kernel_rfl
def E103:FnE Tryz.prog:=⟨103,sg103,d103,sim103⟩
def d102(p:Int)(p1:List Bool):Option Bool:=
 (d103 p1 p).bind fun r=>
 some r
def sg102:Sig:=⟨[(y2,.bw),((.ptr y48),.bw)],[(y4,.sh)]⟩
theorem sim102:Sim Tryz.prog 102 sg102 d102:=uqz Tryz.func102 (zac rfl) Tryz.call102 (by kernel_rfl) (by kernel_rfl) [.fn E103] (uqs (uqs .nil)) fun xs=>by kernel_rfl
def E102:FnE Tryz.prog:=⟨102,sg102,d102,sim102⟩
def d50(gs:List uc14)(remain:List Bool):Option (uc16×Int):=
 letJ (fun((j,f,exhausted,m):uc11×uc15×Int×Bool)=>
 bif m then
 some ([],0)
 else
 bif (decide ((f.length:Int)=(f.length:Int))&&(decide (0≤(f.length:Int))&&decide ((f.length:Int)≤LIM)))then
 (zaa (β:=(uc16×Int)) (fun((g,votes,h,c,i,b):uc15×uc16×Int×uc11×Int×Int)=>
 bif (decide (b<i))then
 letJ (fun((n,o,p,q,s,t):uc15×uc16×Int×uc11×Int×Int)=>
 some (Sum.inl (n,o,p,q,s,(w (t+1))))) fun k=>
 bif (decide (0≤b)&&decide (b<(c.length:Int)))then
 (d101 ((List.getD c (Int.toNat b) ([],0)).1) (fun a=>d102 a g)).bind fun e=>
 bif (decide (e<0))then
 k (g,votes,(w (h+((List.getD c (Int.toNat b) ([],0)).2))),c,i,b)
 else
 bif (decide (0≤e)&&decide (e<(((List.getD c (Int.toNat b) ([],0)).1).length:Int)))then
 bif (decide (0≤(List.getD ((List.getD c (Int.toNat b) ([],0)).1) (Int.toNat e) 0))&&decide ((List.getD ((List.getD c (Int.toNat b) ([],0)).1) (Int.toNat e) 0)<(votes.length:Int)))then
 bif (decide (0≤(List.getD ((List.getD c (Int.toNat b) ([],0)).1) (Int.toNat e) 0))&&decide ((List.getD ((List.getD c (Int.toNat b) ([],0)).1) (Int.toNat e) 0)<(votes.length:Int)))then
 k (g,(List.set votes (Int.toNat (List.getD ((List.getD c (Int.toNat b) ([],0)).1) (Int.toNat e) 0)) (w ((List.getD votes (Int.toNat (List.getD ((List.getD c (Int.toNat b) ([],0)).1) (Int.toNat e) 0)) 0)+((List.getD c (Int.toNat b) ([],0)).2)))),h,c,i,b)
 else none
 else none
 else none
 else none
 else
 some (Sum.inr (votes,h))) (f,(List.replicate (Int.toNat (f.length:Int)) 0),exhausted,j,(j.length:Int),0)).bind fun((u,v):uc16×Int)=>
 some (u,v)
 else none) fun l=>
 (d100 gs).bind fun r=>
 bif !(!r)then
 l (gs,remain,0,(decide (7<(remain.length:Int))))
 else
 l (gs,remain,0,true)
def sg50:Sig:=⟨[(y25,.bw),(y48,.bw)],[(y26,.sh),(y2,.sh)]⟩
theorem sim50:Sim Tryz.prog 50 sg50 d50:=uqz Tryz.func50 (zac rfl) Tryz.call50 (by kernel_rfl) (by kernel_rfl) [.fn E100,.fn E101,.fn E102] (.post (uqs (.seq (.join uqr [(0,uqe),(3,.v (.ptr y48) (.own 0 .bw)),(5,uqa),(16,uqc)] (.cond (uqs .nil) .nil)) (uqs (.seq (uqs (.block (.loop [(3,.v (.ptr y48) (.own 0 .bw)),(4,uqd),(5,uqa),(20,uqe),(21,uqa),(22,uqa)] [(.brk 0,[(4,uqd),(5,uqa)])] (uqs (.seq (.cond .nil .nil) (.join (.block (uqs (uqs (uqs (.cond uqr uqr))))) [(3,.v (.ptr y48) (.own 0 .bw)),(4,uqd),(5,uqa),(20,uqe),(21,uqa),(22,uqa)] uqr)))))) (uqs .nil))))) [(4,[])]) fun xs=>by kernel_rfl
def E50:FnE Tryz.prog:=⟨50,sg50,d50,sim50⟩
def d9(p0:Int)(p1:Int)(p2:Int)(p3:Int)(p4:List uc16):Option Bool:=
 (d20 p4).bind fun r=>
 bif !r then
  (d21).bind fun m=>
  some m
 else
  (d24 p0 7).bind fun c=>
  (d31 (w (1+c)) p1 p2 p3 p4).bind fun a=>
  (d51 (w (1+c))).bind fun n=>
  (d50 a.2.1 n).bind fun e=>
  letJ (fun((o,p,q,s,t,u):Int×uc6×uc11×uc2×uc16×Bool)=>
    bif u then
     some false
    else
     (zaa (β:=Unit⊕Bool) (fun((h,i,j,f,g,b):Int×uc6×uc11×uc2×uc16×Int)=>
       bif (decide (b<h))then
        letJ (fun((v,x,y,z,aa,ab,ac):Int×uc6×uc11×uc2×uc16×Int×Bool)=>
          bif ac then
           some (Sum.inr (Sum.inr false))
          else
           some (Sum.inl (v,x,y,z,aa,(w (ab+1))))) fun l=>
        bif (decide (0≤b)&&decide (b<(g.length:Int)))then
         (d52 j).bind fun ae=>
         bif (decide (ae<(w ((w (i.2.2.2.1+1))*(List.getD g (Int.toNat b) 0)))))then
          bif (decide (0≤0)&&decide (0<(f.2.2.2.2.1.length:Int)))then
           (d49 (((((((List.getD f.2.2.2.2.1 0 ([],[],(false,[],[]),(false,[],[]),(false,[],[]),[],[],[])).2).2).2).2).2).1) b).bind fun af=>
           l (h,i,j,f,g,b,!af)
          else none
         else
          l (h,i,j,f,g,b,false)
        else none
       else
        some (Sum.inr (Sum.inl ()))) (o,p,q,s,t,0)).bind fun
     |Sum.inl _=>
      (d21).bind fun ag=>
      some ag
     |Sum.inr ah=>
      some ah) fun k=>
  bif !(!(decide (a.2.2.2=0)))then
   bif !(decide ((a.2.2.1.2.2.2.2.1.length:Int)<1))then
    k ((w (1+c)),a.1,a.2.1,a.2.2.1,e.1,!(decide ((e.1.length:Int)=(w (1+c)))))
   else
    k ((w (1+c)),a.1,a.2.1,a.2.2.1,e.1,true)
  else
   k ((w (1+c)),a.1,a.2.1,a.2.2.1,e.1,true)
def d106(c:uc6)(gs:List uc14)(lots:List Int):Option uc5:=
 bif (decide ((c.2.1.length:Int)=(c.2.1.length:Int))&&(decide (0≤(c.2.1.length:Int))&&decide ((c.2.1.length:Int)≤LIM)))then
 (zaa (β:=(uc11×uc16×uc6×uc15)) (fun((b,e,f,remain,g,a):uc11×uc16×uc6×uc15×Int×Int)=>
 bif (decide (a<g))then
 bif (decide (0≤a)&&decide (a<(remain.length:Int)))then
 some (Sum.inl (b,e,f,(List.set remain (Int.toNat a) true),g,(w (a+1))))
 else none
 else
 some (Sum.inr (b,e,f,remain))) (gs,lots,c,(List.replicate (Int.toNat (c.2.1.length:Int)) false),((List.replicate (Int.toNat (c.2.1.length:Int)) false).length:Int),0)).bind fun((h,i,j,k):uc11×uc16×uc6×uc15)=>
 some (j,h,i,k,[])
 else none
def sg106:Sig:=⟨[(y23,.sh),(y25,.sh),(y26,.sh)],[(y131,(.own 0 (.pr .sh (.pr .sh (.pr .sh (.pr (.own 4 .sh) (.own 53 .sh)))))))]⟩
theorem sim106:Sim Tryz.prog 106 sg106 d106:=uqz Tryz.func106 (zac rfl) Tryz.call106 (by kernel_rfl) (by kernel_rfl) [] (.seq (.reg [] [{},{fl:=2}]) (uqs (.seq (uqs (.block (.loop [(1,.v y25 .sh),(2,uqf),(3,.v (.ptr y23) (.own 0 .sh)),(7,.v y48 (.own 4 .sh)),(14,uqa),(15,uqa)] [(.brk 0,[(1,.v y25 .sh),(2,uqf),(3,.v (.ptr y23) (.own 0 .sh)),(7,.v y48 (.own 4 .sh))])] (uqs (.seq (.cond .nil .nil) (.seq (.block (uqs uqr)) uqr)))))) (.seq (.reg [] [{},{},{},{fl:=1},{fl:=1000004053}]) .nil)))) fun xs=>by kernel_rfl
def E106:FnE Tryz.prog:=⟨106,sg106,d106,sim106⟩
def d154(l:List Int):Option uc8:=
 (zaa (β:=uc8) (fun((out,b,c,a):uc8×uc16×Int×Int)=>
 bif (decide (a<c))then
 bif (decide (0≤a)&&decide (a<(b.length:Int)))then
 (d68 (List.getD b (Int.toNat a) 0)).bind fun r=>
 bif (decide ((out.length:Int)+(([r]:List uc10).length:Int)≤LIM))then
 some (Sum.inl ((out++[r]),b,c,(w (a+1))))
 else none
 else none
 else
 some (Sum.inr out)) ([],l,(l.length:Int),0)).bind fun(e:List uc10)=>
 some e
def sg154:Sig:=⟨[(y26,.bw)],[(y53,(.own 57 .sh))]⟩
theorem sim154:Sim Tryz.prog 154 sg154 d154:=uqz Tryz.func154 (zac rfl) Tryz.call154 (by kernel_rfl) (by kernel_rfl) [.fn E68] (uqs (.seq (.reg [] [{fl:=2}]) (.seq (uqs (.block (.loop [(3,.v y53 (.own 57 .sh)),(6,uqb),(7,uqa),(8,uqa)] [(.brk 0,[(3,.v y53 (.own 57 .sh))])] (uqs (.seq (.cond .nil .nil) (.seq (.block (uqs uqr)) uqr)))))) (uqs .nil)))) fun xs=>by kernel_rfl
def E154:FnE Tryz.prog:=⟨154,sg154,d154,sim154⟩
def d107(k:uc5)(votes:List Int)(exhausted:Int):Option uc3:=
 (zaa (β:=(uc5×uc16×Int×uc4×Int)) (fun((i,j,l,r,sum,f,m,b):uc5×uc16×Int×uc4×Int×uc16×Int×Int)=>
 bif (decide (b<m))then
 bif (decide (0≤b)&&decide (b<(f.length:Int)))then
 some (Sum.inl (i,j,l,r,(w (sum+(List.getD f (Int.toNat b) 0))),f,m,(w (b+1))))
 else none
 else
 some (Sum.inr (i,j,l,r,sum))) (k,votes,exhausted,([],[],(false,[],[]),(false,[],[]),(false,[],[]),[],[],[]),0,votes,(votes.length:Int),0)).bind fun((n,s,t,ag,o):uc5×uc16×Int×uc4×Int)=>
 (d154 s).bind fun u=>
 (d68 (w ((w (Int.tdiv o 2))+1))).bind fun v=>
 (d68 t).bind fun x=>
 (d68 0).bind fun y=>
 (zaa (β:=uc3) (fun((g,quota,c,h,a):uc4×Int×uc15×Int×Int)=>
 bif (decide (a<h))then
 bif (decide (0≤a)&&decide (a<(c.length:Int)))then
 letJ (fun((e,z,keep,aa,ab,ac):uc4×Int×Int×uc15×Int×Int)=>
 (d68 keep).bind fun p=>
 bif (decide ((e.2.1.length:Int)+(([p]:List uc10).length:Int)≤LIM))then
 some (Sum.inl ((e.1,(e.2.1++[p]),e.2.2),z,aa,ab,(w (ac+1))))
 else none) fun q=>
 bif (List.getD c (Int.toNat a) false)then
 q (g,quota,1,c,h,a)
 else
 q (g,quota,0,c,h,a)
 else none
 else
 some (Sum.inr (g,quota))) ((u,[],v,x,y,[],[],[]),(w ((w (Int.tdiv o 2))+1)),n.2.2.2.1,(n.2.2.2.1.length:Int),0)).bind fun((ae,af):uc4×Int)=>
 some (ae,af)
def sg107:Sig:=⟨[(y131,.bw),(y26,.bw),(y2,.sh)],[(y59,.sh),(y2,.sh)]⟩
theorem sim107:Sim Tryz.prog 107 sg107 d107:=uqz Tryz.func107 (zac rfl) Tryz.call107 (by kernel_rfl) (by kernel_rfl) [.fn E154,.fn E68] (uqs (uqs (.seq (uqs (.block (.loop [(0,.v y131 .bw),(1,uqb),(2,uqa),(6,.v y154 (.own 0 .sh)),(8,uqa),(14,uqb),(15,uqa),(16,uqa)] [(.brk 0,[(0,.v y131 .bw),(1,uqb),(2,uqa),(6,.v y154 (.own 0 .sh)),(8,uqa)])] (uqs (.seq (.cond .nil .nil) (.seq (.block (uqs uqr)) uqr)))))) (uqs (.seq (.reg [] [{},{},{},{},{},{},{},{frz:=[(28,[])],fl:=61}]) (.seq (uqs (.block (.loop [(6,.v y154 (.own 0 (.pr .sh (.pr (.own 57 .sh) (.pr .sh (.pr .sh (.pr .sh .sh))))))),(7,uqa),(38,.v y48 .bw),(39,uqa),(40,uqa)] [(.brk 2,[(6,.v y154 (.own 0 (.pr .sh (.pr (.own 57 .sh) (.pr .sh (.pr .sh (.pr .sh .sh))))))),(7,uqa)])] (uqs (.seq (.cond .nil .nil) (.seq (.block (uqs (uqs (.join (uqs (.cond uqr .nil)) [(6,.v y154 (.own 0 (.pr .sh (.pr (.own 57 .sh) (.pr .sh (.pr .sh (.pr .sh .sh))))))),(7,uqa),(13,uqa),(38,.v y48 .bw),(39,uqa),(40,uqa)] uqr)))) uqr)))))) (.seq (.reg [(6,[0,1,0])] []) .nil))))))) fun xs=>by kernel_rfl
def E107:FnE Tryz.prog:=⟨107,sg107,d107,sim107⟩
def d108(k:uc5):Option uc16:=
 (zaa (β:=uc16) (fun((out,b,c,a):uc16×uc15×Int×Int)=>
 bif (decide (a<c))then
 letJ (fun((f,g,h,i):uc16×uc15×Int×Int)=>
 some (Sum.inl (f,g,h,(w (i+1))))) fun e=>
 bif (decide (0≤a)&&decide (a<(b.length:Int)))then
 bif (List.getD b (Int.toNat a) false)then
 bif (decide ((out.length:Int)+(([a]:List Int).length:Int)≤LIM))then
 e ((out++[a]),b,c,a)
 else none
 else
 e (out,b,c,a)
 else none
 else
 some (Sum.inr out)) ([],k.2.2.2.1,(k.2.2.2.1.length:Int),0)).bind fun(j:List Int)=>
 some j
def sg108:Sig:=⟨[(y131,.bw)],[(y26,(.own 3 .sh))]⟩
theorem sim108:Sim Tryz.prog 108 sg108 d108:=uqz Tryz.func108 (zac rfl) Tryz.call108 (by kernel_rfl) (by kernel_rfl) [] (uqs (.seq (.reg [] [{fl:=2}]) (.seq (uqs (.block (.loop [(3,uqd),(9,.v y48 .bw),(10,uqa),(11,uqa)] [(.brk 0,[(3,uqd)])] (uqs (.seq (.cond .nil .nil) (.join (.block (uqs (uqs (.cond uqr .nil)))) [(3,uqd),(9,.v y48 .bw),(10,uqa),(11,uqa)] uqr)))))) (uqs .nil)))) fun xs=>by kernel_rfl
def E108:FnE Tryz.prog:=⟨108,sg108,d108,sim108⟩
def d109(c:Int)(p1:List Int)(p2:Int):Option Bool:=
 bif (decide (0≤c)&&decide (c<(p1.length:Int)))then
 some (decide (p2≤(List.getD p1 (Int.toNat c) 0)))
 else none
def sg109:Sig:=⟨[(y2,.bw),((.ptr y26),.bw),(y233,.bw)],[(y4,.sh)]⟩
theorem sim109:Sim Tryz.prog 109 sg109 d109:=uqz Tryz.func109 (zac rfl) Tryz.call109 (by kernel_rfl) (by kernel_rfl) [] (uqs (uqs .nil)) fun xs=>by kernel_rfl
def E109:FnE Tryz.prog:=⟨109,sg109,d109,sim109⟩
def d110(p0:uc5)(p1:List Int):Option (Int×uc16×uc5):=
 (d108 p0).bind fun r=>
 (zaa (β:=(uc5×uc16×uc16)) (fun((m,f,b,c,n,a):uc5×uc16×uc16×uc16×Int×Int)=>
 bif (decide (a<n))then
 letJ (fun((aa,ab,ac,ae,af,ag):uc5×uc16×uc16×uc16×Int×Int)=>
 some (Sum.inl (aa,ab,ac,ae,af,(w (ag+1))))) fun o=>
 bif (decide (0≤a)&&decide (a<(c.length:Int)))then
 letJ (fun((p,g,h,j,q,s,t,ah):uc5×uc16×uc16×Int×uc16×Int×Int×Bool)=>
 bif ah then
 o (p,g,[j],q,s,t)
 else
 bif (decide (0≤j)&&decide (j<(g.length:Int)))then
 bif (decide (0≤0)&&decide (0<(h.length:Int)))then
 bif (decide (0≤(List.getD h 0 0))&&decide ((List.getD h 0 0)<(g.length:Int)))then
 bif (decide ((List.getD g (Int.toNat j) 0)=(List.getD g (Int.toNat (List.getD h 0 0)) 0)))then
 bif (decide ((h.length:Int)+(([j]:List Int).length:Int)≤LIM))then
 o (p,g,(h++[j]),q,s,t)
 else none
 else
 o (p,g,h,q,s,t)
 else none
 else none
 else none) fun u=>
 bif !(decide ((b.length:Int)=0))then
 bif (decide (0≤(List.getD c (Int.toNat a) 0))&&decide ((List.getD c (Int.toNat a) 0)<(f.length:Int)))then
 bif (decide (0≤0)&&decide (0<(b.length:Int)))then
 bif (decide (0≤(List.getD b 0 0))&&decide ((List.getD b 0 0)<(f.length:Int)))then
 u (m,f,b,(List.getD c (Int.toNat a) 0),c,n,a,(decide ((List.getD f (Int.toNat (List.getD c (Int.toNat a) 0)) 0)<(List.getD f (Int.toNat (List.getD b 0 0)) 0))))
 else none
 else none
 else none
 else
 u (m,f,b,(List.getD c (Int.toNat a) 0),c,n,a,true)
 else none
 else
 some (Sum.inr (m,f,b))) (p0,p1,[],r,(r.length:Int),0)).bind fun((e,v,k):uc5×uc16×uc16)=>
 bif (decide (0≤0)&&decide (0<(k.length:Int)))then
 letJ (fun((i,ai,l,aj):uc5×uc16×Int×uc16)=>
 bif (decide (0≤l)&&decide (l<(i.2.2.2.1.length:Int)))then
 (d154 ai).bind fun x=>
 bif (decide ((i.2.2.2.2.length:Int)+(([x]:List uc8).length:Int)≤LIM))then
 some (l,aj,(i.1,i.2.1,i.2.2.1,(List.set i.2.2.2.1 (Int.toNat l) false),(i.2.2.2.2++[x])))
 else none
 else none) fun y=>
 bif (decide (1<(k.length:Int)))then
 (d155 e.1.2.2.2.2.2.2.1 e.2.2.2.2 k e.2.2.1 true).bind fun z=>
 y ((e.1,e.2.1,e.2.2.1,e.2.2.2.1,z.2.2),v,z.1,k)
 else
 y (e,v,(List.getD k 0 0),[])
 else none
def sg110:Sig:=⟨[(y131,(.io (.own 0 (.pr .sh (.pr .sh (.pr .sh (.pr (.own 4 .sh) (.own 53 .sh)))))))),(y26,.sh)],[(y2,.sh),(y26,(.own 3 .sh))]⟩
theorem sim110:Sim Tryz.prog 110 sg110 d110:=uqz Tryz.func110 (zac rfl) Tryz.call110 (by kernel_rfl) (by kernel_rfl) [.fn E108,.fn E155,.fn E154] (.seq (.reg [] [{},{fl:=2}]) (.seq (uqs (.block (.loop [(0,.v y131 (.own 0 (.pr .sh (.pr .sh (.pr .sh (.pr (.own 4 .sh) (.own 53 .sh))))))),(1,uqf),(5,uqd),(9,uqd),(10,uqa),(11,uqa)] [(.brk 0,[(0,.v y131 (.own 0 (.pr .sh (.pr .sh (.pr .sh (.pr (.own 4 .sh) (.own 53 .sh))))))),(1,uqf),(5,uqd)])] (uqs (.seq (.cond .nil .nil) (.join (.block (uqs (.block (.join uqr [(0,.v y131 (.own 0 (.pr .sh (.pr .sh (.pr .sh (.pr (.own 4 .sh) (.own 53 .sh))))))),(1,uqf),(5,uqd),(7,uqa),(9,uqd),(10,uqa),(11,uqa),(15,uqc)] (.cond uqr (uqs (.cond uqr .nil))))))) [(0,.v y131 (.own 0 (.pr .sh (.pr .sh (.pr .sh (.pr (.own 4 .sh) (.own 53 .sh))))))),(1,uqf),(5,uqd),(9,uqd),(10,uqa),(11,uqa)] uqr)))))) (uqs (.join (uqs (.cond (.reg [] [{},{},{},{},{},{},{},{},{},{},{},{},{},{},{},{fl:=1}]) (.reg [] [{fl:=2}]))) [(0,.v y131 (.own 0 (.pr .sh (.pr .sh (.pr .sh (.pr (.own 4 .sh) (.own 53 .sh))))))),(1,uqf),(4,uqa),(5,uqd)] (uqs (.seq (.reg [] [{},{},{},{},{},{},{},{frz:=[(87,[])]}]) (uqs .nil))))))) fun xs=>by kernel_rfl
def E110:FnE Tryz.prog:=⟨110,sg110,d110,sim110⟩
def d53(p0:uc6)(p1:List uc14)(p2:List Int):Option uc1:=
 (d66 1 p0 p1 p2).bind fun r=>
 bif !(decide (r=0))then
 some ((0,0,0,0,[],[]),r)
 else
 (d106 p0 p1 p2).bind fun p=>
 (zaa (β:=uc1) (fun((k,m,f,n):uc11×uc2×uc5×uc2)=>
 (d50 k f.2.2.2.1).bind fun g=>
 (d107 f g.1 g.2).bind fun l=>
 (d108 f).bind fun j=>
 (d101 j (fun a=>d109 a g.1 l.2)).bind fun q=>
 letJ (fun((s,t,u,c,v,b,h,e):uc11×uc2×uc5×uc2×uc16×uc4×uc16×Int)=>
 bif (decide (0≤e))then
 bif (decide (0≤e)&&decide (e<(h.length:Int)))then
 bif (decide ((c.2.2.2.2.1.length:Int)+(([(b.1,b.2.1,b.2.2.1,b.2.2.2.1,b.2.2.2.2.1,[(List.getD h (Int.toNat e) 0)],b.2.2.2.2.2.2)]:List uc4).length:Int)≤LIM))then
 bif (decide (0≤e)&&decide (e<(h.length:Int)))then
 some (Sum.inr ((c.1,c.2.1,c.2.2.1,c.2.2.2.1,(c.2.2.2.2.1++[(b.1,b.2.1,b.2.2.1,b.2.2.2.1,b.2.2.2.2.1,[(List.getD h (Int.toNat e) 0)],b.2.2.2.2.2.2)]),[(List.getD h (Int.toNat e) 0)]),0))
 else none
 else none
 else none
 else
 (d110 u v).bind fun i=>
 bif (decide ((c.2.2.2.2.1.length:Int)+(([(b.1,b.2.1,b.2.2.1,b.2.2.2.1,b.2.2.2.2.1,b.2.2.2.2.2.1,[i.1],i.2.1)]:List uc4).length:Int)≤LIM))then
 some (Sum.inl (s,t,i.2.2,(c.1,c.2.1,c.2.2.1,c.2.2.2.1,(c.2.2.2.2.1++[(b.1,b.2.1,b.2.2.1,b.2.2.2.1,b.2.2.2.2.1,b.2.2.2.2.2.1,[i.1],i.2.1)]),c.2.2.2.2.2)))
 else none) fun o=>
 bif (decide ((j.length:Int)=1))then
 o (k,m,f,n,g.1,l.1,j,0)
 else
 o (k,m,f,n,g.1,l.1,j,q)) (p1,(0,0,0,0,[],[]),p,(1,1,0,(p0.2.1.length:Int),[],[]))).bind fun((x,y):uc2×Int)=>
 some (x,y)
def sg53:Sig:=⟨[(y23,.sh),(y25,.sh),(y26,.sh)],[(y32,.sh),(y2,.sh)]⟩
theorem sim53:Sim Tryz.prog 53 sg53 d53:=uqz Tryz.func53 (zac rfl) Tryz.call53 (by kernel_rfl) (by kernel_rfl) [.fn E66,.fn E106,.fn E50,.fn E107,.fn E108,.fn E101,.fn E109,.fn E110] (.post (uqs (.seq (uqs (uqs (.cond (.seq (.reg [] [{fl:=63}]) .nil) .nil))) (uqs (.seq (.reg [] [{},{},{},{fl:=63}]) (.block (.loop [(1,.v y25 .sh),(6,.v (.ptr y32) (.own 0 .sh)),(9,.v y131 (.own 0 (.pr .sh (.pr .sh (.pr .sh (.pr (.own 4 .sh) (.own 53 .sh))))))),(10,.v (.ptr y32) (.own 0 (.pr .sh (.pr .sh (.pr .sh (.pr .sh (.pr (.own 59 .sh) .sh)))))))] [(.ret,[(6,.v (.ptr y32) (.own 0 (.pr .sh (.pr .sh (.pr .sh (.pr .sh (.pr .sh .sh))))))),(7,uqa)])] (.block (.seq (.reg [] [{},{},{},{},{},{},{fl:=1}]) (.seq (.reg [] [{},{},{},{},{fl:=1}]) (uqs (uqs (.join (uqs (.cond uqr .nil)) [(1,.v y25 .sh),(6,.v (.ptr y32) (.own 0 .sh)),(9,.v y131 (.own 0 (.pr .sh (.pr .sh (.pr .sh (.pr (.own 4 .sh) (.own 53 .sh))))))),(10,.v (.ptr y32) (.own 0 (.pr .sh (.pr .sh (.pr .sh (.pr .sh (.pr (.own 59 .sh) .sh))))))),(11,.v (.ptr y26) (.own 0 .sh)),(13,.v y154 (.own 0 .sh)),(15,uqd),(16,uqa)] (.seq (uqs (.cond (uqs (.seq (.reg [(13,[0,1,1,1,1,1,0])] []) (uqs (.seq (.reg [(10,[0,1,1,1,1,0]),(10,[0,1,1,1,1,1])] []) .nil)))) .nil)) (.seq (.reg [] [{},{},{},{fl:=1}]) (.seq (.reg [(18,[])] []) (.reg [(13,[0,1,1,1,1,1,1,0])] [])))))))))))))))) [(6,[0])]) fun xs=>by kernel_rfl
def E53:FnE Tryz.prog:=⟨53,sg53,d53,sim53⟩
def d10(p0:Int)(p1:Int)(p2:Int)(p3:List uc16):Option Bool:=
 (d20 p3).bind fun r=>
 bif !r then
 (d21).bind fun e=>
 some e
 else
 (d24 p0 7).bind fun b=>
 (d31 (w (1+b)) 0 p1 p2 p3).bind fun a=>
 (d25 0 (w (1+b)) 0 0 p1).bind fun f=>
 (d27 (w (1+b)) p2).bind fun g=>
 (d53 f a.2.1 g).bind fun c=>
 (d21).bind fun h=>
 bif h then
 bif (decide (a.2.2.2=0))then
 bif (decide (c.2=0))then
 bif (decide ((a.2.2.1.2.2.2.2.2.length:Int)=1))then
 (d38 a.2.2.1.2.2.2.2.2 c.1.2.2.2.2.2).bind fun i=>
 some i
 else
 some false
 else
 some false
 else
 some false
 else
 some false
end
end Go.Proofs.YtmipjomnjkmdbaaGreat
set_option linter.unusedSimpArgs false
set_option linter.unusedVariables false
open Go Go.Proofs Go.X
namespace Go.Proofs.YtmipjomnjkmdbaaGreat
theorem w_id{n:Int}(h0:-9223372036854775808≤n)(h1:n≤9223372036854775807):w n=n:=IntWalk.i64_in n ⟨h0,h1⟩
theorem wt_int{n:Int}(h:WT (.int .i64) n):-9223372036854775808≤n∧n≤9223372036854775807:=by
 have h':IntKind.i64.wrap n=n:=h
 rw[IntKind.wrap_i64]at h'
 omega
theorem wt_len{l:List Int}(h:WT (.slice (.int .i64)) l):l.length≤281474976710656:=h.1
theorem while_up{α β:Type}{f:α→Option (α⊕β)}(st:Nat→α){b:β}:∀(n:Nat),(∀i,i<n→f (st i)=some (.inl (st (i+1))))→f (st n)=some (.inr b)→zaa f (st 0)=some b:=by
 intro n hs he
 have key:∀k,k≤n→zaa f (st (n-k))=some b:=by
  intro k
  induction k with
  |zero=>intro _;exact zef he
  |succ k ih=>
   intro hk
   have h1:=hs (n-(k+1)) (by omega)
   rw[show n-(k+1)+1=n-k by omega]at h1
   exact zhj h1 (ih (by omega))
 have:=key n (Nat.le_refl n)
 rwa[Nat.sub_self]at this
theorem zae{α β γ:Type}{f:α→Option (α⊕β)}{k:β→Option γ}{a0:α}{b:β}{r:Option γ}(st:Nat→α)(n:Nat)(h0:st 0=a0)(hs:∀i,i<n→f (st i)=some (.inl (st (i+1))))(he:f (st n)=some (.inr b))(hk:k b=r):(zaa f a0).bind k=r:=by
 rw[←h0,while_up st n hs he]
 exact hk
def zah(p:Int→Bool):List Int→Nat
 | []=>0
 |x::l=>if p x then 0 else zah p l+1
theorem zfi(p:Int→Bool):∀l,zah p l≤l.length
 | []=>Nat.le_refl 0
 |x::l=>by
  unfold zah
  split
  ·exact xbo _
  ·have:=zfi p l;simp;omega
theorem zdb(p:Int→Bool):∀l (i:Nat),i<zah p l→p (l.getD i 0)=false
 | [],i,h=>by simp[zah]at h
 |x::l,i,h=>by
  unfold zah at h
  split at h
  ·omega
  ·rename_i hx
   cases i with
   |zero=>simpa using hx
   |succ i=>
    have:=zdb p l i (by omega)
    simpa using this
theorem zej(p:Int→Bool):∀l,zah p l<l.length→p (l.getD (zah p l) 0)=true
 | [],h=>by simp at h
 |x::l,h=>by
  unfold zah at h ⊢
  split at h
  ·rename_i hx;rw[if_pos hx];simpa using hx
  ·rename_i hx
   rw[if_neg hx]
   have:=zej p l (by simp at h;omega)
   simpa using this
theorem zic(p:Int→Bool):∀l,zah p l<l.length↔∃x∈l,p x=true
 | []=>by simp[zah]
 |x::l=>by
  unfold zah
  by_cases hx:p x=true
  ·rw[if_pos hx];simp[hx]
  ·rw[if_neg hx]
   have:=zic p l
   simp[hx]at this ⊢
   exact this
theorem zgp{x n:Int}(hx:WT (.int .i64) x)(hn:0<n)(hn':n≤4611686018427387904):d24 x n=some (x%n):=by
 have hx':=wt_int hx
 unfold d24
 have h0:n≠0:=by omega
 have h1:-n<Int.tmod x n:=Int.lt_tmod_of_pos x hn
 have h2:Int.tmod x n<n:=Int.tmod_lt_of_pos x hn
 have h3:w (Int.tmod x n)=Int.tmod x n:=w_id (by omega) (by omega)
 have h4:w (Int.tmod x n+n)=Int.tmod x n+n:=w_id (by omega) (by omega)
 have h5:Int.tmod (Int.tmod x n+n) n=x%n:=by
  have h6:0≤Int.tmod x n+n:=by omega
  rw[Int.tmod_eq_emod_of_nonneg h6,Int.add_emod_right]
  rw[Int.tmod_eq_emod]
  split
  ·simp
  ·have:((n.natAbs:Int))=n:=Int.natAbs_of_nonneg (by omega)
   rw[this,Int.sub_emod_right]
   exact Int.emod_emod_of_dvd x (Int.dvd_refl n)
 have h7:w (x%n)=x%n:=w_id (by have:=Int.emod_nonneg x h0;omega) (by have:=xia x hn;omega)
 simp[h0,h3,h4,h5,h7]
theorem zjy(x:Int){n:Int}(hn:0<n):0≤x%n∧x%n<n:=⟨Int.emod_nonneg x (by omega),xia x hn⟩
theorem zqp{s:List Int}(v:Int)(hs:s.length≤281474976710656):d189 s v=some (if zah (fun x=>decide (v=x)) s<s.length then(zah (fun x=>decide (v=x)) s:Int)else -1):=by
 unfold d189
 have hle:=zfi (fun x=>decide (v=x)) s
 have hstep:∀i,i<zah (fun x=>decide (v=x)) s→w ((i:Int)+1)=((i+1:Nat):Int):=fun i hi=>by rw[w_id (by omega) (by omega)];omega
 by_cases h:zah (fun x=>decide (v=x)) s<s.length
 ·have hat:=zej _ s h
  refine zae (b:=.inr (zah (fun x=>decide (v=x)) s:Int)) (fun i=>(s,v,(s.length:Int),(i:Int))) (zah (fun x=>decide (v=x)) s) rfl ?_ ?_ (by simp[h])
  ·intro i hi
   have h1:=zdb _ s i hi
   have h2:(i:Int)<(s.length:Int):=by omega
   have h3:(0:Int)≤(i:Int):=by omega
   simp only[xav,xac]at h1
   simp[h2,h3,h1,hstep i hi]
  ·have h2:(zah (fun x=>decide (v=x)) s:Int)<(s.length:Int):=by omega
   have h3:(0:Int)≤(zah (fun x=>decide (v=x)) s:Int):=by omega
   simp only[xag,xac]at hat
   simp[h2,h3,←hat]
 ·refine zae (b:=.inl ()) (fun i=>(s,v,(s.length:Int),(i:Int))) s.length rfl ?_ ?_ (by simp[h])
  ·intro i hi
   have h1:=zdb (fun x=>decide (v=x)) s i (by omega)
   have h2:(i:Int)<(s.length:Int):=by omega
   have h3:(0:Int)≤(i:Int):=by omega
   simp only[xav,xac]at h1
   simp[h2,h3,h1,hstep i (by omega)]
  ·simp
theorem d49_eq{l:List Int}(x:Int)(hs:l.length≤281474976710656):d49 l x=some (decide (x∈l)):=by
 unfold d49
 have hle:=zfi (fun y=>decide (y=x)) l
 have hm:=zic (fun y=>decide (y=x)) l
 have hstep:∀i,i<zah (fun y=>decide (y=x)) l→w ((i:Int)+1)=((i+1:Nat):Int):=fun i hi=>by rw[w_id (by omega) (by omega)];omega
 by_cases h:zah (fun y=>decide (y=x)) l<l.length
 ·have hat:=zej _ l h
  have hx:x∈l:=by obtain⟨z,h1,h2⟩:=hm.1 h;have:=of_decide_eq_true h2;rw[←this];exact h1
  refine zae (b:=.inr true) (fun i=>(l,x,(i:Int))) (zah (fun y=>decide (y=x)) l) rfl ?_ ?_ (by simp[hx])
  ·intro i hi
   have h1:=zdb _ l i hi
   have h2:(i:Int)<(l.length:Int):=by omega
   have h3:(0:Int)≤(i:Int):=by omega
   simp only[xav,xac]at h1
   simp[h2,h3,h1,hstep i hi]
  ·have h2:(zah (fun y=>decide (y=x)) l:Int)<(l.length:Int):=by omega
   have h3:(0:Int)≤(zah (fun y=>decide (y=x)) l:Int):=by omega
   simp only[xag,xac]at hat
   simp[h2,h3,hat]
 ·have hx:x∉l:=fun hv=>h (hm.2 ⟨x,hv,by simp⟩)
  refine zae (b:=.inl ()) (fun i=>(l,x,(i:Int))) l.length rfl ?_ ?_ (by simp[hx])
  ·intro i hi
   have h1:=zdb (fun y=>decide (y=x)) l i (by omega)
   have h2:(i:Int)<(l.length:Int):=by omega
   have h3:(0:Int)≤(i:Int):=by omega
   simp only[xav,xac]at h1
   simp[h2,h3,h1,hstep i (by omega)]
  ·simp
end Go.Proofs.YtmipjomnjkmdbaaGreat
open Go Go.Proofs Go.X
namespace Go.Proofs.YtmipjomnjkmdbaaGreat
def zch(p:Nat→Bool):Nat→Nat
 | 0=>0
 |n+1=>if zch p n<n then zch p n else if p n then n else n+1
theorem zes(p:Nat→Bool):∀n,zch p n≤n
 | 0=>Nat.le_refl 0
 |n+1=>by
  unfold zch
  have:=zes p n
  split
  ·omega
  ·split<;>omega
theorem zco(p:Nat→Bool):∀n i,i<zch p n→p i=false
 | 0,i,h=>by simp[zch]at h
 |n+1,i,h=>by
  unfold zch at h
  have hle:=zes p n
  split at h
  ·exact zco p n i h
  ·split at h
   ·rename_i h1 h2
    exact zco p n i (by omega)
   ·rename_i h1 h2
    rcases xdf i n with h3|h3
    ·exact zco p n i (by omega)
    ·have:i=n:=by omega
     subst this
     simpa using h2
theorem zet(p:Nat→Bool):∀n,zch p n<n→p (zch p n)=true
 | 0,h=>by simp at h
 |n+1,h=>by
  unfold zch at h ⊢
  have hle:=zes p n
  split
  ·rename_i h1;exact zet p n h1
  ·rename_i h1
   rw[if_neg h1]at h
   split
   ·rename_i h2;exact h2
   ·rename_i h2;rw[if_neg h2]at h;omega
theorem zop(p:Nat→Bool)(n:Nat):¬zch p n<n↔∀i,i<n→p i=false:=by
 constructor
 ·intro h i hi
  have:=zes p n
  exact zco p n i (by omega)
 ·intro h hlt
  have:=zet p n hlt
  rw[h _ hlt]at this
  cases this
end Go.Proofs.YtmipjomnjkmdbaaGreat
open Go Go.Proofs Go.X
namespace Go.Proofs.YtmipjomnjkmdbaaGreat
def zko(l:List Int):Nat→List Bool
 | 0=>[false,false,false,false,false,false,false]
 |i+1=>(zko l i).set (Int.toNat (l.getD i 0)) true
end Go.Proofs.YtmipjomnjkmdbaaGreat
open Go Go.Proofs Go.X
namespace Go.Proofs.YtmipjomnjkmdbaaGreat
def outs(n:Int)(l:List Int):Nat→List Int
 | 0=>[]
 |i+1=>if l.getD i 0%n∈outs n l i then outs n l i else outs n l i++[l.getD i 0%n]
def bal(n:Int)(l:List Int):List Int:=outs n l (zch (fun i=>decide (n≤((outs n l i).length:Int))) l.length)
theorem outs_len(n:Int)(l:List Int):∀i,(outs n l i).length≤i
 | 0=>Nat.le_refl 0
 |i+1=>by
  have:=outs_len n l i
  unfold outs
  split
  ·omega
  ·simp;omega
theorem outs_in{n:Int}(hn:0<n)(l:List Int):∀i,∀x∈outs n l i,0≤x∧x<n
 | 0,x,hx=>by simp[outs]at hx
 |i+1,x,hx=>by
  unfold outs at hx
  split at hx
  ·exact outs_in hn l i x hx
  ·rcases List.mem_append.1 hx with hx|hx
   ·exact outs_in hn l i x hx
   ·simp at hx
    rw[hx]
    exact zjy _ hn
theorem zju(n:Int)(l:List Int):∀i,(outs n l i).Nodup
 | 0=>List.nodup_nil
 |i+1=>by
  unfold outs
  split
  ·exact zju n l i
  ·rename_i h
   refine xfb.2 ⟨zju n l i,by simp,fun x hx y hy=>?_⟩
   simp at hy
   rintro rfl
   exact h (by rw[xac,←hy];exact hx)
theorem d99_eq{n:Int}{l:List Int}(hn:0<n)(hn':n≤1000)(hl:WT (.slice (.int .i64)) l):d99 n l=some (bal n l):=by
 unfold d99 bal
 have hlen:=wt_len hl
 have hle:=zes (fun i=>decide (n≤((outs n l i).length:Int))) l.length
 have hstep:∀i:Nat,i<l.length→w ((i:Int)+1)=((i+1:Nat):Int):=fun i hi=>by rw[w_id (by omega) (by omega)];omega
 refine zae (b:=outs n l (zch (fun i=>decide (n≤((outs n l i).length:Int))) l.length)) (fun i=>(n,l,outs n l i,(i:Int))) (zch (fun i=>decide (n≤((outs n l i).length:Int))) l.length) rfl (fun i hi=>?_) ?_ rfl
 ·have h1:=zco _ _ i hi
  simp only[xav]at h1
  have h1':((outs n l i).length:Int)<n:=by omega
  have h2:(i:Int)<(l.length:Int):=by omega
  have h3:(0:Int)≤(i:Int):=by omega
  have hx:WT (.int .i64) (l.getD i 0):=by
   rw[xac,xak (by omega)]
   exact hl.2 _ (xbf _)
  have hlim:((outs n l i).length:Int)+(([l.getD i 0%n]:List Int).length:Int)≤LIM:=by rw[zez];simp;omega
  have ho:=outs_len n l i
  simp only[h2,h3,h1',xax,xad,xai,letJ,xaj,zgp hx hn (by omega),xab,d49_eq (l:=outs n l i) _ (by omega),hstep i (by omega),hlim]
  have e:outs n l (i+1)=if l.getD i 0%n∈outs n l i then outs n l i else outs n l i++[l.getD i 0%n]:=rfl
  by_cases c:l.getD i 0%n∈outs n l i
  ·rw[if_pos c]at e
   simp only[c,e];rfl
  ·rw[if_neg c]at e
   simp only[c,e];rfl
 ·by_cases h:zch (fun i=>decide (n≤((outs n l i).length:Int))) l.length<l.length
  ·have h1:=zet _ _ h
   simp only[xag]at h1
   have h1':¬((outs n l (zch (fun i=>decide (n≤((outs n l i).length:Int))) l.length)).length:Int)<n:=by omega
   have h2:((zch (fun i=>decide (n≤((outs n l i).length:Int))) l.length:Nat):Int)<(l.length:Int):=by omega
   simp only[h2,h1',letJ,xax,xby,xad,xaf]
  ·have h2:¬((zch (fun i=>decide (n≤((outs n l i).length:Int))) l.length:Nat):Int)<(l.length:Int):=by omega
   simp only[h2,letJ,xby,xaf]
end Go.Proofs.YtmipjomnjkmdbaaGreat
open Go Go.Proofs Go.X
namespace Go.Proofs.YtmipjomnjkmdbaaGreat
theorem zfo{α β γ:Type}{f:α→Option (α⊕β)}{k:β→Option γ}{a0:α}{r:Option γ}(st:Nat→α)(p:Nat→Bool)(n:Nat)(bx:Nat→β)(e:β)(h0:st 0=a0)
  (hs:∀i,i<n→f (st i)=if p i then some (.inr (bx i))else some (.inl (st (i+1)))) (he:f (st n)=some (.inr e))
  (h1:∀i,i<n→p i=true→(∀j,j<i→p j=false)→k (bx i)=r) (h2:(∀i,i<n→p i=false)→k e=r):(zaa f a0).bind k=r:=by
 have hle:=zes p n
 by_cases h:zch p n<n
 ·refine zae (b:=bx (zch p n)) st (zch p n) h0 (fun i hi=>?_) ?_ (h1 _ h (zet p n h) (zco p n))
  ·have:=hs i (by omega)
   rw[zco p n i hi]at this
   exact this
  ·have:=hs _ h
   rw[zet p n h]at this
   exact this
 ·have hall:=(zop p n).1 h
  refine zae (b:=e) st n h0 (fun i hi=>?_) he (h2 hall)
  have:=hs i hi
  rw[hall i hi]at this
  exact this
theorem zba{α:Type}(l:List α)(d:α){i:Nat}(h:i<l.length):l.getD i d=l[i]:=by
 rw[xac,xak h,Option.getD_some]
def isB(n:Int)(l:List Int):Prop:=l.Nodup∧∀x∈l,0≤x∧x<n
instance(n:Int)(l:List Int):Decidable (isB n l):=inferInstanceAs (Decidable (_∧_))
theorem zqf(n:Int)(l:List Int):isB n l↔∀i,i<l.length→0≤l.getD i 0∧l.getD i 0<n∧l.getD i 0∉l.take i:=by
 constructor
 ·rintro⟨h1,h2⟩ i hi
  rw[zba l 0 hi]
  refine⟨(h2 _ (xbf hi)).1,(h2 _ (xbf hi)).2,fun hm=>?_⟩
  obtain⟨j,hj,e⟩:=xgt.1 hm
  exact xdt.1 h1 j i (by omega) hi (by omega) e
 ·intro h
  refine⟨xdt.2 fun i j hi hj hij e=>?_,fun x hx=>?_⟩
  ·have:=(h j hj).2.2
   rw[zba l 0 hj,←e]at this
   exact this (xgt.2 ⟨i,by omega,rfl⟩)
  ·obtain⟨i,hi,rfl⟩:=xbv hx
   have:=h i hi
   rw[zba l 0 hi]at this
   exact⟨this.1,this.2.1⟩
theorem zog(l:List Int):∀i,(zko l i).length=7
 | 0=>rfl
 |i+1=>by unfold zko;rw[List.length_set];exact zog l i
theorem zmi(l:List Int):∀i,i≤l.length→(∀j,j<i→0≤l.getD j 0∧l.getD j 0<7)→∀c:Nat,c<7→(zko l i).getD c false=decide ((c:Int)∈l.take i)
 | 0,_,_,c,hc=>by
  have:c=0∨c=1∨c=2∨c=3∨c=4∨c=5∨c=6:=by omega
  rcases this with h|h|h|h|h|h|h<;>subst h<;>rfl
 |i+1,hi,hb,c,hc=>by
  have ih:=zmi l i (by omega) (fun j hj=>hb j (by omega)) c hc
  have hl:=zog l i
  have hx:=hb i (by omega)
  unfold zko
  rw[xez,xhx]at ih
  rw[xez,xhx,xac,List.getElem?_set,hl,xfa,List.mem_append,←ih,xak (by omega:i<l.length)]
  rw[zba l 0 (by omega:i<l.length)]at hx ⊢
  generalize l[i]=x at hx
  by_cases e:x.toNat=c
  ·have e':(c:Int)=x:=by omega
   rw[if_pos e,if_pos (by omega)]
   simp[e']
  ·have e':¬(c:Int)=x:=by omega
   rw[if_neg e]
   simp[e',xac]
theorem zkf{i n:Nat}(h:i≤n):zck 0 (i:Int) n=true:=by
 unfold zck
 simp only[xae,xag]
 omega
theorem d32_eq(n:Int){l:List Int}(hl:l.length≤281474976710656):d32 n l=some (decide (isB n l)):=by
 unfold d32
 have hstep:∀i:Nat,i<l.length→w ((i:Int)+1)=((i+1:Nat):Int):=fun i hi=>by rw[w_id (by omega) (by omega)];omega
 refine zfo (fun i=>(n,l,(i:Int))) (fun i=>decide (l.getD i 0<0)||(decide (n≤l.getD i 0)||decide (l.getD i 0∈l.take i))) l.length (fun _=>.inr false) (.inl ()) rfl (fun i hi=>?_) ?_ (fun i hi hp hj=>?_) (fun hall=>?_)
 ·have h2:(i:Int)<(l.length:Int):=by omega
  have h3:(0:Int)≤(i:Int):=by omega
  simp only[h2,h3,letJ,xax,xad,xai,xaj,hstep i hi,zkf (xfq hi),xgv,d49_eq (l:=l.take i) _ (by simp;omega),xab]
  by_cases c1:l.getD i 0<0
  ·simp only[c1];rfl
  ·by_cases c2:n≤l.getD i 0
   ·simp only[c1,c2];rfl
   ·by_cases c3:l.getD i 0∈l.take i
    ·simp only[c1,c2,c3];rfl
    ·simp only[c1,c2,c3];rfl
 ·simp
 ·have:¬isB n l:=fun h=>by
   have:=(zqf n l).1 h i hi
   simp only[xdn,xag]at hp
   rcases hp with hp|hp|hp
   ·omega
   ·omega
   ·exact this.2.2 hp
  simp[this]
 ·have:isB n l:=(zqf n l).2 fun i hi=>by
   have:=hall i hi
   simp only[xbx,xav]at this
   exact⟨by omega,by omega,this.2.2⟩
  simp[this]
end Go.Proofs.YtmipjomnjkmdbaaGreat
open Go Go.Proofs Go.X
namespace Go.Proofs.YtmipjomnjkmdbaaGreat
theorem while_first'{α β γ:Type}{f:α→Option (α⊕β)}{k:β→Option γ}{a0:α}{r:Option γ}(st:Nat→α)(p:Nat→Bool)(n:Nat)(bx:Nat→β)(e:β)(h0:st 0=a0)
  (hs:∀i,i<n→(∀j,j<i→p j=false)→f (st i)=if p i then some (.inr (bx i))else some (.inl (st (i+1)))) (he:(∀j,j<n→p j=false)→f (st n)=some (.inr e))
  (h1:∀i,i<n→p i=true→(∀j,j<i→p j=false)→k (bx i)=r) (h2:(∀i,i<n→p i=false)→k e=r):(zaa f a0).bind k=r:=by
 have hle:=zes p n
 by_cases h:zch p n<n
 ·refine zae (b:=bx (zch p n)) st (zch p n) h0 (fun i hi=>?_) ?_ (h1 _ h (zet p n h) (zco p n))
  ·have:=hs i (by omega) (fun j hj=>zco p n j (by omega))
   rw[zco p n i hi]at this
   exact this
  ·have:=hs _ h (zco p n)
   rw[zet p n h]at this
   exact this
 ·have hall:=(zop p n).1 h
  refine zae (b:=e) st n h0 (fun i hi=>?_) (he hall) (h2 hall)
  have:=hs i hi (fun j hj=>hall j (by omega))
  rw[hall i hi]at this
  exact this
theorem lt_at:∀(i:Nat) (a b:List Int),i<a.length→i<b.length→(∀j,j<i→a.getD j 0=b.getD j 0)→a.getD i 0≠b.getD i 0→(a<b↔a.getD i 0<b.getD i 0)
 |_,[],_,h,_,_,_=>by simp at h
 |_,_::_,[],_,h,_,_=>by simp at h
 | 0,x::a,y::b,_,_,_,hne=>by
  rw[xei]
  simp only[xef]at hne ⊢
  constructor
  ·rintro(h|⟨h,_⟩)
   ·exact h
   ·exact absurd h hne
  ·exact .inl
 |i+1,x::a,y::b,h1,h2,h3,hne=>by
  rw[xei]
  have h0:=h3 0 (by omega)
  simp only[xef]at h0
  subst h0
  simp only[xgh]at hne ⊢
  have:=lt_at i a b (by simp at h1;omega) (by simp at h2;omega) (fun j hj=>by have:=h3 (j+1) (by omega);simpa using this) hne
  constructor
  ·rintro(h|⟨_,h⟩)
   ·omega
   ·exact this.1 h
  ·exact fun h=>.inr ⟨by first | rfl | trivial,this.2 h⟩
theorem lt_end:∀(a b:List Int),(∀j,j<a.length→j<b.length→a.getD j 0=b.getD j 0)→(a<b↔a.length<b.length)
 | [],[],_=>by simp
 | [],y::b,_=>by simp
 |x::a,[],_=>by simp
 |x::a,y::b,h=>by
  have h0:=h 0 (by simp) (by simp)
  simp only[xef]at h0
  subst h0
  have:=lt_end a b fun j h1 h2=>by have:=h (j+1) (by simp;omega) (by simp;omega);simpa using this
  rw[xei]
  simp only[xay,Nat.add_lt_add_iff_right]
  rw[←this]
  constructor
  ·rintro(h|⟨_,h⟩)
   ·omega
   ·exact h
  ·exact fun h=>.inr ⟨by first | rfl | trivial,h⟩
theorem lex_tri:∀(a b:List Int),a<b∨a=b∨b<a
 | [],[]=>.inr (.inl rfl)
 | [],y::b=>.inl (by simp)
 |x::a,[]=>.inr (.inr (by simp))
 |x::a,y::b=>by
  simp only[xei]
  rcases Int.lt_trichotomy x y with h|h|h
  ·exact .inl (.inl h)
  ·subst h
   rcases lex_tri a b with h|h|h
   ·exact .inl (.inr ⟨rfl,h⟩)
   ·subst h;exact .inr (.inl rfl)
   ·exact .inr (.inr (.inr ⟨rfl,h⟩))
  ·exact .inr (.inr (.inl h))
theorem zei:∀(a:List Int),¬a<a
 | []=>by simp
 |x::a=>by
  rw[xei]
  rintro(h|⟨_,h⟩)
  ·omega
  ·exact zei a h
theorem ziz:∀{a b c:List Int},a<b→b<c→a<c
 | [],_,[],_,h=>by simp at h
 | [],_,z::c,_,_=>by simp
 |x::a,[],_,h,_=>by simp at h
 |x::a,y::b,[],_,h=>by simp at h
 |x::a,y::b,z::c,h1,h2=>by
  rw[xei]at *
  rcases h1 with h1|⟨h1,h3⟩
  ·rcases h2 with h2|⟨h2,_⟩
   ·exact .inl (by omega)
   ·exact .inl (by omega)
  ·rcases h2 with h2|⟨h2,h4⟩
   ·exact .inl (by omega)
   ·exact .inr ⟨by omega,ziz h3 h4⟩
theorem lex_asymm{a b:List Int}(h:a<b):¬b<a:=fun h'=>zei a (ziz h h')
theorem d97_eq{a b:List Int}(ha:a.length≤281474976710656)(hb:b.length≤281474976710656):d97 a b=some (decide (a<b)):=by
 unfold d97
 refine zfo (fun i=>(a,b,(i:Int))) (fun i=>!decide (a.getD i 0=b.getD i 0)) (min a.length b.length) (fun i=>.inr (decide (a.getD i 0<b.getD i 0))) (.inl (a,b)) rfl (fun i hi=>?_) ?_ (fun i hi hp hj=>?_) (fun hall=>?_)
 ·have h1:(i:Int)<(a.length:Int):=by omega
  have h2:(i:Int)<(b.length:Int):=by omega
  have h3:(0:Int)≤(i:Int):=by omega
  have hw:w ((i:Int)+1)=((i+1:Nat):Int):=by rw[w_id (by omega) (by omega)];omega
  simp only[h1,h2,h3,hw,letJ,xax,xad,xai,xaj]
  by_cases c:a.getD i 0=b.getD i 0
  ·simp only[c];rfl
  ·simp only[c];rfl
 ·simp only[letJ]
  by_cases c:a.length≤b.length
  ·have h1:¬((min a.length b.length:Nat):Int)<(a.length:Int):=by omega
   simp only[h1,xby,xaf]
  ·have h1:((min a.length b.length:Nat):Int)<(a.length:Int):=by omega
   have h2:¬((min a.length b.length:Nat):Int)<(b.length:Int):=by omega
   simp only[h1,h2,xax,xby,xad,xaf]
 ·have hne:a.getD i 0≠b.getD i 0:=by simpa using hp
  have:=lt_at i a b (by omega) (by omega) (fun j hj'=>by have:=hj j hj';simpa using this) hne
  simp[this]
 ·have:=lt_end a b fun j h1 h2=>by have:=hall j (by omega);simpa using this
  have e:((a.length:Int)<(b.length:Int))↔a<b:=by rw[this];omega
  simp[e]
theorem d38_eq{a b:List Int}(ha:a.length≤281474976710656)(hb:b.length≤281474976710656):d38 a b=some (decide (a=b)):=by
 unfold d38
 rw[d97_eq ha hb,d97_eq hb ha]
 simp only[xab]
 rcases lex_tri a b with h|h|h
 ·have:a≠b:=fun e=>zei a (by rw[←e]at h;exact h)
  simp[h,this]
 ·subst h
  simp[zei a]
 ·have:a≠b:=fun e=>zei a (by rw[←e]at h;exact h)
  have h':=lex_asymm h
  simp[h,h',this]
theorem d198_eq(x y:Int):d198 x y=some (if x<y then -1 else if y<x then 1 else 0):=by
 unfold d198 d215
 by_cases h:x<y
 ·simp[h]
 ·by_cases h':y<x
  ·simp[h,h']
  ·simp[h,h']
def cmpL(a b:List Int):Int:=if a<b then -1 else if b<a then 1 else 0
theorem d166_eq{a b:List Int}(ha:a.length≤281474976710656)(hb:b.length≤281474976710656):d166 a b=some (cmpL a b):=by
 unfold d166 cmpL
 refine zfo (fun i=>(a,b,a,(a.length:Int),(i:Int))) (fun i=>decide (b.length≤i)|| !decide (a.getD i 0=b.getD i 0)) a.length (fun i=>.inr (if b.length≤i then 1 else if a.getD i 0<b.getD i 0 then -1 else 1)) (.inl (a,b)) rfl (fun i hi=>?_) ?_ (fun i hi hp hj=>?_) (fun hall=>?_)
 ·have h1:(i:Int)<(a.length:Int):=by omega
  have h3:(0:Int)≤(i:Int):=by omega
  have hw:w ((i:Int)+1)=((i+1:Nat):Int):=by rw[w_id (by omega) (by omega)];omega
  simp only[h1,h3,hw,xax,xad,xai,xaj,d198_eq,xab]
  by_cases c0:b.length≤i
  ·have h2:(b.length:Int)≤(i:Int):=by omega
   simp[h2,c0]
  ·have h2:¬(b.length:Int)≤(i:Int):=by omega
   have h4:(i:Int)<(b.length:Int):=by omega
   simp only[h2,h4,c0,xax,xby,xad,xaf,if_false,xbj]
   rcases Int.lt_trichotomy (a.getD i 0) (b.getD i 0)with h|h|h
   ·have h5:¬a.getD i 0=b.getD i 0:=by omega
    simp only[h,h5,if_true];rfl
   ·have h5:¬a.getD i 0<b.getD i 0:=by omega
    have h6:¬b.getD i 0<a.getD i 0:=by omega
    simp only[h,if_false];simp
   ·have h5:¬a.getD i 0=b.getD i 0:=by omega
    have h6:¬a.getD i 0<b.getD i 0:=by omega
    simp only[h,h5,h6,if_true,if_false];rfl
 ·simp
 ·simp only[xal]
  by_cases c0:b.length≤i
  ·have h1:=lt_end b a fun j h1 h2=>by
    have:=hj j (by omega)
    simp only[xbx,xav,xet,xag]at this
    exact this.2.symm
   have h2:b<a:=h1.2 (by omega)
   simp[c0,h2,lex_asymm h2]
  ·have heq:∀j,j<i→a.getD j 0=b.getD j 0:=fun j hj'=>by
    have:=hj j hj'
    simp only[xbx,xav,xet,xag]at this
    exact this.2
   have hne:a.getD i 0≠b.getD i 0:=by simpa[c0]using hp
   have h1:=lt_at i a b hi (by omega) heq hne
   have h2:=lt_at i b a (by omega) hi (fun j hj'=>(heq j hj').symm) (Ne.symm hne)
   simp only[c0,if_false,h1,h2]
   by_cases c:a.getD i 0<b.getD i 0
   ·simp only[c,if_true]
   ·have:b.getD i 0<a.getD i 0:=by omega
    simp only[c,this,if_true,if_false]
 ·have key:∀j,j<a.length→j<b.length∧a.getD j 0=b.getD j 0:=fun j h1=>by
   have:=hall j h1
   simp only[xbx,xav,xet,xag]at this
   omega
  have h1:=lt_end a b fun j h1 h2=>(key j h1).2
  have h2:=lt_end b a fun j h1 h2=>(key j h2).2.symm
  have h3:a.length≤b.length:=by
   rcases xcc a.length with h|h
   ·omega
   ·have:=(key (a.length-1) (by omega)).1;omega
  have h4:¬b<a:=by rw[h2];omega
  simp only[h4,if_false]
  by_cases c:a<b
  ·have:(a.length:Int)<(b.length:Int):=by have:=h1.1 c;omega
   simp[c,this]
  ·have:¬(a.length:Int)<(b.length:Int):=by rw[h1]at c;omega
   simp[c,this]
abbrev Grp:=List Int×Int
def addG:List Grp→List Int→Int→List Grp
 | [],p,k=>[(p,k)]
 |g::gs,p,k=>if g.1<p then g::addG gs p k else if g.1=p then(g.1,g.2+k)::gs else(p,k)::g::gs
def zjl(gs:List Grp)(p:List Int):Bool:=gs.all fun g=>decide (g.1<p)
theorem addG_app:∀(gs:List Grp) (g:Grp) (p:List Int) (k:Int),addG (gs++[g]) p k=if zjl gs p then gs++addG [g] p k else addG gs p k++[g]
 | [],g,p,k=>by simp[zjl]
 |h::gs,g,p,k=>by
  have ih:=addG_app gs g p k
  unfold zjl at ih ⊢
  rw[xbz]
  unfold addG
  by_cases c:h.1<p
  ·simp only[c,if_true,ih,xhz,xax,xbg]
   by_cases c2:(gs.all fun g=>decide (g.1<p))=true
   ·rw[if_pos c2,if_pos c2]
    simp[addG]
   ·rw[if_neg c2,if_neg c2]
    simp
  ·by_cases c2:h.1=p
   ·have:¬h.1<h.1:=zei _
    subst c2
    simp[this]
   ·simp[c,c2]
theorem addG_all{gs:List Grp}{p:List Int}(k:Int)(h:zjl gs p=true):addG gs p k=gs++[(p,k)]:=by
 induction gs with
 |nil=>rfl
 |cons g gs ih=>
  unfold zjl at h ih
  simp only[xhz,xae,xag]at h
  unfold addG
  simp only[h.1,if_true,ih h.2,xbz]
theorem zfr{α:Type}(l:List α)(d:α){i:Nat}(h:i<l.length):l.take (i+1)=l.take i++[l.getD i d]:=by
 rw[xfa,xak h,zba l d h]
 rfl
theorem zqv:∀(gs:List Grp) (p:List Int) (k:Int),(addG gs p k).length≤gs.length+1
 | [],p,k=>by simp[addG]
 |g::gs,p,k=>by
  have:=zqv gs p k
  unfold addG
  split
  ·simp;omega
  ·split<;>simp
theorem d98_eq{gs:List Grp}{p:List Int}{k:Int}(hl:gs.length≤1000000)(hp:p.length≤281474976710656)(hk:0≤k∧k≤1000000)(hg:∀g∈gs,g.1.length≤281474976710656∧0≤g.2∧g.2≤1000000):d98 gs p k=some (addG gs p k):=by
 unfold d98
 refine zae (b:=(p,k,(if zjl gs p then gs else addG gs p k),!zjl gs p)) (fun i=>(gs,p,k,(if zjl (gs.take i) p then gs.take i else addG (gs.take i) p k),!zjl (gs.take i) p,(i:Int))) gs.length rfl (fun i hi=>?_) ?_ ?_
 ·have h1:(i:Int)<(gs.length:Int):=by omega
  have h3:(0:Int)≤(i:Int):=by omega
  have hw:w ((i:Int)+1)=((i+1:Nat):Int):=by rw[w_id (by omega) (by omega)];omega
  have hm:gs.getD i ([],0)∈gs:=by rw[zba gs _ hi];exact xbf _
  obtain⟨g1,g2,g3⟩:=hg _ hm
  have ht:=zfr gs ([],0) hi
  have hw2:w ((gs.getD i ([],0)).2+k)=(gs.getD i ([],0)).2+k:=w_id (by omega) (by omega)
  simp only[h1,h3,hw,letJ,xax,xad,xai,xaj]
  generalize gs.getD i ([],0)=g at *
  have hl1:(gs.take i).length≤1000000:=by simp;omega
  have hl2:=zqv (gs.take i) p k
  have hlim:∀(l:List Grp) (z:Grp),l.length≤1000002→((l.length:Int)+(([z]:List Grp).length:Int)≤LIM):=fun l z h=>by rw[zez];simp;omega
  have happ:=addG_app (gs.take i) g p k
  have hall:zjl (gs.take i++[g]) p=(zjl (gs.take i) p&&decide (g.1<p)):=by simp[zjl]
  rw[ht,hall,happ]
  generalize gs.take i=T at *
  have e1:∀z,((T.length:Int)+(([z]:List Grp).length:Int)≤LIM):=fun z=>hlim T z (by omega)
  have e2:∀z,(((addG T p k).length:Int)+(([z]:List Grp).length:Int)≤LIM):=fun z=>hlim _ z (by omega)
  have e3:∀z z',(((T++[z']).length:Int)+(([z]:List Grp).length:Int)≤LIM):=fun z z'=>hlim _ z (by simp;omega)
  simp only[d97_eq g1 hp,d38_eq g1 hp,xab,hw2]
  cases hT:zjl T p
  ·simp only[xaw,if_false,e2,xao,xaq,xaf,xbn,xax,xad]
  ·simp only[xaq,xao,xad,xbg,if_true]
   by_cases c:g.1<p
   ·simp only[c,e1,xax,xaq,xaf,xad,if_true]
   ·by_cases c2:g.1=p
    ·subst c2
     simp only[c,e1,xax,xby,xao,xad,addG,if_true,if_false]
     simp
    ·simp only[c,c2,e1,e3,xax,xby,xao,xad,xaf,addG,if_false]
     simp
 ·have h1:¬((gs.length:Int)<(gs.length:Int)):=by omega
  simp only[h1,xby,xaf,xbh]
 ·cases hT:zjl gs p
  ·simp[letJ]
  ·have hlim:((gs.length:Int)+(([(p,k)]:List Grp).length:Int)≤LIM):=by rw[zez];simp;omega
   simp only[xaq,xao,xad,letJ,if_true,hlim,xax,addG_all k hT]
def wsum(f:List Int→Int):List Grp→Int
 | []=>0
 |g::gs=>g.2*f g.1+wsum f gs
theorem zlf(f:List Int→Int):∀(a b:List Grp),wsum f (a++b)=wsum f a+wsum f b
 | [],b=>by simp[wsum]
 |g::a,b=>by
  have:=zlf f a b
  simp only[xbz,wsum,this]
  omega
theorem zih(f:List Int→Int):∀(gs:List Grp) (p:List Int) (k:Int),wsum f (addG gs p k)=wsum f gs+k*f p
 | [],p,k=>by simp[addG,wsum]
 |g::gs,p,k=>by
  have ih:=zih f gs p k
  unfold addG
  split
  ·simp only[wsum,ih];omega
  ·split
   ·rename_i h
    simp only[wsum,h,Int.add_mul];omega
   ·simp only[wsum];omega
theorem zlt:∀{gs:List Grp} {p:List Int} {k:Int} {g:Grp},g∈addG gs p k→(g.1=p∧(g.2=k∨∃h∈gs,h.1=p∧g.2=h.2+k))∨g∈gs
 | [],p,k,g,h=>by
  simp[addG]at h
  exact .inl ⟨by rw[h],.inl (by rw[h])⟩
 |a::gs,p,k,g,h=>by
  unfold addG at h
  split at h
  ·rcases xat.1 h with h|h
   ·exact .inr (by simp[h])
   ·rcases zlt h with⟨h1,h2⟩|h1
    ·refine .inl ⟨h1,h2.imp id fun⟨x,h3,h4⟩=>⟨x,xah _ h3,h4⟩⟩
    ·exact .inr (xah _ h1)
  ·split at h
   ·rename_i hp
    rcases xat.1 h with h|h
    ·exact .inl ⟨by rw[h];exact hp,.inr ⟨a,by simp,hp,by rw[h]⟩⟩
    ·exact .inr (xah _ h)
   ·rcases xat.1 h with h|h
    ·exact .inl ⟨by rw[h],.inl (by rw[h])⟩
    ·exact .inr h
def zgu(gs:List Grp):Prop:=gs.Pairwise fun g h=>g.1<h.1
theorem zie:∀{gs:List Grp} (p:List Int) (k:Int),zgu gs→zgu (addG gs p k)
 | [],p,k,_=>by simp[addG,zgu]
 |a::gs,p,k,h=>by
  unfold zgu at h
  rw[xcv]at h
  unfold addG
  split
  ·rename_i hlt
   refine xcv.2 ⟨fun g hg=>?_,zie p k h.2⟩
   rcases zlt hg with⟨h1,_⟩|h1
   ·rw[h1];exact hlt
   ·exact h.1 g h1
  ·rename_i hlt
   split
   ·exact xcv.2 ⟨fun g hg=>h.1 g hg,h.2⟩
   ·rename_i hne
    have hp:p<a.1:=by
     rcases lex_tri a.1 p with h|h|h
     ·exact absurd h hlt
     ·exact absurd h hne
     ·exact h
    refine xcv.2 ⟨fun g hg=>?_,xcv.2 h⟩
    rcases xat.1 hg with rfl|hg
    ·exact hp
    ·exact ziz hp (h.1 g hg)
structure PileOK(n:Int)(gs:List Grp)(N:Int):Prop where
 ballots:∀g∈gs,isB n g.1∧1≤g.2
 sorted:zgu gs
 total:wsum (fun _=>1) gs=N
 most:N≤100000
theorem zhi{n:Int}:∀{gs:List Grp},(∀g∈gs,isB n g.1∧1≤g.2)→∀{f:List Int→Int},(∀p,0≤f p∧f p≤1)→0≤wsum f gs∧wsum f gs≤wsum (fun _=>1) gs
 | [],_,f,_=>by simp[wsum]
 |g::gs,h,f,hf=>by
  have ih:=zhi (gs:=gs) (fun x hx=>h x (xah _ hx)) hf
  have h1:=(h g (by simp)).2
  have h2:=hf g.1
  have h3:0≤g.2*f g.1:=Int.mul_nonneg (by omega) h2.1
  have h4:g.2*f g.1≤g.2*1:=Int.mul_le_mul_of_nonneg_left h2.2 (by omega)
  simp only[wsum]
  omega
theorem zpu{n:Int}:∀{gs:List Grp},(∀g∈gs,isB n g.1∧1≤g.2)→∀g∈gs,g.2≤wsum (fun _=>1) gs
 | [],_,g,hg=>by cases hg
 |a::gs,h,g,hg=>by
  have h0:=(zhi (n:=n) (gs:=gs) (fun x hx=>h x (xah _ hx)) (f:=fun _=>1) (fun _=>by omega)).1
  have h1:=(h a (by simp)).2
  simp only[wsum]
  rcases xat.1 hg with rfl|hg
  ·omega
  ·have:=zpu (n:=n) (gs:=gs) (fun x hx=>h x (xah _ hx)) g hg
   omega
theorem zpt{n:Int}:∀{gs:List Grp},(∀g∈gs,isB n g.1∧1≤g.2)→(gs.length:Int)≤wsum (fun _=>1) gs
 | [],_=>by simp[wsum]
 |a::gs,h=>by
  have h1:=(h a (by simp)).2
  have:=zpt (n:=n) (gs:=gs) (fun x hx=>h x (xah _ hx))
  simp only[wsum,xay]
  omega
theorem zir:∀(n:Nat) (l:List Int),l.Nodup→(∀x∈l,0≤x∧x<(n:Int))→l.length≤n
 | 0,l,_,h=>by
  cases l with
  |nil=>simp
  |cons x l=>have:=h x (by simp);omega
 |n+1,l,hd,h=>by
  by_cases hm:(n:Int)∈l
  ·have h1:=zir n (l.erase (n:Int)) (hd.erase _) fun x hx=>by
    have h2:=(hd.mem_erase_iff).1 hx
    have:=h x h2.2
    have:=h2.1
    omega
   rw[List.length_erase_of_mem hm]at h1
   omega
  ·have:=zir n l hd fun x hx=>by
    have h1:=h x hx
    have:x≠(n:Int):=fun e=>hm (e▸hx)
    omega
   omega
theorem zhc{n:Int}{l:List Int}(h:isB n l)(hn:n≤7):l.length≤7:=zir 7 l h.1 fun x hx=>by have:=h.2 x hx;omega
theorem PileOK.add{n:Int}{gs:List Grp}{N:Int}(h:PileOK n gs N){p:List Int}(hp:isB n p)(hN:N+1≤100000):PileOK n (addG gs p 1) (N+1) where
 ballots:=fun g hg=>by
  rcases zlt hg with⟨h1,h2⟩|h1
  ·refine⟨by rw[h1];exact hp,?_⟩
   rcases h2 with h2|⟨x,hx,_,h2⟩
   ·omega
   ·have:=(h.ballots x hx).2;omega
  ·exact h.ballots g h1
 sorted:=zie _ _ h.sorted
 total:=by rw[zih,h.total];omega
 most:=hN
theorem PileOK.nil(n:Int):PileOK n [] 0:=⟨fun _ hg=>absurd hg (by simp),List.Pairwise.nil,rfl,by omega⟩
theorem PileOK.d98{n:Int}{gs:List Grp}{N:Int}(h:PileOK n gs N)(hn:n≤7){p:List Int}(hp:isB n p):d98 gs p 1=some (addG gs p 1):=by
 have h1:=zpt h.ballots
 have h2:=h.total
 have h3:=h.most
 refine d98_eq (by omega) (by have:=zhc hp hn;omega) (by omega) fun g hg=>?_
 have h4:=zpu h.ballots g hg
 have h5:=h.ballots g hg
 have:=zhc h5.1 hn
 omega
end Go.Proofs.YtmipjomnjkmdbaaGreat
open Go Go.Proofs Go.X
namespace Go.Proofs.YtmipjomnjkmdbaaGreat
theorem d165_eq{n:Int}(hn:n≤7){l:List Int}(hl:l.length≤281474976710656):d165 n l=some (decide (isB n l)):=by
 unfold d165
 refine zfo (fun i=>(n,zko l i,l,(l.length:Int),(i:Int))) (fun i=>decide (l.getD i 0<0)||(decide (n≤l.getD i 0)||(zko l i).getD (Int.toNat (l.getD i 0)) false)) l.length (fun _=>.inr false) (.inl ()) rfl (fun i hi=>?_) ?_ (fun i hi hp hj=>?_) (fun hall=>?_)
 ·have h2:(i:Int)<(l.length:Int):=by omega
  have h3:(0:Int)≤(i:Int):=by omega
  have hw:w ((i:Int)+1)=((i+1:Nat):Int):=by rw[w_id (by omega) (by omega)];omega
  simp only[h2,h3,letJ,xax,xad,xai,xaj,hw]
  by_cases c1:l.getD i 0<0
  ·simp only[c1];rfl
  ·by_cases c2:n≤l.getD i 0
   ·simp only[c1,c2];rfl
   ·have c3:0≤l.getD i 0:=by omega
    have c4:l.getD i 0<7:=by omega
    simp only[c1,c2,c3,c4]
    cases(zko l i).getD (Int.toNat (l.getD i 0)) false<;>rfl
 ·simp
 ·have:¬isB n l:=fun h=>by
   have hb:=(zqf n l).1 h
   have h1:=hb i hi
   have h2:=zmi l i (by omega) (fun j hj=>by have:=hb j (by omega);omega) (Int.toNat (l.getD i 0)) (by omega)
   rw[show((l.getD i 0).toNat:Int)=l.getD i 0 by omega]at h2
   rw[h2]at hp
   simp only[xdn,xag]at hp
   rcases hp with hp|hp|hp
   ·omega
   ·omega
   ·exact h1.2.2 hp
  simp[this]
 ·have hb:∀i,i<l.length→0≤l.getD i 0∧l.getD i 0<n:=fun i hi=>by
   have:=hall i hi
   simp only[xbx,xav]at this
   omega
  have:isB n l:=(zqf n l).2 fun i hi=>by
   have h1:=hb i hi
   have h0:=hall i hi
   simp only[xbx,xav]at h0
   have h2:=zmi l i (by omega) (fun j hj=>by have:=hb j (by omega);omega) (Int.toNat (l.getD i 0)) (by omega)
   rw[show((l.getD i 0).toNat:Int)=l.getD i 0 by omega,h0.2.2]at h2
   exact⟨h1.1,h1.2,fun hm=>xdj h2.symm hm⟩
  simp[this]
def tot(gs:List Grp)(i:Nat):Int:=wsum (fun _=>1) (gs.take i)
def badG(n:Int)(gs:List Grp)(i:Nat):Bool:=decide ((gs.getD i ([],0)).2<1)||(decide (100000-tot gs i<(gs.getD i ([],0)).2)||(!decide (isB n (gs.getD i ([],0)).1)||(decide (0<i)&&decide (0≤cmpL (gs.getD (i-1) ([],0)).1 (gs.getD i ([],0)).1))))
theorem zcv(f:List Int→Int)(gs:List Grp){i:Nat}(h:i<gs.length):wsum f (gs.take (i+1))=wsum f (gs.take i)+(gs.getD i ([],0)).2*f (gs.getD i ([],0)).1:=by
 rw[zfr gs ([],0) h,zlf]
 simp[wsum]
theorem zjp{n:Int}{gs:List Grp}:∀{i:Nat},i≤gs.length→(∀j,j<i→badG n gs j=false)→0≤tot gs i∧tot gs i≤100000
 | 0,_,_=>by simp[tot,wsum]
 |i+1,h,hb=>by
  have ih:=zjp (n:=n) (gs:=gs) (i:=i) (by omega) fun j hj=>hb j (by omega)
  have h1:=hb i (by omega)
  unfold badG at h1
  simp only[xbx,xav]at h1
  have h2:tot gs (i+1)=tot gs i+(gs.getD i ([],0)).2*1:=zcv _ gs (by omega)
  omega
theorem d124_eq{n:Int}(hn:n≤7){gs:List Grp}(hl:gs.length≤281474976710656)(hg:∀g∈gs,g.1.length≤281474976710656∧-9223372036854775808≤g.2∧g.2≤9223372036854775807):d124 n gs=some (decide (∀i,i<gs.length→badG n gs i=false)):=by
 unfold d124
 have hgi:∀i,i<gs.length→(gs.getD i ([],0)).1.length≤281474976710656:=fun i hi=>by
  rw[zba gs _ hi]
  exact(hg _ (xbf _)).1
 refine while_first' (fun i=>(n,gs,tot gs i,gs,(gs.length:Int),(i:Int))) (badG n gs) gs.length (fun _=>.inr false) (.inl ()) rfl (fun i hi hj=>?_) (fun _=>?_) (fun i hi hp hj=>?_) (fun hall=>?_)
 ·have h2:(i:Int)<(gs.length:Int):=by omega
  have h3:(0:Int)≤(i:Int):=by omega
  have hw:w ((i:Int)+1)=((i+1:Nat):Int):=by rw[w_id (by omega) (by omega)];omega
  have ht:=zjp (n:=n) (gs:=gs) (i:=i) (by omega) hj
  have hw2:w (100000-tot gs i)=100000-tot gs i:=w_id (by omega) (by omega)
  have hgl:=hgi i hi
  have hgp:=hgi (i-1) (by omega)
  have hts:tot gs (i+1)=tot gs i+(gs.getD i ([],0)).2*1:=zcv _ gs (by omega)
  have hw3:1≤(gs.getD i ([],0)).2→(gs.getD i ([],0)).2≤100000-tot gs i→w (tot gs i+(gs.getD i ([],0)).2)=tot gs (i+1):=fun a b=>by rw[w_id (by omega) (by omega)];omega
  have hb:badG n gs i=(decide ((gs.getD i ([],0)).2<1)||(decide (100000-tot gs i<(gs.getD i ([],0)).2)||(!decide (isB n (gs.getD i ([],0)).1)||(decide (0<i)&&decide (0≤cmpL (gs.getD (i-1) ([],0)).1 (gs.getD i ([],0)).1))))):=rfl
  rw[hb]
  simp only[h2,h3,letJ,xax,xad,xai,xaj,hw,hw2]
  rw[d165_eq hn hgl]
  obtain⟨g,hgd⟩:∃g,gs.getD i ([],0)=g:=⟨_,rfl⟩
  simp only[hgd]at hgl hts hw3 ⊢
  by_cases c1:g.2<1
  ·simp only[c1];rfl
  ·by_cases c2:100000-tot gs i<g.2
   ·simp only[c1,c2];rfl
   ·rw[hw3 (by omega) (by omega)]
    by_cases c3:isB n g.1
    ·by_cases c4:0<i
     ·have c5:(0:Int)<(i:Int):=by omega
      have hwp:w ((i:Int)-1)=((i-1:Nat):Int):=by rw[w_id (by omega) (by omega)];omega
      have h5:(0:Int)≤((i-1:Nat):Int):=by omega
      have h6:((i-1:Nat):Int)<(gs.length:Int):=by omega
      simp only[c1,c2,c3,c4,c5,hwp,h5,h6,xaj,d166_eq hgp hgl,xab,xax,xby,xaq,xao,xad,xaf,xai,xbg,xbj]
      cases decide (0≤cmpL (gs.getD (i-1) ([],0)).1 g.1)<;>rfl
     ·have c5:¬(0:Int)<(i:Int):=by omega
      simp only[c1,c2,c3,c4,c5];rfl
    ·simp only[c1,c2,c3];rfl
 ·simp
 ·have:¬∀i,i<gs.length→badG n gs i=false:=fun h=>by rw[h i hi]at hp;cases hp
  simp[this]
 ·have:∀i,i<gs.length→badG n gs i=false:=hall
  simp only[decide_eq_true this]
theorem PileOK.good{n:Int}{gs:List Grp}{N:Int}(h:PileOK n gs N):∀i,i<gs.length→badG n gs i=false:=fun i hi=>by
 have hm:gs.getD i ([],0)∈gs:=by rw[zba gs _ hi];exact xbf _
 have h1:=h.ballots _ hm
 have h2:tot gs (i+1)=tot gs i+(gs.getD i ([],0)).2*1:=zcv _ gs hi
 have h3:wsum (fun _=>1) gs=tot gs (i+1)+wsum (fun _=>1) (gs.drop (i+1)):=by
  unfold tot
  rw[←zlf,xdh]
 have h4:=(zhi (n:=n) (gs:=gs.drop (i+1)) (fun x hx=>h.ballots x (xhq hx)) (f:=fun _=>1) (fun _=>by omega)).1
 have h5:=h.total
 have h6:=h.most
 unfold badG
 have c1:¬(gs.getD i ([],0)).2<1:=by omega
 have c2:¬100000-tot gs i<(gs.getD i ([],0)).2:=by omega
 simp only[c1,c2,h1.1,xax,xby,xaq,xbj]
 by_cases c3:0<i
 ·have h7:(gs.getD (i-1) ([],0)).1<(gs.getD i ([],0)).1:=by
   rw[zba gs _ hi,zba gs _ (by omega:i-1<gs.length)]
   exact xdt.1 h.sorted (i-1) i (by omega) hi (by omega)
  have c4:cmpL (gs.getD (i-1) ([],0)).1 (gs.getD i ([],0)).1=-1:=if_pos h7
  rw[c4]
  simp
 ·simp[c3]
theorem PileOK.sizes{n:Int}{gs:List Grp}{N:Int}(h:PileOK n gs N)(hn:n≤7):gs.length≤100000∧∀g∈gs,g.1.length≤7∧1≤g.2∧g.2≤100000:=by
 have h1:=zpt h.ballots
 have h2:=h.total
 have h3:=h.most
 refine⟨by omega,fun g hg=>?_⟩
 have h4:=zpu h.ballots g hg
 have h5:=h.ballots g hg
 exact⟨zhc h5.1 hn,by omega,by omega⟩
theorem PileOK.d124{n:Int}{gs:List Grp}{N:Int}(h:PileOK n gs N)(hn:n≤7):d124 n gs=some true:=by
 obtain⟨h1,h2⟩:=h.sizes hn
 rw[d124_eq hn (by omega) fun g hg=>by have:=h2 g hg;omega]
 rw[decide_eq_true h.good]
theorem PileOK.wide{n:Int}{gs:List Grp}{N:Int}(h:PileOK n gs N)(hn:n≤7):PileOK 7 gs N where
 ballots:=fun g hg=>by
  have:=h.ballots g hg
  exact⟨⟨this.1.1,fun x hx=>by have:=this.1.2 x hx;omega⟩,this.2⟩
 sorted:=h.sorted
 total:=h.total
 most:=h.most
theorem PileOK.d100{n:Int}{gs:List Grp}{N:Int}(h:PileOK n gs N)(hn:n≤7):d100 gs=some true:=by
 unfold Go.Proofs.YtmipjomnjkmdbaaGreat.d100
 rw[(h.wide hn).d124 (by omega)]
 rfl
theorem PileOK.part{n:Int}{gs:List Grp}{N:Int}(h:PileOK n gs N){f:List Int→Int}(hf:∀p,0≤f p∧f p≤1)(i:Nat):0≤wsum f (gs.take i)∧wsum f (gs.take i)≤100000:=by
 have h1:=zhi (n:=n) (gs:=gs.take i) (fun x hx=>h.ballots x (xcg hx)) hf
 have h2:=zhi (n:=n) (gs:=gs.drop i) (fun x hx=>h.ballots x (xhq hx)) (f:=fun _=>1) (fun _=>by omega)
 have h3:wsum (fun _=>1) gs=wsum (fun _=>1) (gs.take i)+wsum (fun _=>1) (gs.drop i):=by rw[←zlf,xdh]
 have h4:=h.total
 have h5:=h.most
 omega
def zar(p:List Int):Int:=if p=[]then 0 else 1
theorem PileOK.d52{n:Int}{gs:List Grp}{N:Int}(h:PileOK n gs N)(hn:n≤7):d52 gs=some (wsum zar gs):=by
 obtain⟨hl,hg⟩:=h.sizes hn
 have hf:∀p,0≤zar p∧zar p≤1:=fun p=>by unfold zar;split<;>omega
 unfold Go.Proofs.YtmipjomnjkmdbaaGreat.d52
 rw[h.d100 hn]
 simp only[xab,xaq,xaf]
 have:d104 gs (fun a=>d105 a)=some (wsum zar gs):=by
  unfold d104
  refine zae (b:=wsum zar gs) (fun i=>(fun a=>d105 a,wsum zar (gs.take i),gs,(gs.length:Int),(i:Int))) gs.length rfl (fun i hi=>?_) ?_ rfl
  ·have h2:(i:Int)<(gs.length:Int):=by omega
   have h3:(0:Int)≤(i:Int):=by omega
   have hw:w ((i:Int)+1)=((i+1:Nat):Int):=by rw[w_id (by omega) (by omega)];omega
   have e:=zcv zar gs hi
   have b0:=h.part hf i
   have b1:=h.part hf (i+1)
   simp only[h2,h3,hw,xax,xad,xai,xaj]
   obtain⟨g,hgd⟩:∃g,gs.getD i ([],0)=g:=⟨_,rfl⟩
   simp only[hgd]at e ⊢
   obtain⟨p,k⟩:=g
   unfold d105
   simp only at e ⊢
   match p with
   | []=>
    have h0:zar []=0:=by simp[zar]
    rw[h0]at e
    have hw2:w (wsum zar (gs.take i)+0)=wsum zar (gs.take (i+1)):=by rw[w_id (by omega) (by omega)];omega
    simp only[xgf,Int.ofNat_zero,xax,xad,xab,hw2]
   |y::p=>
    have h0:zar (y::p)=1:=by simp[zar]
    rw[h0]at e
    have h4:¬((((y::p).length:Nat):Int)=0):=by simp;omega
    have hw2:w (wsum zar (gs.take i)+k)=wsum zar (gs.take (i+1)):=by rw[w_id (by omega) (by omega)];omega
    simp only[h4,xby,xaf,xab,hw2]
  ·have h1:¬((gs.length:Int)<(gs.length:Int)):=by omega
   simp only[h1,xby,xaf,xbh]
 rw[this]
 rfl
end Go.Proofs.YtmipjomnjkmdbaaGreat
open Go Go.Proofs Go.X
namespace Go.Proofs.YtmipjomnjkmdbaaGreat
def rem(r:List Bool)(c:Int):Bool:=if c<(r.length:Int)then r.getD (Int.toNat c) false else false
theorem d102_eq(r:List Bool){c:Int}(hc:0≤c):d102 c r=some (rem r c):=by
 unfold d102 d103 rem
 by_cases h:c<(r.length:Int)
 ·simp only[h,hc,if_true,xax,xad,xai,xab]
 ·simp only[h,if_false,xby,xaf,xab]
theorem d101_on{s:List Int}{f:Int→Option Bool}{g:Int→Bool}(hf:∀c∈s,f c=some (g c))(hs:s.length≤281474976710656):d101 s f=some (if zah g s<s.length then(zah g s:Int)else -1):=by
 have hle:=zfi g s
 unfold d101
 have hstep:∀i,i<zah g s→w ((i:Int)+1)=((i+1:Nat):Int):=fun i hi=>by rw[w_id (by omega) (by omega)];omega
 have hfi:∀i,i<s.length→f (s.getD i 0)=some (g (s.getD i 0)):=fun i hi=>by rw[zba s 0 hi];exact hf _ (xbf _)
 by_cases h:zah g s<s.length
 ·have hat:=zej _ s h
  refine zae (b:=.inr (zah g s:Int)) (fun i=>(s,f,(s.length:Int),(i:Int))) (zah g s) rfl ?_ ?_ (by simp[h])
  ·intro i hi
   have h1:=zdb g s i hi
   have h2:(i:Int)<(s.length:Int):=by omega
   have h3:(0:Int)≤(i:Int):=by omega
   simp only[h2,h3,xax,xad,xai,xaj,hfi i (by omega),h1,xab,hstep i hi,xaf]
  ·have h2:(zah g s:Int)<(s.length:Int):=by omega
   have h3:(0:Int)≤(zah g s:Int):=by omega
   simp only[h2,h3,xax,xad,xai,xaj,hfi _ h,hat,xab]
 ·refine zae (b:=.inl ()) (fun i=>(s,f,(s.length:Int),(i:Int))) s.length rfl ?_ ?_ (by simp[h])
  ·intro i hi
   have h1:=zdb g s i (by omega)
   have h2:(i:Int)<(s.length:Int):=by omega
   have h3:(0:Int)≤(i:Int):=by omega
   simp only[h2,h3,xax,xad,xai,xaj,hfi i (by omega),h1,xab,hstep i (by omega),xaf]
  ·simp
def zge(r:List Bool)(c:Int)(p:List Int):Int:=if zah (rem r) p<p.length∧p.getD (zah (rem r) p) 0=c then 1 else 0
def zbr(r:List Bool)(gs:List Grp):List Int:=(List.range r.length).map fun(c:Nat)=>wsum (zge r (c:Int)) gs
theorem zlv(r:List Bool)(gs:List Grp):(zbr r gs).length=r.length:=by simp[zbr]
theorem votesAt_get(r:List Bool)(gs:List Grp){c:Nat}(h:c<r.length):(zbr r gs).getD c 0=wsum (zge r (c:Int)) gs:=by
 rw[zba _ _ (by rw[zlv];exact h)]
 simp[zbr]
def zfz(r:List Bool)(p:List Int):Int:=if zah (rem r) p<p.length then 0 else 1
theorem PileOK.d50{n:Int}{gs:List Grp}{N:Int}(h:PileOK n gs N)(hn:n≤7){r:List Bool}(hr:r.length≤7):d50 gs r=some (zbr r gs,wsum (zfz r) gs):=by
 obtain⟨hl,hg⟩:=h.sizes hn
 have hf:∀c p,0≤zge r c p∧zge r c p≤1:=fun c p=>by unfold zge;split<;>omega
 have hf0:∀p,0≤zfz r p∧zfz r p≤1:=fun p=>by unfold zfz;split<;>omega
 unfold Go.Proofs.YtmipjomnjkmdbaaGreat.d50
 rw[h.d100 hn]
 have hr1:¬(7:Int)<(r.length:Int):=by omega
 have hr2:(r.length:Int)≤LIM:=by rw[zez];omega
 have hr3:(0:Int)≤(r.length:Int):=by omega
 simp only[xab,xaq,xao,xad,hr1,hr2,hr3,xax,xby,letJ,xaf,xai,xaj]
 refine zae (b:=(zbr r gs,wsum (zfz r) gs)) (fun i=>(r,zbr r (gs.take i),wsum (zfz r) (gs.take i),gs,(gs.length:Int),(i:Int))) gs.length ?_ (fun i hi=>?_) ?_ rfl
 ·have:zbr r (gs.take 0)=List.replicate r.length 0:=by
   apply List.ext_getElem
   ·simp[zbr]
   ·intro i h1 h2
    simp[zbr,wsum]
  simp only[this]
  rfl
 ·have h2:(i:Int)<(gs.length:Int):=by omega
  have h3:(0:Int)≤(i:Int):=by omega
  have hw:w ((i:Int)+1)=((i+1:Nat):Int):=by rw[w_id (by omega) (by omega)];omega
  have e:∀f,wsum f (gs.take (i+1))=wsum f (gs.take i)+(gs.getD i ([],0)).2*f (gs.getD i ([],0)).1:=fun f=>zcv f gs hi
  have b0:=h.part hf0 i
  have b1:=h.part hf0 (i+1)
  have b2:=fun c=>h.part (hf c) i
  have b3:=fun c=>h.part (hf c) (i+1)
  have hm:gs.getD i ([],0)∈gs:=by rw[zba gs _ hi];exact xbf _
  have hgl:=(hg _ hm).1
  have hgb:=(h.ballots _ hm).1
  simp only[h2,h3,hw,xax,xad,xai,xaj]
  obtain⟨g,hgd⟩:∃g,gs.getD i ([],0)=g:=⟨_,rfl⟩
  simp only[hgd]at e hgl hgb ⊢
  obtain⟨p,k⟩:=g
  simp only at e hgl hgb ⊢
  rw[d101_on (g:=rem r) (fun c hc=>d102_eq r (hgb.2 c hc).1) (by omega)]
  simp only[xab]
  by_cases c1:zah (rem r) p<p.length
  ·have hx:=zej (rem r) p c1
   have c2:¬(zah (rem r) p:Int)<0:=by omega
   have c3:(0:Int)≤(zah (rem r) p:Int):=by omega
   have c4:(zah (rem r) p:Int)<(p.length:Int):=by omega
   have hxm:p.getD (zah (rem r) p) 0∈p:=by rw[zba p 0 c1];exact xbf _
   have hx0:=(hgb.2 _ hxm).1
   simp only[c1,c2,c3,c4,if_true,xax,xby,xad,xaf,xai,xaj]
   have ht:∀c,zge r c p=if p.getD (zah (rem r) p) 0=c then 1 else 0:=fun c=>by unfold zge;simp only[c1,true_and]
   have hn0:zfz r p=0:=by unfold zfz;rw[if_pos c1]
   generalize p.getD (zah (rem r) p) 0=x at *
   have hxr:x<(r.length:Int):=by
    unfold rem at hx
    split at hx
    ·assumption
    ·cases hx
   have hv:(zbr r (gs.take i)).getD (Int.toNat x) 0=wsum (zge r x) (gs.take i):=by
    rw[votesAt_get r _ (by omega),show((Int.toNat x:Nat):Int)=x by omega]
   have ex:=e (zge r x)
   rw[ht x,if_pos rfl]at ex
   have bx0:=b2 x
   have bx1:=b3 x
   have hw2:w (wsum (zge r x) (gs.take i)+k)=wsum (zge r x) (gs.take (i+1)):=by rw[w_id (by omega) (by omega)];omega
   have hset:(zbr r (gs.take i)).set (Int.toNat x) (wsum (zge r x) (gs.take (i+1)))=zbr r (gs.take (i+1)):=by
    apply List.ext_getElem
    ·simp[zbr]
    ·intro j h1 h2
     rw[List.getElem_set]
     by_cases hj:Int.toNat x=j
     ·rw[if_pos hj]
      simp only[zbr,List.getElem_map,List.getElem_range]
      rw[show(j:Int)=x by omega]
     ·rw[if_neg hj]
      simp only[zbr,List.getElem_map,List.getElem_range]
      have ej:=e (zge r (j:Int))
      rw[ht (j:Int),if_neg (by omega)]at ej
      omega
   have e0:=e (zfz r)
   rw[hn0]at e0
   have e0':wsum (zfz r) (gs.take (i+1))=wsum (zfz r) (gs.take i):=by omega
   simp only[zlv,hx0,hxr,xax,xad,xai,hv,hw2,hset,e0']
  ·have c2:(-1:Int)<0:=by omega
   have hn1:zfz r p=1:=by unfold zfz;rw[if_neg c1]
   have e0:=e (zfz r)
   rw[hn1]at e0
   have hw2:w (wsum (zfz r) (gs.take i)+k)=wsum (zfz r) (gs.take (i+1)):=by rw[w_id (by omega) (by omega)];omega
   have hv:zbr r (gs.take (i+1))=zbr r (gs.take i):=by
    unfold zbr
    refine xdo fun c _=>?_
    have ec:=e (zge r (c:Int))
    have:zge r (c:Int) p=0:=by unfold zge;simp only[c1,false_and,if_false]
    rw[this]at ec
    omega
   simp only[c1,c2,if_false,xax,xad,hw2,hv]
 ·have h1:¬((gs.length:Int)<(gs.length:Int)):=by omega
  simp only[h1,xby,xaf,xbh]
theorem znu{f g:List Int→Int}:∀{gs:List Grp},(∀x∈gs,f x.1=g x.1)→wsum f gs=wsum g gs
 | [],_=>rfl
 |a::gs,h=>by
  unfold wsum
  rw[h a (by simp),znu fun x hx=>h x (xah _ hx)]
end Go.Proofs.YtmipjomnjkmdbaaGreat
open Go Go.Proofs Go.X
namespace Go.Proofs.YtmipjomnjkmdbaaGreat
theorem wt_part{l:List Int}(h:WT (.slice (.int .i64)) l)(k:Nat):WT (.slice (.int .i64)) (l.take k):=⟨by have:=h.1;simp;omega,fun x hx=>h.2 x (xcg hx)⟩
theorem bal_isB{n:Int}(hn:0<n)(l:List Int):isB n (bal n l):=⟨zju n l _,fun x hx=>outs_in hn l _ x hx⟩
def balF(n:Int)(x:List Int):List Int:=bal n (x.take 12)
def bals(n:Int)(l:List (List Int))(most:Nat):List (List Int):=(l.take most).map (balF n)
theorem lim_small{α:Type}(l:List α)(z:α)(h:l.length≤1000000):((l.length:Int)+(([z]:List α).length:Int)≤LIM):=by rw[zez];simp;omega
theorem d46_eq{n:Int}(hn:0<n)(hn':n≤7){l:List (List Int)}(hl:l.length≤281474976710656)(hw:∀x∈l,WT (.slice (.int .i64)) x){most:Nat}(hm:most≤100):d46 n l (most:Int)=some (bals n l most):=by
 unfold d46
 refine zae (b:=bals n l most) (fun i=>(n,l,(most:Int),(l.take i).map (balF n),(i:Int))) (min l.length most) rfl (fun i hi=>?_) ?_ rfl
 ·have h1:(i:Int)<(l.length:Int):=by omega
  have h2:(i:Int)<(most:Int):=by omega
  have h3:(0:Int)≤(i:Int):=by omega
  have hwi:w ((i:Int)+1)=((i+1:Nat):Int):=by rw[w_id (by omega) (by omega)];omega
  have hx:=hw (l.getD i []) (by rw[zba l [] (by omega)];exact xbf _)
  have ht:=zfr l [] (by omega:i<l.length)
  simp only[h1,h2,h3,hwi,letJ,xax,xad,xai,xaj]
  obtain⟨x,hxd⟩:∃x,l.getD i []=x:=⟨_,rfl⟩
  simp only[hxd]at hx ht ⊢
  have hc:zck 0 (bif decide (12<(x.length:Int))then 12 else(x.length:Int)) x.length=true∧List.drop 0 (List.take (Int.toNat (bif decide (12<(x.length:Int))then 12 else(x.length:Int))) x)=x.take 12:=by
   by_cases c:12<x.length
   ·have c':(12:Int)<(x.length:Int):=by omega
    simp only[c',xax,xad,xgv]
    exact⟨zkf (i:=12) (by omega),rfl⟩
   ·have c':¬(12:Int)<(x.length:Int):=by omega
    simp only[c',xby,xaf,xgv,xaj]
    exact⟨zkf (Nat.le_refl _),by rw[xaz (Nat.le_refl _),xaz (by omega)]⟩
  rw[hc.1,hc.2,d99_eq hn (by omega) (wt_part hx 12)]
  have hlim:=lim_small ((l.take i).map (balF n)) (bal n (x.take 12)) (by simp;omega)
  simp only[xad,xab,hlim,xax,ht,xcb,xcx,xgo]
  rfl
 ·have hb:(l.take (min l.length most)).map (balF n)=bals n l most:=by
   unfold bals
   congr 1
   by_cases c:l.length≤most
   ·rw[xeu c,xaz (Nat.le_refl _),xaz c]
   ·rw[Nat.min_eq_right (by omega)]
  simp only[letJ,hb]
  by_cases c:l.length≤most
  ·have h1:¬((min l.length most:Nat):Int)<(l.length:Int):=by omega
   simp only[h1,xby,xaf]
  ·have h1:((min l.length most:Nat):Int)<(l.length:Int):=by omega
   have h2:¬((min l.length most:Nat):Int)<(most:Int):=by omega
   simp only[h1,h2,xax,xby,xad,xaf]
theorem bals_isB{n:Int}(hn:0<n){l:List (List Int)}{most:Nat}:∀b∈bals n l most,isB n b:=fun b hb=>by
 obtain⟨x,_,rfl⟩:=xcw.1 hb
 exact bal_isB hn _
theorem bals_len{n:Int}{l:List (List Int)}{most:Nat}:(bals n l most).length≤most:=by simp[bals];omega
def zdk(bs:List (List Int)):List Grp:=bs.foldl (fun gs b=>addG gs b 1) []
def bsum(f:List Int→Int):List (List Int)→Int
 | []=>0
 |b::bs=>f b+bsum f bs
theorem bsum_app(f:List Int→Int):∀a b,bsum f (a++b)=bsum f a+bsum f b
 | [],b=>by simp[bsum]
 |x::a,b=>by have:=bsum_app f a b;simp only[xbz,bsum,this];omega
theorem zmp(bs:List (List Int))(b:List Int):zdk (bs++[b])=addG (zdk bs) b 1:=by simp[zdk]
theorem zmq{n:Int}(bs:List (List Int))(hb:∀b∈bs,isB n b)(hl:bs.length≤100000):PileOK n (zdk bs) (bs.length:Int)∧∀f,wsum f (zdk bs)=bsum f bs:=by
 have key:∀k,k≤bs.length→PileOK n (zdk (bs.take k)) (k:Int)∧∀f,wsum f (zdk (bs.take k))=bsum f (bs.take k):=by
  intro k
  induction k with
  |zero=>intro _;exact⟨PileOK.nil n,fun f=>rfl⟩
  |succ k ih=>
   intro hk
   obtain⟨h1,h2⟩:=ih (by omega)
   have ht:=zfr bs [] (by omega:k<bs.length)
   have hm:=hb (bs.getD k []) (by rw[zba bs [] (by omega)];exact xbf _)
   rw[ht,zmp]
   refine⟨?_,fun f=>by rw[zih,h2 f,bsum_app];simp[bsum]⟩
   have:=h1.add hm (by omega)
   rwa[show(k:Int)+1=((k+1:Nat):Int) by omega]at this
 have:=key bs.length (Nat.le_refl _)
 rwa[xbh]at this
theorem d48_eq{n:Int}(h1:1≤n)(hn:n≤7){bs:List (List Int)}(hb:∀b∈bs,isB n b)(hl:bs.length≤100000):d48 n bs=some (zdk bs,0):=by
 unfold d48 letJ
 have c1:¬n<1:=by omega
 have c2:¬7<n:=by omega
 have c3:¬(100000:Int)<(bs.length:Int):=by omega
 simp only[c1,c2,c3,xby,xao,xad,xaf]
 refine zae (b:=.inl (zdk bs)) (fun i=>(n,bs,zdk (bs.take i),(i:Int))) bs.length rfl (fun i hi=>?_) ?_ rfl
 ·have h2:(i:Int)<(bs.length:Int):=by omega
  have h3:(0:Int)≤(i:Int):=by omega
  have hwi:w ((i:Int)+1)=((i+1:Nat):Int):=by rw[w_id (by omega) (by omega)];omega
  have hm:=hb (bs.getD i []) (by rw[zba bs [] hi];exact xbf _)
  have hbl:=zhc hm hn
  have ht:=zfr bs [] hi
  have hp:=(zmq (bs.take i) (fun b h=>hb b (xcg h)) (by simp;omega)).1
  simp only[h2,h3,hwi,xax,xad,xai,xaj,ht,zmp]
  obtain⟨x,hxd⟩:∃x,bs.getD i []=x:=⟨_,rfl⟩
  simp only[hxd]at hm hbl ⊢
  have hlim:(([]:List Int).length:Int)+(x.length:Int)≤LIM:=by rw[zez];simp;omega
  rw[d32_eq n (by omega),hp.d98 hn hm]
  simp only[hm,hlim,xax,xad,xaq,xaf,xab]
 ·have h1:¬((bs.length:Int)<(bs.length:Int)):=by omega
  simp only[h1,xby,xaf,xbh]
theorem d26_eq{n:Int}(h1:1≤n)(hn:n≤7){l:List (List Int)}(hl:l.length≤281474976710656)(hw:∀x∈l,WT (.slice (.int .i64)) x){most:Nat}(hm:most≤100):d26 n l (most:Int)=some (zdk (bals n l most)):=by
 have hbl:=bals_len (n:=n) (l:=l) (most:=most)
 unfold d26
 rw[d46_eq (by omega) hn hl hw hm]
 simp only[xab]
 rw[d48_eq h1 hn (bals_isB (by omega)) (by omega)]
 rfl
end Go.Proofs.YtmipjomnjkmdbaaGreat
open Go Go.Proofs Go.X
namespace Go.Proofs.YtmipjomnjkmdbaaGreat
def GsOK(gs:List Grp):Prop:=gs.length≤281474976710656∧∀g∈gs,g.1.length≤281474976710656∧-9223372036854775808≤g.2∧g.2≤9223372036854775807
def goodP(n:Int)(gs:List Grp):Bool:=decide (∀i,i<gs.length→badG n gs i=false)
def zpv(n:Int)(gs:List Grp):Bool:=decide (1≤n∧n≤7)&&goodP n gs
theorem cmpL_lt(a b:List Int):decide (0≤cmpL a b)=!decide (a<b):=by
 unfold cmpL
 by_cases h:a<b
 ·simp[h]
 ·by_cases h':b<a
  ·simp[h,h']
  ·simp[h,h']
theorem good_tot{n:Int}{gs:List Grp}(h:∀i,i<gs.length→badG n gs i=false):PileOK n gs (wsum (fun _=>1) gs) where
 ballots:=fun g hg=>by
  obtain⟨i,hi,rfl⟩:=xbv hg
  have:=h i hi
  unfold badG at this
  rw[zba gs _ hi]at this
  simp only[xbx,xav,xet,xag]at this
  exact⟨this.2.2.1,by omega⟩
 sorted:=by
  have step:∀i,i+1<gs.length→(gs.getD i ([],0)).1<(gs.getD (i+1) ([],0)).1:=fun i hi=>by
   have:=h (i+1) hi
   unfold badG at this
   simp only[xbx]at this
   have:=this.2.2.2
   rw[cmpL_lt]at this
   simpa using this
  refine xdt.2 fun i j hi hj hij=>?_
  have key:∀k,i+k+1<gs.length→(gs.getD i ([],0)).1<(gs.getD (i+k+1) ([],0)).1:=by
   intro k
   induction k with
   |zero=>intro hk;exact step i hk
   |succ k ih=>
    intro hk
    exact ziz (ih (by omega)) (step (i+k+1) (by omega))
  have:=key (j-i-1) (by omega)
  rw[show i+(j-i-1)+1=j by omega,zba gs _ hi,zba gs _ hj]at this
  exact this
 total:=rfl
 most:=by
  have:=(zjp (n:=n) (gs:=gs) (i:=gs.length) (Nat.le_refl _) fun j hj=>h j hj).2
  unfold tot at this
  rwa[xbh]at this
theorem pileB_ok{n:Int}{gs:List Grp}(h:zpv n gs=true):1≤n∧n≤7∧PileOK n gs (wsum (fun _=>1) gs):=by
 unfold zpv at h
 simp only[xae,xag]at h
 exact⟨h.1.1,h.1.2,good_tot (of_decide_eq_true h.2)⟩
theorem PileOK.gs{n:Int}{gs:List Grp}{N:Int}(h:PileOK n gs N)(hn:n≤7):GsOK gs:=by
 obtain⟨h1,h2⟩:=h.sizes hn
 exact⟨by omega,fun g hg=>by have:=h2 g hg;omega⟩
end Go.Proofs.YtmipjomnjkmdbaaGreat
namespace Go.Proofs.YtmipjomnjkmdbaaGreat
open Go Go.X
def nv:List Int→Nat
 | []=>0
 |x::l=>x.toNat+4294967296*nv l
def IsL(l:List Int):Prop:=∀x∈l,0≤x∧x<4294967296
def NF(l:List Int):Prop:=IsL l∧l.getLast?≠some 0
theorem IsL.nil:IsL []:=fun _ h=>absurd h (by simp)
theorem IsL.cons{x:Int}{l:List Int}(h0:0≤x)(h1:x<4294967296)(h:IsL l):IsL (x::l):=fun y hy=>by
 rcases xat.1 hy with rfl|hy
 ·exact⟨h0,h1⟩
 ·exact h y hy
theorem IsL.tail{x:Int}{l:List Int}(h:IsL (x::l)):IsL l:=fun y hy=>h y (xah _ hy)
theorem IsL.head{x:Int}{l:List Int}(h:IsL (x::l)):0≤x∧x<4294967296:=h x xcd
theorem IsL.take{l:List Int}(h:IsL l)(k:Nat):IsL (l.take k):=fun y hy=>h y (xcg hy)
theorem IsL.getD{l:List Int}(h:IsL l)(i:Nat):0≤l.getD i 0∧l.getD i 0<4294967296:=by
 rw[xac]
 cases hi:l[i]? with
 |none=>simp
 |some x=>
  obtain⟨h1,h2⟩:=xdu.1 hi
  exact h x (h2▸xbf h1)
theorem IsL.set{l:List Int}(h:IsL l)(i:Nat){x:Int}(h0:0≤x)(h1:x<4294967296):IsL (l.set i x):=fun y hy=>by
 rcases List.mem_or_eq_of_mem_set hy with hy|rfl
 ·exact h y hy
 ·exact⟨h0,h1⟩
theorem IsL.zeros(n:Nat):IsL (List.replicate n 0):=fun y hy=>by rw[xel hy];omega
theorem ziq:∀(a b:List Int),nv (a++b)=nv a+4294967296^a.length*nv b
 | [],b=>by simp[nv]
 |x::a,b=>by
  simp only[xbz,nv,ziq a b,xay,xbp]
  generalize 4294967296^a.length=P
  rw[xce,xch,←xbi,xbm P 4294967296]
theorem zdn:∀n:Nat,nv (List.replicate n 0)=0
 | 0=>rfl
 |n+1=>by simp[List.replicate_succ,nv,zdn n]
theorem zpx:∀{l:List Int},IsL l→nv l<4294967296^l.length
 | [],_=>by simp[nv]
 |x::l,h=>by
  have ih:=zpx h.tail
  have hx:=h.head
  simp only[nv,xay,xbp]
  generalize 4294967296^l.length=P at *
  have:x.toNat<4294967296:=by omega
  omega
theorem NF.tail{x:Int}{l:List Int}(h:NF (x::l)):NF l:=⟨h.1.tail,fun he=>h.2 (by
 cases l with
 |nil=>simp at he
 |cons y l=>rw[List.getLast?_cons_cons];exact he)⟩
theorem NF.nil:NF []:=⟨IsL.nil,by simp⟩
theorem NF.pos:∀{l:List Int},NF l→l≠ []→0<nv l
 | [],_,h=>absurd rfl h
 | [x],h,_=>by
  have hx:=h.1.head
  have:x≠0:=fun e=>h.2 (by simp[e])
  simp only[nv];omega
 |x::y::l,h,_=>by
  have:=NF.pos h.tail (by simp)
  simp only[nv]at this ⊢;omega
theorem nv_inj:∀{a b:List Int},NF a→NF b→nv a=nv b→a=b
 | [],[],_,_,_=>rfl
 | [],y::b,_,hb,h=>absurd (NF.pos hb (by simp)) (by rw[←h];simp[nv])
 |x::a,[],ha,_,h=>absurd (NF.pos ha (by simp)) (by rw[h];simp[nv])
 |x::a,y::b,ha,hb,h=>by
  have hx:=ha.1.head
  have hy:=hb.1.head
  simp only[nv]at h
  have h1:nv a=nv b:=by omega
  have h2:x=y:=by omega
  rw[h2,nv_inj ha.tail hb.tail h1]
def zaq(n:Nat):List Int:=if h:n=0 then []else((n%4294967296:Nat):Int)::zaq (n/4294967296)
 termination_by n
 decreasing_by exact Nat.div_lt_self (xeq h) (by omega)
theorem zda:zaq 0=[]:=by rw[zaq];simp
theorem ziy{n:Nat}(h:n≠0):zaq n=((n%4294967296:Nat):Int)::zaq (n/4294967296):=by rw[zaq];simp[h]
theorem zqb(n:Nat):NF (zaq n)∧nv (zaq n)=n:=by
 induction n using Nat.strongRecOn with
 |_ n ih=>
  by_cases h:n=0
  ·subst h;rw[zda];exact⟨NF.nil,rfl⟩
  ·have⟨h1,h2⟩:=ih (n/4294967296) (Nat.div_lt_self (by omega) (by omega))
   rw[ziy h]
   refine⟨⟨h1.1.cons (by omega) (by omega),?_⟩,?_⟩
   ·cases hl:zaq (n/4294967296)with
    |nil=>
     rw[hl]at h2
     simp only[nv]at h2
     simp only[List.getLast?_singleton,ne_eq,xal]
     omega
    |cons y l=>
     rw[List.getLast?_cons_cons,←hl]
     exact h1.2
   ·simp only[nv,h2];omega
theorem zjm(n:Nat):NF (zaq n):=(zqb n).1
theorem zal(n:Nat):IsL (zaq n):=(zqb n).1.1
theorem zaw(n:Nat):nv (zaq n)=n:=(zqb n).2
theorem limbs_nv{l:List Int}(h:NF l):zaq (nv l)=l:=nv_inj (zjm _) h (zaw _)
theorem limbs_nil{n:Nat}:zaq n=[]↔n=0:=⟨fun h=>by rw[←zaw n,h];rfl,fun h=>by rw[h,zda]⟩
theorem zgd{n:Nat}:0<(zaq n).length↔0<n:=by
 rw[xct,ne_eq,limbs_nil];omega
theorem zat(n:Nat):∀k:Nat,(zaq n).length≤k↔n<4294967296^k:=by
 induction n using Nat.strongRecOn with
 |_ n ih=>
  intro k
  by_cases h:n=0
  ·subst h;rw[zda];simp;exact xfn (by omega)
  ·rw[ziy h,xay]
   cases k with
   |zero=>simp;omega
   |succ k=>
    have:=ih (n/4294967296) (Nat.div_lt_self (by omega) (by omega)) k
    rw[Nat.succ_le_succ_iff,this,xbp]
    exact xdw (by omega)
theorem take_snoc(l:List Int){n:Nat}(h:n<l.length):l.take (n+1)=l.take n++[l.getD n 0]:=by
 rw[xfa,xac,xak h];rfl
theorem take_tlen{l:List Int}(h:IsL l):∀n,n≤l.length→l.take (tlen l n)=zaq (nv (l.take n))
 | 0,_=>by simp[tlen,nv,zda]
 |n+1,hn=>by
  have ih:=take_tlen h n (by omega)
  have hs:=take_snoc l (n:=n) (by omega)
  unfold tlen
  split
  ·rename_i h0
   rw[ih,hs,ziq,h0];simp[nv]
  ·rename_i h0
   refine(limbs_nv ⟨h.take _,?_⟩).symm
   rw[hs,List.getLast?_append];simp;exact h0
theorem take_tl{l:List Int}(h:IsL l):l.take (tlen l l.length)=zaq (nv l):=by
 have:=take_tlen h l.length (Nat.le_refl _)
 rwa[xbh]at this
theorem tlen_eq{l:List Int}(h:IsL l):tlen l l.length=(zaq (nv l)).length:=by
 have:=xbb List.length (take_tl h)
 rw[xau,xeu (tlen_le _ _)]at this
 exact this
theorem limbs_le{l:List Int}(h:IsL l):(zaq (nv l)).length≤l.length:=by rw[←tlen_eq h];exact tlen_le _ _
theorem digit_low{U V W top s t u0 z q r h:Nat}(hV:V=(h*4294967296+s)*W+t)(hU:U=(top*4294967296+u0)*W+z)(hz:z<W)(hq:q*h+r=top)(hc:r*4294967296+u0<q*s):U<q*V:=by
 have h1:(top*4294967296+u0)+1≤q*(h*4294967296+s):=by
  rw[←hq,xce,xbq,←xbi];omega
 have h2:=xam W h1
 rw[xbq,Nat.one_mul]at h2
 rw[hV,xce,←xbi,hU]
 omega
theorem zou{U V W top s t u0 z q r h:Nat}(hV:V=(h*4294967296+s)*W+t)(hU:U=(top*4294967296+u0)*W+z)(ht:t<W)(hh:1≤h)(hq:q*h+r=top)(hq2:q<4294967296)(hc:q*s≤r*4294967296+u0):q*V<U+V:=by
 have h1:q*(h*4294967296+s)≤top*4294967296+u0:=by
  rw[←hq,xce,xbq,←xbi];omega
 have h2:=xam W h1
 have h3:q*t≤4294967296*W:=Nat.mul_le_mul (by omega) (by omega)
 have h4:q*t<4294967296*W:=by
  rcases xcc q with h0|h0
  ·subst h0;rw[xem];omega
  ·exact xap (Nat.mul_lt_mul_of_pos_left ht h0) (xam _ (by omega))
 have h5:4294967296*W≤V:=by
  rw[hV]
  have:4294967296*W≤(h*4294967296+s)*W:=xam _ (by omega)
  omega
 have h6:q*V=q*(h*4294967296+s)*W+q*t:=by rw[hV,xce,←xbi]
 omega
end Go.Proofs.YtmipjomnjkmdbaaGreat
namespace Go.Proofs.YtmipjomnjkmdbaaGreat
open Go Go.X
theorem zpf(i:Nat):0<4294967296^i:=xfn (by decide)
theorem nv_split(l:List Int)(i:Nat)(h:i≤l.length):nv l=nv (l.take i)+4294967296^i*nv (l.drop i):=by
 have:=ziq (l.take i) (l.drop i)
 rw[xdh,xau,xeu h]at this
 exact this
theorem nv_drop{l:List Int}(hl:IsL l){i:Nat}(h:i≤l.length):nv (l.drop i)=nv l/4294967296^i:=by
 have h1:=zpx (hl.take i)
 rw[xau,xeu h]at h1
 rw[nv_split l i h,xho _ _ (zpf i),xdz h1,Nat.zero_add]
theorem znf(l:List Int){i:Nat}(h:i<l.length):l.drop i=l.getD i 0::l.drop (i+1):=by
 rw[xac,xak h]
 exact List.drop_eq_getElem_cons h
theorem zfc{l:List Int}(hl:IsL l)(i:Nat):l.getD i 0=((nv l/4294967296^i%4294967296:Nat):Int):=by
 by_cases h:i<l.length
 ·have h1:=nv_drop hl (xfq h)
  rw[znf l h]at h1
  simp only[nv]at h1
  have h2:=hl.getD i
  rw[←h1]
  omega
 ·have h1:=zpx hl
  rw[xac,xcl (by omega)]
  have h2:nv l<4294967296^i:=xap h1 (xfx (by decide) (by omega))
  rw[xdz h2]
  rfl
theorem zip:∀(l:List Int) (i:Nat) (x:Int),i<l.length→nv (l.set i x)+4294967296^i*(l.getD i 0).toNat=nv l+4294967296^i*x.toNat
 | [],i,x,h=>by simp at h
 |y::l,0,x,h=>by simp[nv];omega
 |y::l,i+1,x,h=>by
  have ih:=zip l i x (by simpa using h)
  simp only[List.set_cons_succ,nv,xgh,xbp]
  generalize hP:4294967296^i=P at ih ⊢
  generalize(l.getD i 0).toNat=c at ih ⊢
  generalize x.toNat=e at ih ⊢
  have e1:P*4294967296*c=4294967296*(P*c):=by rw[xbm P 4294967296,xbi]
  have e2:P*4294967296*e=4294967296*(P*e):=by rw[xbm P 4294967296,xbi]
  rw[e1,e2]
  omega
theorem zjw{l:List Int}(hl:IsL l){i:Nat}(x:Int)(h:i<l.length)(h0:nv l<4294967296^i):nv (l.set i x)=nv l+4294967296^i*x.toNat:=by
 have h1:=zip l i x h
 rw[zfc hl,xdz h0]at h1
 simpa using h1
theorem zbu{n:Nat}(h:n≤4294967296):decide ((n:Int)≤LIM)=true:=by
 rw[zez];exact decide_eq_true (by omega)
theorem zbx{l:List Int}(h:IsL l):l.take (zao l)=zaq (nv l):=take_tl h
theorem zbj{l:List Int}(h:IsL l):(zaq (nv l)).length≤l.length:=limbs_le h
theorem zbl{n:Int}(h0:0≤n)(h1:n<18446744073709551616):wu64 n=n:=by
 show IntKind.u64.wrap n=n
 simp[IntKind.wrap,IntKind.bits,IntKind.signed];omega
theorem zif(n:Int):wu32 n=n%4294967296:=by
 show IntKind.u32.wrap n=_
 simp[IntKind.wrap,IntKind.bits,IntKind.signed]
theorem wu64_mod(n:Int):wu64 n=n%18446744073709551616:=by
 show IntKind.u64.wrap n=_
 simp[IntKind.wrap,IntKind.bits,IntKind.signed]
theorem zbf{n:Int}(h0:-9223372036854775808≤n)(h1:n≤9223372036854775807):w n=n:=IntWalk.i64_in n ⟨h0,h1⟩
theorem sh32(n:Int):Int.fdiv n (2^(min (Int.toNat 32) 64))=n/4294967296:=by
 show Int.fdiv n 4294967296=_
 exact xgn n (by decide)
theorem zan{α β R:Type}(f:α→β)(g:(α→β)→Option R):letJ f g=g f:=by
 cases h:letJ f g
 ·exact h.symm
 ·exact h.symm
theorem zbw{α β γ:Type}{f:α→Option (α⊕β)}{k:β→Option γ}{a0:α}{Q:Option γ→Prop}(R:Nat→α→Prop)(n:Nat)(h0:R 0 a0)(hs:∀i a,i<n→R i a→∃a',f a=some (.inl a')∧R (i+1) a')(he:∀a,R n a→∃b,f a=some (.inr b)∧Q (k b)):Q ((zaa f a0).bind k):=by
 have key:∀m i a,i+m=n→R i a→∃b,zaa f a=some b∧Q (k b):=by
  intro m
  induction m with
  |zero=>
   intro i a hi hr
   obtain rfl:i=n:=by omega
   obtain⟨b,h1,h2⟩:=he a hr
   exact⟨b,zef h1,h2⟩
  |succ m ih=>
   intro i a hi hr
   obtain⟨a',h1,h2⟩:=hs i a (by omega) hr
   obtain⟨b,h3,h4⟩:=ih (i+1) a' (by omega) h2
   exact⟨b,zhj h1 h3,h4⟩
 obtain⟨b,h1,h2⟩:=key n 0 a0 (by omega) h0
 rw[h1]
 exact h2
end Go.Proofs.YtmipjomnjkmdbaaGreat
namespace Go.Proofs.YtmipjomnjkmdbaaGreat
open Go Go.X
theorem d173_eq{xs:List Int}(h:xs.length≤4294967296):d173 xs=some xs:=by
 unfold d173;rw[zbu h];rfl
theorem zgj{a:List Int}(ha:IsL a)(h:a.length≤4294967296):d171 a=some (zaq (nv a)):=by
 unfold d171
 have:=zbj ha
 rw[zbu h,xad,xab,zbx ha,d173_eq (by omega)]
 rfl
theorem zni{n:Int}(h0:0≤n)(h1:n<18446744073709551616):d129 n=some (zaq n.toNat):=by
 unfold d129
 have e1:wu32 n=n%4294967296:=zif n
 have e2:wu32 (wu64 (Int.fdiv n (2^(min (Int.toNat 32) 64))))=n/4294967296:=by
  rw[sh32,zbl (by omega) (by omega),zif]
  omega
 rw[e1,e2]
 have hL:IsL [n%4294967296,n/4294967296]:=IsL.cons (by omega) (by omega) (IsL.cons (by omega) (by omega) IsL.nil)
 rw[zgj hL (by simp)]
 have:nv [n%4294967296,n/4294967296]=n.toNat:=by simp only[nv];omega
 rw[this]
 rfl
theorem d217_eq{a:List Int}(ha:IsL a){i:Int}(h0:0≤i):d217 a i=some (a.getD i.toNat 0):=by
 unfold d217
 have hg:=ha.getD i.toNat
 by_cases h:i<(a.length:Int)
 ·simp only[h,h0,xax,xad,xai]
  rw[zbl hg.1 (by omega)]
 ·simp only[h,xby,xaf]
  rw[xac,xcl (by omega)]
  rfl
theorem zgi{a:List Int}(ha:IsL a)(i:Nat):d217 a (i:Int)=some (a.getD i 0):=by
 rw[d217_eq ha (by omega)];rfl
def cmpN(x y:Nat):Int:=if x<y then -1 else if y<x then 1 else 0
theorem zgz{l:List Int}{k:Nat}(h:k<l.length):nv (l.take (k+1))=nv (l.take k)+4294967296^k*(l.getD k 0).toNat:=by
 rw[take_snoc l h,ziq,xau,xeu (by omega)]
 simp[nv]
theorem top_lt{l:List Int}(hl:IsL l)(k:Nat):nv (l.take k)<4294967296^k:=by
 have h1:=zpx (hl.take k)
 exact xap h1 (xfx (by decide) (by rw[xau];omega))
theorem digit_cmp{P p q x y:Nat}(hp:p<P)(hq:q<P)(h:x<y):p+P*x<q+P*y:=by
 have:P*(x+1)≤P*y:=xco _ h
 rw[xce,xdk]at this
 omega
theorem d201_eq{a b:List Int}(ha:IsL a)(hb:IsL b)(la:a.length≤4294967296)(lb:b.length≤4294967296):d201 a b=some (cmpN (nv a) (nv b)):=by
 unfold d201
 rw[zbu la,zbu lb]
 simp only[xad,xab,zbx ha,zbx hb]
 have hla:=zbj ha
 have hlb:=zbj hb
 have hA:=zal (nv a)
 have hB:=zal (nv b)
 have eA:=zaw (nv a)
 have eB:=zaw (nv b)
 have cA:=zat (nv a)
 have cB:=zat (nv b)
 generalize hxA:zaq (nv a)=A at *
 generalize hxB:zaq (nv b)=B at *
 by_cases hne:A.length=B.length
 ·have e1:decide ((A.length:Int)=(B.length:Int))=true:=decide_eq_true (by omega)
  simp only[e1,xaq,xaf]
  have key:∀k,k≤A.length→nv (A.drop k)=nv (B.drop k)→(zaa (β:=Unit⊕Int) (fun((a_1,b_1,i):(List Int)×(List Int)×Int)=>
    bif (decide (0≤i))then
     bif (decide (0≤i)&&decide (i<(a_1.length:Int)))then
      bif (decide (0≤i)&&decide (i<(b_1.length:Int)))then
       bif (decide ((List.getD a_1 (Int.toNat i) 0)<(List.getD b_1 (Int.toNat i) 0)))then
        some (Sum.inr (Sum.inr (-1)))
       else
        bif (decide (0≤i)&&decide (i<(a_1.length:Int)))then
         bif (decide (0≤i)&&decide (i<(b_1.length:Int)))then
          bif (decide ((List.getD b_1 (Int.toNat i) 0)<(List.getD a_1 (Int.toNat i) 0)))then
           some (Sum.inr (Sum.inr 1))
          else
           some (Sum.inl (a_1,b_1,(w (i-1))))
         else none
        else none
      else none
     else none
    else
     some (Sum.inr (Sum.inl ()))) (A,B,(k:Int)-1)).bind (fun
  |Sum.inl _=>
   some 0
  |Sum.inr t4=>
   some t4)=some (cmpN (nv (A.take k)) (nv (B.take k))):=by
   intro k
   induction k with
   |zero=>
    intro _ _
    rw[zef (b:=Sum.inl ()) (by rfl)]
    rfl
   |succ k ih=>
    intro hk hd
    have hkA:k<A.length:=by omega
    have hkB:k<B.length:=by omega
    have i1:((k+1:Nat):Int)-1=(k:Int):=by omega
    rw[i1]
    have d0:decide ((0:Int)≤(k:Int))=true:=decide_eq_true (by omega)
    have dA:decide ((k:Int)<(A.length:Int))=true:=decide_eq_true (by omega)
    have dB:decide ((k:Int)<(B.length:Int))=true:=decide_eq_true (by omega)
    have tA:=zgz hkA
    have tB:=zgz hkB
    have lA:=top_lt hA k
    have lB:=top_lt hB k
    have gA:=hA.getD k
    have gB:=hB.getD k
    rw[tA,tB]
    have hkn:Int.toNat (k:Int)=k:=rfl
    rcases Int.lt_trichotomy (A.getD k 0) (B.getD k 0)with h|h|h
    ·rw[zef (b:=Sum.inr (-1)) (by simp only[d0,dA,dB,hkn,decide_eq_true h,xad,xai])]
     have:=digit_cmp lA lB (show(A.getD k 0).toNat<(B.getD k 0).toNat by omega)
     simp only[xab]
     unfold cmpN
     rw[if_pos this]
    ·have hd':nv (A.drop k)=nv (B.drop k):=by
      rw[znf A hkA,znf B hkB]
      simp only[nv,hd,h]
     have:=ih (by omega) hd'
     have hw:w ((k:Int)-1)=(k:Int)-1:=zbf (by omega) (by omega)
     obtain⟨z,hz⟩:∃z,cmpN (nv (A.take k)+4294967296^k*(A.getD k 0).toNat) (nv (B.take k)+4294967296^k*(B.getD k 0).toNat)=z:=⟨_,rfl⟩
     have hzz:cmpN (nv (A.take k)) (nv (B.take k))=z:=by
      rw[←hz,h];unfold cmpN
      generalize 4294967296^k*(B.getD k 0).toNat=q
      (repeat' split)<;>omega
     rw[hz]
     rw[hzz]at this
     simp only[xbd]at this ⊢
     obtain⟨b,hb1,hb2⟩:=this
     refine⟨b,zhj ?_ hb1,hb2⟩
     have n1:decide (A.getD k 0<B.getD k 0)=false:=decide_eq_false (by omega)
     have n2:decide (B.getD k 0<A.getD k 0)=false:=decide_eq_false (by omega)
     simp only[d0,dA,dB,hkn,n1,n2,xad,xaf,xai,hw]
    ·have n1:decide (A.getD k 0<B.getD k 0)=false:=decide_eq_false (by omega)
     rw[zef (b:=Sum.inr 1) (by simp only[d0,dA,dB,hkn,n1,decide_eq_true h,xad,xaf,xai])]
     have:=digit_cmp lB lA (show(B.getD k 0).toNat<(A.getD k 0).toNat by omega)
     simp only[xab]
     unfold cmpN
     rw[if_neg (by omega),if_pos this]
  have:=key A.length (Nat.le_refl _) (by rw[List.drop_length,hne,List.drop_length])
  rw[xbh,hne,xbh,eA,eB]at this
  rw[zbf (by omega) (by omega),hne]
  exact this
 ·have e1:decide ((A.length:Int)=(B.length:Int))=false:=decide_eq_false (by omega)
  simp only[e1,xao,xad]
  rcases xdf A.length B.length with h|h
  ·have e2:decide ((A.length:Int)<(B.length:Int))=true:=decide_eq_true (by omega)
   have h1:=(cA A.length).1 (Nat.le_refl _)
   have h2:¬nv b<4294967296^A.length:=fun hh=>by have:=(cB A.length).2 hh;omega
   simp only[e2,xad]
   unfold cmpN
   rw[if_pos (by omega)]
  ·have e2:decide ((A.length:Int)<(B.length:Int))=false:=decide_eq_false (by omega)
   have h1:=(cB B.length).1 (Nat.le_refl _)
   have h2:¬nv a<4294967296^B.length:=fun hh=>by have:=(cA B.length).2 hh;omega
   simp only[e2,xaf]
   unfold cmpN
   rw[if_neg (by omega),if_pos (by omega)]
end Go.Proofs.YtmipjomnjkmdbaaGreat
