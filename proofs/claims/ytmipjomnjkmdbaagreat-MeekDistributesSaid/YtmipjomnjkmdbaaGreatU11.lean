/- Part 11 of what stands below the statement. -/
import Derived.Test.YtmipjomnjkmdbaaGreatU10
open Go Go.Proofs Go.X
namespace Go.Proofs.YtmipjomnjkmdbaaGreat
set_option linter.unusedVariables false
set_option maxRecDepth 100000
noncomputable section
abbrev uc9:=(Bool×(List Bool×List Bool))
abbrev uc10:=(Bool×(List Int×List Int))
abbrev uc4:=(List uc10×(List uc10×(uc10×(uc10×(uc10×(List Int×(List Int×List Int)))))))
abbrev uc2:=(Int×(Int×(Int×(Int×(List uc4×List Int)))))
abbrev uc1:=(uc2×Int)
abbrev uc3:=(uc4×Int)
abbrev uc8:=(List uc10)
abbrev uc14:=(List Int×Int)
abbrev uc11:=(List uc14)
abbrev uc15:=(List Bool)
abbrev uc7:=(List uc15×(List Bool×List Int))
abbrev uc12:=(List uc15)
abbrev uc16:=(List Int)
abbrev uc6:=(List Int×(List uc16×(Int×(Int×(Int×(Int×(Int×(Int×Int))))))))
abbrev uc0:=(uc11×uc16×uc6×uc2×Int×Int×uc2×uc16×uc7×uc8)
abbrev uc5:=(uc6×(List uc14×(List Int×(List Bool×List uc8))))
abbrev uc13:=(List uc16)
abbrev uc17:=uc11×uc16×uc6×uc2×Int×Int×uc2×uc16×uc7×uc8×uc12×uc15×uc4×uc15×uc15×Int
abbrev uc18:=uc11×uc16×uc6×uc2×Int×Int×uc2×uc16×uc7×uc8×uc12×uc15×uc4×Int×Bool
abbrev uc19:=uc11×uc16×uc6×uc2×Int×Int×uc2×uc16×uc7×uc8
abbrev uc20:=Int×Int×uc6×uc16×uc13×Int×Int×Int
def d90(p0:uc7)(p1:List uc14)(p2:List Int)(p3:Int)(p4:List Bool)(p5:List Bool):Option uc7:=
 (d77 p0.2.1 p5).bind fun r=>
 (zaa (β:=(uc7×uc7)) (fun((f,n,h,o,p,g,i,j,a):uc11×uc16×Int×uc15×uc15×uc7×uc7×uc7×Int)=>
 bif (decide (a<(f.length:Int)))then
 letJ (fun((aa,ab,ac,ae,af,ag,ah,ai,aj):uc11×uc16×Int×uc15×uc15×uc7×uc7×uc7×Int)=>
 some (Sum.inl (aa,ab,ac,ae,af,ag,ah,ai,(w (aj+1))))) fun q=>
 bif (decide (0≤a)&&decide (a<(f.length:Int)))then
 letJ (fun((s,k,t,l,m,c,u,e,b,ak,al):uc11×uc16×Int×uc15×uc15×uc7×uc7×uc7×Int×uc16×Bool)=>
 bif al then
 bif (decide (0≤b)&&decide (b<(c.1.length:Int)))then
 (d77 (List.getD c.1 (Int.toNat b) []) l).bind fun v=>
 bif (decide ((e.1.length:Int)+(([v]:List uc15).length:Int)≤LIM))then
 bif (decide (0≤b)&&decide (b<(c.2.2.length:Int)))then
 (d150 ak k (w ((List.getD c.2.2 (Int.toNat b) 0)+1))).bind fun x=>
 bif (decide ((e.2.2.length:Int)+(([x]:List Int).length:Int)≤LIM))then
 q (s,k,t,l,m,c,u,((e.1++[v]),e.2.1,(e.2.2++[x])),b)
 else none
 else none
 else none
 else none
 else
 bif (decide (0≤b)&&decide (b<(c.1.length:Int)))then
 (d77 (List.getD c.1 (Int.toNat b) []) m).bind fun y=>
 bif (decide ((e.1.length:Int)+(([y]:List uc15).length:Int)≤LIM))then
 bif (decide (0≤b)&&decide (b<(c.2.2.length:Int)))then
 bif (decide ((e.2.2.length:Int)+(([(List.getD c.2.2 (Int.toNat b) 0)]:List Int).length:Int)≤LIM))then
 q (s,k,t,l,m,c,u,((e.1++[y]),e.2.1,(e.2.2++[(List.getD c.2.2 (Int.toNat b) 0)])),b)
 else none
 else none
 else none
 else none) fun z=>
 bif (decide (0≤a)&&decide (a<(g.2.2.length:Int)))then
 bif (decide ((List.getD g.2.2 (Int.toNat a) 0)<(((List.getD f (Int.toNat a) ([],0)).1).length:Int)))then
 bif (decide (0≤a)&&decide (a<(g.2.2.length:Int)))then
 bif (decide (0≤(List.getD g.2.2 (Int.toNat a) 0))&&decide ((List.getD g.2.2 (Int.toNat a) 0)<(((List.getD f (Int.toNat a) ([],0)).1).length:Int)))then
 z (f,n,h,o,p,g,i,j,a,(List.getD f (Int.toNat a) ([],0)).1,(decide ((List.getD ((List.getD f (Int.toNat a) ([],0)).1) (Int.toNat (List.getD g.2.2 (Int.toNat a) 0)) 0)=h)))
 else none
 else none
 else
 z (f,n,h,o,p,g,i,j,a,(List.getD f (Int.toNat a) ([],0)).1,false)
 else none
 else none
 else
 some (Sum.inr (i,j))) (p1,p2,p3,p4,p5,p0,([],[],[]),([],r,[]),0)).bind fun((an,am):uc7×uc7)=>
 some am
def d28(p0:uc6)(p1:List uc14)(p2:List Int):Option uc1:=
 (d23 3 p0 p1 p2).bind fun r=>
 bif !(decide (r=0))then
 some ((0,0,0,0,[],[]),r)
 else
 (d74 p1).bind fun gm=>
 (d73 gm p0.2.2.2.1).bind fun gn=>
 bif (decide ((p0.2.1.length:Int)=(p0.2.1.length:Int))&&(decide (0≤(p0.2.1.length:Int))&&decide ((p0.2.1.length:Int)≤LIM)))then
 (d75 1).bind fun go=>
 (zaa (β:=uc0) (fun((bp,bq,br,bs,ao,bt,bu,bv,bx,ap,bz):uc11×uc16×uc6×uc2×Int×Int×uc2×uc16×uc7×uc8×Int)=>
 bif (decide (bz<ao))then
 (d39 1).bind fun ca=>
 bif (decide ((ap.length:Int)+(([ca]:List uc10).length:Int)≤LIM))then
 some (Sum.inl (bp,bq,br,bs,ao,bt,bu,bv,bx,(ap++[ca]),(w (bz+1))))
 else none
 else
 some (Sum.inr (bp,bq,br,bs,ao,bt,bu,bv,bx,ap))) (p1,p2,p0,(0,0,0,0,[],[]),(p0.2.1.length:Int),gn,(3,p0.2.2.2.1,0,(p0.2.1.length:Int),[],[]),(List.replicate (Int.toNat (p0.2.1.length:Int)) 0),([],go,[]),[],0)).bind fun((gp,gq,gr,gs,gt,gu,gv,gx,gy,gz):uc19)=>
 (zaa (β:=uc0) (fun((aq,cb,cc,ce,cf,cg,ch,ci,n,cj,ck):uc11×uc16×uc6×uc2×Int×Int×uc2×uc16×uc7×uc8×Int)=>
 bif (decide (ck<(aq.length:Int)))then
 (d75 1).bind fun cl=>
 bif (decide ((n.1.length:Int)+(([cl]:List uc15).length:Int)≤LIM))then
 bif (decide ((n.2.2.length:Int)+(([0]:List Int).length:Int)≤LIM))then
 some (Sum.inl (aq,cb,cc,ce,cf,cg,ch,ci,((n.1++[cl]),n.2.1,(n.2.2++[0])),cj,(w (ck+1))))
 else none
 else none
 else
 some (Sum.inr (aq,cb,cc,ce,cf,cg,ch,ci,n,cj))) (gp,gq,gr,gs,gt,gu,gv,gx,gy,gz,0)).bind fun((ha,hb,hc,he,hf,hg,hh,hi,hj,hk):uc19)=>
 (zaa (β:=uc1) (fun((cm,hl,hm,hn,ho,y,hp,cn,ar,au):uc19)=>
 (d76 ar cm cn y).bind fun hq=>
 (d75 y).bind fun hr=>
 (d77 hr ar.2.1).bind fun hs=>
 (d39 y).bind fun ht=>
 bif (decide ((([]:List uc10).length:Int)+(au.length:Int)≤LIM))then
 (d75 0).bind fun hu=>
 (d75 0).bind fun hv=>
 (zaa (β:=(uc11×uc16×uc6×uc2×Int×Int×uc2×uc16×uc7×uc8×uc12×uc15×uc4×uc15×uc15)) (fun((av,ax,ay,az,z,ba,bb,t,aa,bc,f,ab,o,co,be,b):uc17)=>
 bif (decide (b<z))then
 letJ (fun((hx,hy,hz,ia,ib,ic,ie,ig,ih,ii,ij,ik,il,im,io,ip):uc17)=>
 some (Sum.inl (hx,hy,hz,ia,ib,ic,ie,ig,ih,ii,ij,ik,il,im,io,(w (ip+1))))) fun cp=>
 bif (decide (0≤b)&&decide (b<(f.length:Int)))then
 (d78 (List.getD f (Int.toNat b) []) aa.2.1).bind fun bf=>
 bif (decide ((o.1.length:Int)+(([bf]:List uc10).length:Int)≤LIM))then
 bif (decide (0≤b)&&decide (b<(f.length:Int)))then
 (d79 co (List.getD f (Int.toNat b) [])).bind fun cq=>
 letJ (fun((cr,cs,ct,cu,cv,cx,cy,ac,cz,ea,ae,bg,eb,ec,ee,g):uc17)=>
 bif (decide (0≤g)&&decide (g<(ac.length:Int)))then
 bif (decide ((List.getD ac (Int.toNat g) 0)=1))then
 bif (decide (0≤g)&&decide (g<(ae.length:Int)))then
 (d82 (List.getD ae (Int.toNat g) []) bg).bind fun iq=>
 (d79 ee iq).bind fun ir=>
 cp (cr,cs,ct,cu,cv,cx,cy,ac,cz,ea,ae,bg,eb,ec,ir,g)
 else none
 else
 cp (cr,cs,ct,cu,cv,cx,cy,ac,cz,ea,ae,bg,eb,ec,ee,g)
 else none) fun ef=>
 letJ (fun((eg,eh,ei,ej,ek,el,em,bh,en,eo,ep,eq,h,er,es,p,it):uc11×uc16×uc6×uc2×Int×Int×uc2×uc16×uc7×uc8×uc12×uc15×uc4×uc15×uc15×Int×Bool)=>
 bif it then
 bif (decide (0≤p)&&decide (p<(bh.length:Int)))then
 (d81 h.2.2.2.2.2.1 p).bind fun iu=>
 ef (eg,eh,ei,ej,ek,el,em,(List.set bh (Int.toNat p) 1),en,eo,ep,eq,(h.1,h.2.1,h.2.2.1,h.2.2.2.1,h.2.2.2.2.1,iu,h.2.2.2.2.2.2),er,es,p)
 else none
 else
 ef (eg,eh,ei,ej,ek,el,em,bh,en,eo,ep,eq,h,er,es,p)) fun et=>
 bif (decide (0≤b)&&decide (b<(t.length:Int)))then
 bif (decide ((List.getD t (Int.toNat b) 0)=0))then
 bif (decide (0≤b)&&decide (b<(f.length:Int)))then
 (d80 (List.getD f (Int.toNat b) []) ab).bind fun iv=>
 et (av,ax,ay,az,z,ba,bb,t,aa,bc,f,ab,((o.1++[bf]),o.2),cq,be,b,(decide (0≤iv)))
 else none
 else
 et (av,ax,ay,az,z,ba,bb,t,aa,bc,f,ab,((o.1++[bf]),o.2),cq,be,b,false)
 else none
 else none
 else none
 else none
 else
 some (Sum.inr (av,ax,ay,az,z,ba,bb,t,aa,bc,f,ab,o,co,be))) (cm,hl,hm,hn,ho,y,hp,cn,ar,au,hq,hs,([],au,ht,(false,[],[]),(false,[],[]),[],[],[]),hu,hv,0)).bind fun((bi,eu,af,ev,ex,ey,ez,u,v,fa,fb,fc,i,ix,iy):uc11×uc16×uc6×uc2×Int×Int×uc2×uc16×uc7×uc8×uc12×uc15×uc4×uc15×uc15)=>
 (d83 bi).bind fun iz=>
 (d75 iz).bind fun ja=>
 (d77 ja v.2.1).bind fun jb=>
 (d82 jb ix).bind fun jc=>
 (d78 jc v.2.1).bind fun fe=>
 (d78 iy v.2.1).bind fun ff=>
 (d84 u 1).bind fun ag=>
 (d84 u 2).bind fun ah=>
 letJ (fun((fg,fh,bj,ai,fi,fj,aj,ak,fk,fl,fm,fn,e,je,jf):uc18)=>
 bif jf then
 letJ (fun((kh,c,bk):uc2×uc2×uc4)=>
 bif (decide ((c.2.2.2.2.1.length:Int)+(([bk]:List uc4).length:Int)≤LIM))then
 (d86 (c.1,c.2.1,c.2.2.1,c.2.2.2.1,(c.2.2.2.2.1++[bk]),c.2.2.2.2.2)).bind fun jg=>
 some (Sum.inr ((c.1,c.2.1,c.2.2.1,c.2.2.2.1,(c.2.2.2.2.1++[bk]),jg),0))
 else none) fun fo=>
 bif (decide (je<bj.2.2.2.1))then
 (d85 e.2.2.2.2.2.1 ak).bind fun jh=>
 fo (ai,aj,(e.1,e.2.1,e.2.2.1,e.2.2.2.1,e.2.2.2.2.1,jh.1,e.2.2.2.2.2.2))
 else
 fo (ai,aj,e)
 else
 letJ (fun((fp,bl,bm,fq,fr,fs,l,bn,ft,fu,bo,fv,j,ji,al):uc18)=>
 (d87 bo bn ji al).bind fun x=>
 bif (decide (0≤0)&&decide (0<(x.length:Int)))then
 letJ (fun((am,fx,fy,fz,ga,gb,gc,q,ge,an,s,jj,k,jk,a):uc11×uc16×uc6×uc2×Int×Int×uc2×uc16×uc7×uc8×uc12×uc15×uc4×Bool×Int)=>
 letJ (fun((jl,jm,jn,jo,jp,jq,m,jr,js,jt,gf):uc11×uc16×uc6×uc2×Int×Int×uc2×uc16×uc7×uc8×uc4)=>
 bif (decide ((m.2.2.2.2.1.length:Int)+(([gf]:List uc4).length:Int)≤LIM))then
 some (Sum.inl (jl,jm,jn,jo,jp,jq,(m.1,m.2.1,m.2.2.1,m.2.2.2.1,(m.2.2.2.2.1++[gf]),m.2.2.2.2.2),jr,js,jt))
 else none) fun gg=>
 bif jk then
 bif (decide (0≤a)&&decide (a<(s.length:Int)))then
 (d82 (List.getD s (Int.toNat a) []) jj).bind fun gh=>
 bif (decide (0≤a)&&decide (a<(s.length:Int)))then
 (d78 gh (List.getD s (Int.toNat a) [])).bind fun ju=>
 bif (decide (0≤a)&&decide (a<(q.length:Int)))then
 bif (decide (0≤a)&&decide (a<(an.length:Int)))then
 bif (decide (0≤a)&&decide (a<(s.length:Int)))then
 (d90 ge am (List.set q (Int.toNat a) 2) a gh (List.getD s (Int.toNat a) [])).bind fun jv=>
 gg (am,fx,fy,fz,ga,gb,gc,(List.set q (Int.toNat a) 2),jv,(List.set an (Int.toNat a) ju),k)
 else none
 else none
 else none
 else none
 else none
 else
 (d39 0).bind fun jx=>
 bif (decide (0≤a)&&decide (a<(q.length:Int)))then
 bif (decide (0≤a)&&decide (a<(an.length:Int)))then
 (d75 1).bind fun jy=>
 (d75 1).bind fun jz=>
 (d90 ge am (List.set q (Int.toNat a) 3) a jy jz).bind fun ka=>
 gg (am,fx,fy,fz,ga,gb,gc,(List.set q (Int.toNat a) 3),ka,(List.set an (Int.toNat a) jx),(k.1,k.2.1,k.2.2.1,k.2.2.2.1,k.2.2.2.2.1,k.2.2.2.2.2.1,[a],k.2.2.2.2.2.2.2))
 else none
 else none) fun gi=>
 bif (decide (1<(x.length:Int)))then
 (d89 l.2.2.2.2.1).bind fun gj=>
 (d88 bm.2.2.2.2.2.2.1 gj.1 x bl (!al)).bind fun kb=>
 gi (fp,bl,bm,fq,fr,fs,(l.1,l.2.1,l.2.2.1,l.2.2.2.1,gj.2,l.2.2.2.2.2),bn,ft,fu,bo,fv,(j.1,j.2.1,j.2.2.1,j.2.2.2.1,j.2.2.2.2.1,j.2.2.2.2.2.1,j.2.2.2.2.2.2.1,x),al,kb.1)
 else
 gi (fp,bl,bm,fq,fr,fs,l,bn,ft,fu,bo,fv,j,al,(List.getD x 0 0))
 else none) fun gk=>
 (d84 ak 1).bind fun kc=>
 bif (decide (0<kc))then
 gk (fg,fh,bj,ai,fi,fj,aj,ak,fk,fl,fm,fn,e,1,true)
 else
 gk (fg,fh,bj,ai,fi,fj,aj,ak,fk,fl,fm,fn,e,0,false)) fun gl=>
 bif !(decide ((w (ag+ah))=af.2.2.2.1))then
 (d84 u 0).bind fun ke=>
 gl (bi,eu,af,ev,ex,ey,ez,u,v,fa,fb,fc,(i.1,i.2.1,i.2.2.1,fe,ff,i.2.2.2.2.2),(w (ag+ah)),(decide ((w ((w (ag+ah))+ke))≤af.2.2.2.1)))
 else
 gl (bi,eu,af,ev,ex,ey,ez,u,v,fa,fb,fc,(i.1,i.2.1,i.2.2.1,fe,ff,i.2.2.2.2.2),(w (ag+ah)),true)
 else none) (ha,hb,hc,he,hf,hg,hh,hi,hj,hk)).bind fun((kf,kg):uc2×Int)=>
 some (kf,kg)
 else none
def d184(a:List uc10)(b:List uc10):Option Bool:=
 bif !(decide ((a.length:Int)=(b.length:Int)))then
  some false
 else
  (zaa (β:=Unit⊕Bool) (fun((c,e,i):uc8×uc8×Int)=>
    bif (decide (i<(c.length:Int)))then
     bif (decide (0≤i)&&decide (i<(c.length:Int)))then
      bif (decide (0≤i)&&decide (i<(e.length:Int)))then
       (d37 (List.getD c (Int.toNat i) (false,[],[])) (List.getD e (Int.toNat i) (false,[],[]))).bind fun r=>
       bif !r then
        some (Sum.inr (Sum.inr false))
       else
        some (Sum.inl (c,e,(w (i+1))))
      else none
     else none
    else
     some (Sum.inr (Sum.inl ()))) (a,b,0)).bind fun
  |Sum.inl _=>
   some true
  |Sum.inr f=>
   some f
def d151(a:uc4)(b:uc4):Option Bool:=
 (d184 a.1 b.1).bind fun r=>
 bif r then
 (d184 a.2.1 b.2.1).bind fun c=>
 bif c then
 (d37 a.2.2.1 b.2.2.1).bind fun e=>
 bif e then
 (d37 a.2.2.2.1 b.2.2.2.1).bind fun f=>
 bif f then
 (d37 a.2.2.2.2.1 b.2.2.2.2.1).bind fun g=>
 bif g then
 (d38 a.2.2.2.2.2.1 b.2.2.2.2.2.1).bind fun h=>
 bif h then
 (d38 a.2.2.2.2.2.2.1 b.2.2.2.2.2.2.1).bind fun i=>
 bif i then
 (d38 a.2.2.2.2.2.2.2 b.2.2.2.2.2.2.2).bind fun j=>
 some j
 else
 some false
 else
 some false
 else
 some false
 else
 some false
 else
 some false
 else
 some false
 else
 some false
def d91(p0:uc2)(p1:uc2):Option Bool:=
 letJ (fun((f,g,h):uc2×uc2×Bool)=>
   bif h then
    some false
   else
    (zaa (β:=Unit⊕Bool) (fun((c,e,a):uc2×uc2×Int)=>
      bif (decide (a<(c.2.2.2.2.1.length:Int)))then
       bif (decide (0≤a)&&decide (a<(c.2.2.2.2.1.length:Int)))then
        bif (decide (0≤a)&&decide (a<(e.2.2.2.2.1.length:Int)))then
         (d151 (List.getD c.2.2.2.2.1 (Int.toNat a) ([],[],(false,[],[]),(false,[],[]),(false,[],[]),[],[],[])) (List.getD e.2.2.2.2.1 (Int.toNat a) ([],[],(false,[],[]),(false,[],[]),(false,[],[]),[],[],[]))).bind fun i=>
         bif !i then
          some (Sum.inr (Sum.inr false))
         else
          some (Sum.inl (c,e,(w (a+1))))
        else none
       else none
      else
       some (Sum.inr (Sum.inl ()))) (f,g,0)).bind fun
    |Sum.inl _=>
     some true
    |Sum.inr j=>
     some j) fun b=>
 bif !(!(decide (p0.1=p1.1)))then
  bif !(!(decide (p0.2.1=p1.2.1)))then
   bif !(!(decide (p0.2.2.1=p1.2.2.1)))then
    bif !(!(decide (p0.2.2.2.1=p1.2.2.2.1)))then
     (d38 p0.2.2.2.2.2 p1.2.2.2.2.2).bind fun r=>
     bif !(!r)then
      b (p0,p1,!(decide ((p0.2.2.2.2.1.length:Int)=(p1.2.2.2.2.1.length:Int))))
     else
      b (p0,p1,true)
    else
     b (p0,p1,true)
   else
    b (p0,p1,true)
  else
   b (p0,p1,true)
 else
  b (p0,p1,true)
def d29(a:uc2)(b:uc2):Option Bool:=
 (d91 a b).bind fun r=>
 some r
def d3(p0:uc6)(p1:List uc14)(p2:List Int)(p3:Bool)(p4:Int)(p5:Int)(p6:List uc16):Option Bool:=
 letJ (fun((e,f,l,m,n,o,a,p):uc11×uc16×Bool×Int×Int×uc13×uc6×Bool)=>
 bif p then
 (d21).bind fun q=>
 some q
 else
 bif l then
 (d22 a e f).bind fun s=>
 (d21).bind fun t=>
 bif t then
 (d23 3 a e f).bind fun u=>
 some (decide (s.2=u))
 else
 some false
 else
 (d24 m 7).bind fun c=>
 (d25 2 (w (1+c)) a.2.2.2.1 0 a.2.2.2.2.2.2.1).bind fun g=>
 (d26 (w (1+c)) o 16).bind fun h=>
 (d27 (w (1+c)) n).bind fun i=>
 (d22 g h i).bind fun j=>
 (d28 g h i).bind fun k=>
 (d21).bind fun v=>
 bif v then
 bif (decide (j.2=k.2))then
 (d29 j.1 k.1).bind fun x=>
 some x
 else
 some false
 else
 some false) fun b=>
 (d19 p1).bind fun r=>
 bif !(!r)then
 (d20 p6).bind fun y=>
 bif !(!y)then
 bif !(decide (12<(p2.length:Int)))then
 b (p1,p2,p3,p4,p5,p6,p0,(decide (12<(p0.2.1.length:Int))))
 else
 b (p1,p2,p3,p4,p5,p6,p0,true)
 else
 b (p1,p2,p3,p4,p5,p6,p0,true)
 else
 b (p1,p2,p3,p4,p5,p6,p0,true)
def d4(ballots:Int)(seats:Int):Option Bool:=
 (d30 ballots seats).bind fun r=>
 letJ (fun((b,c,q,e):Int×Int×Int×Bool)=>
 bif e then
 (d21).bind fun f=>
 bif f then
 some (decide (q=0))
 else
 some false
 else
 (d21).bind fun g=>
 bif g then
 bif (decide (1≤q))then
 bif (decide (q≤100001))then
 bif (decide (b<(w (q*(w (c+1))))))then
 some (decide ((w ((w (q-1))*(w (c+1))))≤b))
 else
 some false
 else
 some false
 else
 some false
 else
 some false) fun a=>
 bif !(decide (ballots<0))then
 bif !(decide (100000<ballots))then
 bif !(decide (seats<1))then
 a (ballots,seats,r,(decide (5<seats)))
 else
 a (ballots,seats,r,true)
 else
 a (ballots,seats,r,true)
 else
 a (ballots,seats,r,true)
def d31(n:Int)(seats:Int)(ties:Int)(c:Int)(ballots:List uc16):Option (uc6×uc11×uc2×Int):=
 (d25 2 n seats 0 ties).bind fun r=>
 (d26 n ballots 16).bind fun a=>
 (d27 n c).bind fun e=>
 (d22 r a e).bind fun b=>
 some (r,a,b.1,b.2)
def d5(p0:Int)(p1:Int)(p2:Int)(p3:Int)(p4:List uc16):Option Bool:=
 (d20 p4).bind fun r=>
 bif !r then
  (d21).bind fun z=>
  some z
 else
  (d24 p0 7).bind fun b=>
  (d31 (w (1+b)) p1 p2 p3 p4).bind fun a=>
  letJ (fun((aa,ab,ac,ae):Int×uc13×uc2×Bool)=>
    bif ae then
     some false
    else
     (d33 0).bind fun af=>
     (zaa (β:=Unit⊕Bool) (fun((ag,ah,e,ai,c):Int×uc13×uc2×uc9×Int)=>
       bif (decide (c<(e.2.2.2.2.1.length:Int)))then
        bif (decide (0≤c)&&decide (c<(e.2.2.2.2.1.length:Int)))then
         (d34 (((((List.getD e.2.2.2.2.1 (Int.toNat c) ([],[],(false,[],[]),(false,[],[]),(false,[],[]),[],[],[])).2).2).2).1)).bind fun p=>
         (zaa (β:=(Int×uc13×uc2×uc9×Int×uc4×uc9×uc9)) (fun((q,s,t,u,v,f,x,y,g):Int×uc13×uc2×uc9×Int×uc4×uc9×uc9×Int)=>
           bif (decide (g<(f.1.length:Int)))then
            bif (decide (0≤g)&&decide (g<(f.1.length:Int)))then
             (d34 (List.getD f.1 (Int.toNat g) (false,[],[]))).bind fun aj=>
             (d35 y aj).bind fun ak=>
             some (Sum.inl (q,s,t,u,v,f,x,ak,(w (g+1))))
            else none
           else
            some (Sum.inr (q,s,t,u,v,f,x,y))) (ag,ah,e,ai,c,(List.getD e.2.2.2.2.1 (Int.toNat c) ([],[],(false,[],[]),(false,[],[]),(false,[],[]),[],[],[])),p,p,0)).bind fun((h,i,m,j,n,al,k,am):Int×uc13×uc2×uc9×Int×uc4×uc9×uc9)=>
         letJ (fun((an,ao,ap,bc,aq,ar,au):Int×uc13×uc2×uc9×Int×uc9×Bool)=>
           bif au then
            some (Sum.inr (Sum.inr false))
           else
            some (Sum.inl (an,ao,ap,ar,(w (aq+1))))) fun o=>
         bif !(!(decide ((al.1.length:Int)=h)))then
          (d33 (i.length:Int)).bind fun av=>
          (d36 am av).bind fun ax=>
          bif !(!(decide (ax=0)))then
           (d36 k j).bind fun ay=>
           o (h,i,m,j,n,k,(decide (ay<0)))
          else
           o (h,i,m,j,n,k,true)
         else
          o (h,i,m,j,n,k,true)
        else none
       else
        some (Sum.inr (Sum.inl ()))) (aa,ab,ac,af,0)).bind fun
     |Sum.inl _=>
      (d21).bind fun az=>
      some az
     |Sum.inr ba=>
      some ba) fun l=>
  bif !(!(decide (a.2.2.2=0)))then
   bif !(decide ((a.2.2.1.2.2.2.2.1.length:Int)<1))then
    bif !(!(decide ((a.2.2.1.2.2.2.2.2.length:Int)=(bif (decide ((w (1+b))<a.1.2.2.2.1))then(w (1+b))else a.1.2.2.2.1))))then
     (d32 (w (1+b)) a.2.2.1.2.2.2.2.2).bind fun bb=>
     l ((w (1+b)),p4,a.2.2.1,!bb)
    else
     l ((w (1+b)),p4,a.2.2.1,true)
   else
    l ((w (1+b)),p4,a.2.2.1,true)
  else
   l ((w (1+b)),p4,a.2.2.1,true)
def d6(p0:Int)(p1:Int)(p2:Int)(p3:Int)(p4:List uc16):Option Bool:=
 (d20 p4).bind fun r=>
 bif !r then
  (d21).bind fun u=>
  some u
 else
  (d24 p0 7).bind fun p=>
  (d31 (w (1+p)) p1 p2 p3 p4).bind fun o=>
  letJ (fun((v,x,y):Int×uc2×Bool)=>
    bif y then
     some false
    else
     (d33 1).bind fun z=>
     (zaa (β:=Unit⊕Bool) (fun((g,c,m,a):Int×uc2×uc9×Int)=>
       bif (decide ((w (a+1))<(c.2.2.2.2.1.length:Int)))then
        bif (decide (0≤a)&&decide (a<(c.2.2.2.2.1.length:Int)))then
         bif (decide (0≤(w (a+1)))&&decide ((w (a+1))<(c.2.2.2.2.1.length:Int)))then
          letJ (fun((aa,ab,ac,ae,af,ag,ah):Int×uc2×uc9×Int×uc4×uc4×Bool)=>
            bif ah then
             some (Sum.inr (Sum.inr false))
            else
             (zaa (β:=(Int×uc2×uc9×Int×Int)⊕Bool) (fun((h,j,i,k,e,f,l,b):Int×uc2×uc9×Int×uc4×uc4×Int×Int)=>
               bif (decide (b<h))then
                letJ (fun((ai,aj,ak,al,am,an,ao,ap):Int×uc2×uc9×Int×uc4×uc4×Int×Int)=>
                  some (Sum.inl (ai,aj,ak,al,am,an,ao,(w (ap+1))))) fun q=>
                bif (decide (0≤b)&&decide (b<(e.2.1.length:Int)))then
                 bif (decide (0≤b)&&decide (b<(f.2.1.length:Int)))then
                  (d37 (List.getD e.2.1 (Int.toNat b) (false,[],[])) (List.getD f.2.1 (Int.toNat b) (false,[],[]))).bind fun aq=>
                  bif aq then
                   q (h,j,i,k,e,f,l,b)
                  else
                   (d38 e.2.2.2.2.2.2.1 [b]).bind fun ar=>
                   bif ar then
                    bif (decide (0≤b)&&decide (b<(f.2.1.length:Int)))then
                     (d39 0).bind fun au=>
                     (d37 (List.getD f.2.1 (Int.toNat b) (false,[],[])) au).bind fun av=>
                     bif !av then
                      some (Sum.inr (Sum.inr false))
                     else
                      q (h,j,i,k,e,f,(w (l+1)),b)
                    else none
                   else
                    bif (decide (0≤b)&&decide (b<(e.1.length:Int)))then
                     (d34 (List.getD e.1 (Int.toNat b) (false,[],[]))).bind fun ax=>
                     bif (decide (0≤b)&&decide (b<(f.2.1.length:Int)))then
                      (d34 (List.getD f.2.1 (Int.toNat b) (false,[],[]))).bind fun ay=>
                      (d41 ay).bind fun az=>
                      (d35 i az).bind fun ba=>
                      (d40 ax ba).bind fun bb=>
                      letJ (fun((bc,be,bf,bg,bh,bi,bj,bk,bl):Int×uc2×uc9×Int×uc4×uc4×Int×Int×Bool)=>
                        bif bl then
                         some (Sum.inr (Sum.inr false))
                        else
                         q (bc,be,bf,bg,bh,bi,bj,bk)) fun s=>
                      bif !(!(decide ((e.2.2.2.2.2.2.1.length:Int)=0)))then
                       (d34 e.2.2.1).bind fun bm=>
                       (d36 bb bm).bind fun bn=>
                       bif !(!(decide (bn=0)))then
                        bif (decide (0≤b)&&decide (b<(f.1.length:Int)))then
                         (d37 (List.getD f.1 (Int.toNat b) (false,[],[])) e.2.2.1).bind fun bo=>
                         s (h,j,i,k,e,f,(w (l+1)),b,!bo)
                        else none
                       else
                        s (h,j,i,k,e,f,(w (l+1)),b,true)
                      else
                       s (h,j,i,k,e,f,(w (l+1)),b,true)
                     else none
                    else none
                 else none
                else none
               else
                some (Sum.inr (Sum.inl (h,j,i,k,l)))) (aa,ab,ac,ae,af,ag,0,0)).bind fun
             |Sum.inl (bp,bq,br,bs,bt)=>
              bif !(decide (bt=1))then
               some (Sum.inr (Sum.inr false))
              else
               some (Sum.inl (bp,bq,br,(w (bs+1))))
             |Sum.inr bu=>
              some (Sum.inr (Sum.inr bu))) fun n=>
          bif !(!(decide (((((List.getD c.2.2.2.2.1 (Int.toNat a) ([],[],(false,[],[]),(false,[],[]),(false,[],[]),[],[],[])).2).1).length:Int)=g)))then
           bif !(!(decide (((((List.getD c.2.2.2.2.1 (Int.toNat (w (a+1))) ([],[],(false,[],[]),(false,[],[]),(false,[],[]),[],[],[])).2).1).length:Int)=g)))then
            bif !(!(decide ((((List.getD c.2.2.2.2.1 (Int.toNat a) ([],[],(false,[],[]),(false,[],[]),(false,[],[]),[],[],[])).1).length:Int)=g)))then
             bif !(!(decide ((((List.getD c.2.2.2.2.1 (Int.toNat (w (a+1))) ([],[],(false,[],[]),(false,[],[]),(false,[],[]),[],[],[])).1).length:Int)=g)))then
              (d37 ((((List.getD c.2.2.2.2.1 (Int.toNat a) ([],[],(false,[],[]),(false,[],[]),(false,[],[]),[],[],[])).2).2).1) ((((List.getD c.2.2.2.2.1 (Int.toNat (w (a+1))) ([],[],(false,[],[]),(false,[],[]),(false,[],[]),[],[],[])).2).2).1)).bind fun bv=>
              n (g,c,m,a,(List.getD c.2.2.2.2.1 (Int.toNat a) ([],[],(false,[],[]),(false,[],[]),(false,[],[]),[],[],[])),(List.getD c.2.2.2.2.1 (Int.toNat (w (a+1))) ([],[],(false,[],[]),(false,[],[]),(false,[],[]),[],[],[])),!bv)
             else
              n (g,c,m,a,(List.getD c.2.2.2.2.1 (Int.toNat a) ([],[],(false,[],[]),(false,[],[]),(false,[],[]),[],[],[])),(List.getD c.2.2.2.2.1 (Int.toNat (w (a+1))) ([],[],(false,[],[]),(false,[],[]),(false,[],[]),[],[],[])),true)
            else
             n (g,c,m,a,(List.getD c.2.2.2.2.1 (Int.toNat a) ([],[],(false,[],[]),(false,[],[]),(false,[],[]),[],[],[])),(List.getD c.2.2.2.2.1 (Int.toNat (w (a+1))) ([],[],(false,[],[]),(false,[],[]),(false,[],[]),[],[],[])),true)
           else
            n (g,c,m,a,(List.getD c.2.2.2.2.1 (Int.toNat a) ([],[],(false,[],[]),(false,[],[]),(false,[],[]),[],[],[])),(List.getD c.2.2.2.2.1 (Int.toNat (w (a+1))) ([],[],(false,[],[]),(false,[],[]),(false,[],[]),[],[],[])),true)
          else
           n (g,c,m,a,(List.getD c.2.2.2.2.1 (Int.toNat a) ([],[],(false,[],[]),(false,[],[]),(false,[],[]),[],[],[])),(List.getD c.2.2.2.2.1 (Int.toNat (w (a+1))) ([],[],(false,[],[]),(false,[],[]),(false,[],[]),[],[],[])),true)
         else none
        else none
       else
        some (Sum.inr (Sum.inl ()))) (v,x,z,0)).bind fun
     |Sum.inl _=>
      (d21).bind fun bx=>
      some bx
     |Sum.inr bz=>
      some bz) fun t=>
  bif !(!(decide (o.2.2.2=0)))then
   t ((w (1+p)),o.2.2.1,(decide ((o.2.2.1.2.2.2.2.1.length:Int)<1)))
  else
   t ((w (1+p)),o.2.2.1,true)
def d43(l:List Int)(to:List Int):Option uc16:=
 (zaa (β:=uc16) (fun((a,b,out,i):uc16×uc16×uc16×Int)=>
 bif (decide (i<(a.length:Int)))then
 bif (decide (0≤i)&&decide (i<(a.length:Int)))then
 bif (decide (0≤(List.getD a (Int.toNat i) 0))&&decide ((List.getD a (Int.toNat i) 0)<(b.length:Int)))then
 bif (decide ((out.length:Int)+(([(List.getD b (Int.toNat (List.getD a (Int.toNat i) 0)) 0)]:List Int).length:Int)≤LIM))then
 some (Sum.inl (a,b,(out++[(List.getD b (Int.toNat (List.getD a (Int.toNat i) 0)) 0)]),(w (i+1))))
 else none
 else none
 else none
 else
 some (Sum.inr out)) (l,to,[],0)).bind fun(c:List Int)=>
 some c
def d42(gs:List uc14)(to:List Int):Option uc11:=
 (zaa (β:=uc11) (fun((a,b,out,i):uc11×uc16×uc11×Int)=>
 bif (decide (i<(a.length:Int)))then
 bif (decide (0≤i)&&decide (i<(a.length:Int)))then
 (d43 ((List.getD a (Int.toNat i) ([],0)).1) b).bind fun r=>
 bif (decide (0≤i)&&decide (i<(a.length:Int)))then
 (d98 out r ((List.getD a (Int.toNat i) ([],0)).2)).bind fun c=>
 some (Sum.inl (a,b,c,(w (i+1))))
 else none
 else none
 else
 some (Sum.inr out)) (gs,to,[],0)).bind fun(e:List uc14)=>
 some e
def d44(l:List Int):Option uc16:=
 (zaa (β:=uc16) (fun((a,out,x):uc16×uc16×Int)=>
 bif (decide (x<12))then
 letJ (fun((c,e,f):uc16×uc16×Int)=>
 some (Sum.inl (c,e,(w (f+1))))) fun b=>
 (d49 a x).bind fun r=>
 bif r then
 bif (decide ((out.length:Int)+(([x]:List Int).length:Int)≤LIM))then
 b (a,(out++[x]),x)
 else none
 else
 b (a,out,x)
 else
 some (Sum.inr out)) (l,[],0)).bind fun(g:List Int)=>
 some g
def sg44:Sig:=⟨[(y26,.bw)],[(y26,(.own 3 .sh))]⟩
theorem sim44:Sim Tryz.prog 44 sg44 d44:=uqz Tryz.func44 (zac rfl) Tryz.call44 (by kernel_rfl) (by kernel_rfl) [.fn E49] (uqs (.seq (.reg [] [{fl:=2}]) (.seq (uqs (.block (.loop [(0,uqb),(3,uqd),(4,uqa)] [(.brk 0,[(3,uqd)])] (.seq (uqs (.cond .nil .nil)) (.join (.block (uqs (.cond uqr .nil))) [(0,uqb),(3,uqd),(4,uqa)] uqr))))) (uqs .nil)))) fun xs=>by kernel_rfl
def E44:FnE Tryz.prog:=⟨44,sg44,d44,sim44⟩
def d7(p0:Int)(p1:Int)(p2:Int)(p3:Int)(p4:Int)(p5:List uc16):Option Bool:=
 (d20 p5).bind fun r=>
 bif !r then
 (d21).bind fun g=>
 some g
 else
 (d24 p0 7).bind fun f=>
 (d31 (w (1+f)) p1 p2 p3 p5).bind fun a=>
 (d27 (w (1+f)) p4).bind fun b=>
 (d42 a.2.1 b).bind fun h=>
 (d27 (w (1+f)) p3).bind fun i=>
 (d43 i b).bind fun j=>
 (d22 a.1 h j).bind fun c=>
 letJ (fun((k,l,m,n):uc2×uc16×uc2×Bool)=>
 bif n then
 some false
 else
 (d21).bind fun o=>
 bif o then
 (d44 m.2.2.2.2.2).bind fun p=>
 (d43 k.2.2.2.2.2 l).bind fun q=>
 (d44 q).bind fun s=>
 (d38 p s).bind fun t=>
 some t
 else
 some false) fun e=>
 bif !(!(decide (a.2.2.2=0)))then
 bif !(!(decide (c.2=0)))then
 (d32 (w (1+f)) a.2.2.1.2.2.2.2.2).bind fun u=>
 bif !(!u)then
 bif !(!(decide ((a.2.2.1.2.2.2.2.1.length:Int)=(c.1.2.2.2.2.1.length:Int))))then
 e (a.2.2.1,b,c.1,(decide ((a.2.2.1.2.2.2.2.1.length:Int)=0)))
 else
 e (a.2.2.1,b,c.1,true)
 else
 e (a.2.2.1,b,c.1,true)
 else
 e (a.2.2.1,b,c.1,true)
 else
 e (a.2.2.1,b,c.1,true)
def d45(n:Int)(bits:Int):Option uc16:=
 (zaa (β:=uc16) (fun((a,b,out,i):Int×Int×uc16×Int)=>
 bif (decide (i<a))then
 letJ (fun((f,g,h,j):Int×Int×uc16×Int)=>
 some (Sum.inl (f,g,h,(w (j+1))))) fun c=>
 (d24 b 128).bind fun r=>
 bif (decide (0≤(wu64 i)))then
 bif (decide ((w ((BitVec.ofInt 64 (w (Int.fdiv r (2^(min (Int.toNat (wu64 i)) 64))))&&&BitVec.ofInt 64 1).toNat:Int))=1))then
 bif (decide ((out.length:Int)+(([i]:List Int).length:Int)≤LIM))then
 c (a,b,(out++[i]),i)
 else none
 else
 c (a,b,out,i)
 else none
 else
 some (Sum.inr out)) (n,bits,[],0)).bind fun(e:List Int)=>
 bif (decide ((e.length:Int)=0))then
 some [0]
 else
 some e
def d47(n:Int)(u:List Int)(ballots:List uc16):Option uc13:=
 (zaa (β:=uc13) (fun((v,x,m,out,i):Int×uc16×uc13×uc13×Int)=>
 bif (decide (i<(m.length:Int)))then
 (zaa (β:=(Int×uc16×uc13×uc13×Int×uc16)) (fun((h,e,b,j,a,p,k):Int×uc16×uc13×uc13×Int×uc16×Int)=>
 bif (decide (0≤a)&&decide (a<(b.length:Int)))then
 bif (decide (k<((List.getD b (Int.toNat a) []).length:Int)))then
 letJ (fun((y,z,aa,ab,ac,ae,af):Int×uc16×uc13×uc13×Int×uc16×Int)=>
 some (Sum.inl (y,z,aa,ab,ac,ae,(w (af+1))))) fun o=>
 bif (decide (0≤a)&&decide (a<(b.length:Int)))then
 bif (decide (0≤k)&&decide (k<((List.getD b (Int.toNat a) []).length:Int)))then
 (d49 e (List.getD (List.getD b (Int.toNat a) []) (Int.toNat k) 0)).bind fun r=>
 bif r then
 bif (decide (0≤a)&&decide (a<(b.length:Int)))then
 bif (decide (0≤k)&&decide (k<((List.getD b (Int.toNat a) []).length:Int)))then
 bif (decide ((p.length:Int)+(([(List.getD (List.getD b (Int.toNat a) []) (Int.toNat k) 0)]:List Int).length:Int)≤LIM))then
 o (h,e,b,j,a,(p++[(List.getD (List.getD b (Int.toNat a) []) (Int.toNat k) 0)]),k)
 else none
 else none
 else none
 else
 o (h,e,b,j,a,p,k)
 else none
 else none
 else
 some (Sum.inr (h,e,b,j,a,p))
 else none) (v,x,m,out,i,[],0)).bind fun((q,f,g,s,c,l):Int×uc16×uc13×uc13×Int×uc16)=>
 bif (decide ((l.length:Int)+(f.length:Int)≤LIM))then
 bif (decide (0≤c)&&decide (c<(g.length:Int)))then
 bif (decide (((l++f).length:Int)+((List.getD g (Int.toNat c) []).length:Int)≤LIM))then
 (d99 q ((l++f)++(List.getD g (Int.toNat c) []))).bind fun t=>
 bif (decide ((s.length:Int)+(([t]:List uc16).length:Int)≤LIM))then
 some (Sum.inl (q,f,g,(s++[t]),(w (c+1))))
 else none
 else none
 else none
 else none
 else
 some (Sum.inr out)) (n,u,ballots,[],0)).bind fun(ag:List uc16)=>
 some ag
def d8(p0:Int)(p1:Int)(p2:Int)(p3:Int)(p4:List uc16)(p5:List uc16)(p6:Int):Option Bool:=
 letJ (fun((bj,bk,bl,bm,bn,bo,bp,bq):Int×Int×Int×Int×uc13×uc13×Int×Bool)=>
 bif bq then
 (d21).bind fun br=>
 some br
 else
 (d24 bj 7).bind fun c=>
 (d25 2 (w (1+c)) bk 0 bl).bind fun bs=>
 (d45 (w (1+c)) bp).bind fun ac=>
 (d46 (w (1+c)) bn 8).bind fun ae=>
 (d46 (w (1+c)) bo 8).bind fun bt=>
 (d47 (w (1+c)) ac bt).bind fun af=>
 bif (decide ((ae.length:Int)+(af.length:Int)≤LIM))then
 (zaa (β:=(Int×Int×uc6×uc16×uc13×Int×Int)) (fun((n,o,p,q,e,s,t,f):uc20)=>
 bif (decide (f<(e.length:Int)))then
 letJ (fun((bu,bv,bx,bz,ca,cb,cc,ce):uc20)=>
 some (Sum.inl (bu,bv,bx,bz,ca,cb,cc,(w (ce+1))))) fun ag=>
 letJ (fun((ah,ai,aj,g,b,ak,al,a):uc20)=>
 letJ (fun((am,an,ao,ap,aq,ar,au,av,cf):Int×Int×uc6×uc16×uc13×Int×Int×Int×Bool)=>
 bif cf then
 ag (am,an,ao,ap,aq,(w (ar+1)),au,av)
 else
 ag (am,an,ao,ap,aq,ar,au,av)) fun ax=>
 bif (decide (0≤a)&&decide (a<(b.length:Int)))then
 bif (decide ((g.length:Int)≤((List.getD b (Int.toNat a) []).length:Int)))then
 bif (decide (0≤a)&&decide (a<(b.length:Int)))then
 bif (zbz 0 (g.length:Int) (List.getD b (Int.toNat a) []).length)then
 (d44 (List.drop 0 (List.take (Int.toNat (g.length:Int)) (List.getD b (Int.toNat a) [])))).bind fun cg=>
 (d38 cg g).bind fun ch=>
 ax (ah,ai,aj,g,b,ak,al,a,ch)
 else none
 else none
 else
 ax (ah,ai,aj,g,b,ak,al,a,false)
 else none) fun ay=>
 bif (decide (0≤f)&&decide (f<(e.length:Int)))then
 bif (decide (0<((List.getD e (Int.toNat f) []).length:Int)))then
 ay (n,o,p,q,e,s,(w (t+1)),f)
 else
 ay (n,o,p,q,e,s,t,f)
 else none
 else
 some (Sum.inr (n,o,p,q,e,s,t))) ((w (1+c)),bm,bs,ac,(ae++af),0,0,0)).bind fun((k,ci,u,az,cj,ba,bb):Int×Int×uc6×uc16×uc13×Int×Int)=>
 (d48 k cj).bind fun ck=>
 (d27 k ci).bind fun cl=>
 (d22 u ck.1 cl).bind fun l=>
 letJ (fun((cm,cn,co,cp,cq,cr,cs):Int×uc6×uc16×Int×Int×uc2×Bool)=>
 bif cs then
 some false
 else
 (zaa (β:=(Int×uc6×uc16×Int×Int×uc2×Int)) (fun((v,x,m,y,z,h,aa,i):Int×uc6×uc16×Int×Int×uc2×Int×Int)=>
 bif (decide (i<(h.2.2.2.2.2.length:Int)))then
 letJ (fun((ct,cu,cv,cx,cy,cz,ea,eb):Int×uc6×uc16×Int×Int×uc2×Int×Int)=>
 some (Sum.inl (ct,cu,cv,cx,cy,cz,ea,(w (eb+1))))) fun bc=>
 bif (decide (0≤i)&&decide (i<(h.2.2.2.2.2.length:Int)))then
 (d49 m (List.getD h.2.2.2.2.2 (Int.toNat i) 0)).bind fun ec=>
 bif ec then
 bc (v,x,m,y,z,h,(w (aa+1)),i)
 else
 bc (v,x,m,y,z,h,aa,i)
 else none
 else
 some (Sum.inr (v,x,m,y,z,h,aa))) (cm,cn,co,cp,cq,cr,0,0)).bind fun((be,j,bf,bg,ab,ee,ef):Int×uc6×uc16×Int×Int×uc2×Int)=>
 bif (!decide ((w (j.2.2.2.1+1))=0))then
 (d21).bind fun eg=>
 bif eg then
 bif (decide ((ee.2.2.2.2.2.length:Int)=(bif (decide (be<j.2.2.2.1))then be else j.2.2.2.1)))then
 bif (!decide ((w ((w (Int.tdiv ab (w (j.2.2.2.1+1))))+1))=0))then
 some (decide ((bif (decide ((bf.length:Int)<(w (Int.tdiv bg (w ((w (Int.tdiv ab (w (j.2.2.2.1+1))))+1))))))then(bf.length:Int)else(w (Int.tdiv bg (w ((w (Int.tdiv ab (w (j.2.2.2.1+1))))+1)))))≤ef))
 else none
 else
 some false
 else
 some false
 else none) fun bh=>
 bif !(!(decide (l.2=0)))then
 (d32 k l.1.2.2.2.2.2).bind fun eh=>
 bh (k,u,az,ba,bb,l.1,!eh)
 else
 bh (k,u,az,ba,bb,l.1,true)
 else none) fun bi=>
 (d20 p4).bind fun r=>
 bif !(!r)then
 (d20 p5).bind fun ei=>
 bi (p0,p1,p2,p3,p4,p5,p6,!ei)
 else
 bi (p0,p1,p2,p3,p4,p5,p6,true)
def d51(n:Int):Option uc15:=
 bif (decide (n=n)&&(decide (0≤n)&&decide (n≤LIM)))then
 (zaa (β:=uc15) (fun((a,out,i):Int×uc15×Int)=>
 bif (decide (i<a))then
 bif (decide (0≤i)&&decide (i<(out.length:Int)))then
 some (Sum.inl (a,(List.set out (Int.toNat i) true),(w (i+1))))
 else none
 else
 some (Sum.inr out)) (n,(List.replicate (Int.toNat n) false),0)).bind fun(b:List Bool)=>
 some b
 else none
def d103(remain:List Bool)(i:Int):Option Bool:=
 bif (decide (i<(remain.length:Int)))then
 bif (decide (0≤i)&&decide (i<(remain.length:Int)))then
 some (List.getD remain (Int.toNat i) false)
 else none
 else
 some false
def d102(p:Int)(p1:List Bool):Option Bool:=
 (d103 p1 p).bind fun r=>
 some r
def d50(gs:List uc14)(remain:List Bool):Option (uc16×Int):=
 letJ (fun((j,f,exhausted,m):uc11×uc15×Int×Bool)=>
 bif m then
 some ([],0)
 else
 bif (decide ((f.length:Int)=(f.length:Int))&&(decide (0≤(f.length:Int))&&decide ((f.length:Int)≤LIM)))then
 (zaa (β:=(uc16×Int)) (fun((g,votes,h,c,i,b):uc15×uc16×Int×uc11×Int×Int)=>
 bif (decide (b<i))then
 letJ (fun((n,o,p,q,s,t):uc15×uc16×Int×uc11×Int×Int)=>
 some (Sum.inl (n,o,p,q,s,(w (t+1))))) fun k=>
 bif (decide (0≤b)&&decide (b<(c.length:Int)))then
 (d101 ((List.getD c (Int.toNat b) ([],0)).1) (fun a=>d102 a g)).bind fun e=>
 bif (decide (e<0))then
 k (g,votes,(w (h+((List.getD c (Int.toNat b) ([],0)).2))),c,i,b)
 else
 bif (decide (0≤e)&&decide (e<(((List.getD c (Int.toNat b) ([],0)).1).length:Int)))then
 bif (decide (0≤(List.getD ((List.getD c (Int.toNat b) ([],0)).1) (Int.toNat e) 0))&&decide ((List.getD ((List.getD c (Int.toNat b) ([],0)).1) (Int.toNat e) 0)<(votes.length:Int)))then
 bif (decide (0≤(List.getD ((List.getD c (Int.toNat b) ([],0)).1) (Int.toNat e) 0))&&decide ((List.getD ((List.getD c (Int.toNat b) ([],0)).1) (Int.toNat e) 0)<(votes.length:Int)))then
 k (g,(List.set votes (Int.toNat (List.getD ((List.getD c (Int.toNat b) ([],0)).1) (Int.toNat e) 0)) (w ((List.getD votes (Int.toNat (List.getD ((List.getD c (Int.toNat b) ([],0)).1) (Int.toNat e) 0)) 0)+((List.getD c (Int.toNat b) ([],0)).2)))),h,c,i,b)
 else none
 else none
 else none
 else none
 else
 some (Sum.inr (votes,h))) (f,(List.replicate (Int.toNat (f.length:Int)) 0),exhausted,j,(j.length:Int),0)).bind fun((u,v):uc16×Int)=>
 some (u,v)
 else none) fun l=>
 (d100 gs).bind fun r=>
 bif !(!r)then
 l (gs,remain,0,(decide (7<(remain.length:Int))))
 else
 l (gs,remain,0,true)
def d9(p0:Int)(p1:Int)(p2:Int)(p3:Int)(p4:List uc16):Option Bool:=
 (d20 p4).bind fun r=>
 bif !r then
  (d21).bind fun m=>
  some m
 else
  (d24 p0 7).bind fun c=>
  (d31 (w (1+c)) p1 p2 p3 p4).bind fun a=>
  (d51 (w (1+c))).bind fun n=>
  (d50 a.2.1 n).bind fun e=>
  letJ (fun((o,p,q,s,t,u):Int×uc6×uc11×uc2×uc16×Bool)=>
    bif u then
     some false
    else
     (zaa (β:=Unit⊕Bool) (fun((h,i,j,f,g,b):Int×uc6×uc11×uc2×uc16×Int)=>
       bif (decide (b<h))then
        letJ (fun((v,x,y,z,aa,ab,ac):Int×uc6×uc11×uc2×uc16×Int×Bool)=>
          bif ac then
           some (Sum.inr (Sum.inr false))
          else
           some (Sum.inl (v,x,y,z,aa,(w (ab+1))))) fun l=>
        bif (decide (0≤b)&&decide (b<(g.length:Int)))then
         (d52 j).bind fun ae=>
         bif (decide (ae<(w ((w (i.2.2.2.1+1))*(List.getD g (Int.toNat b) 0)))))then
          bif (decide (0≤0)&&decide (0<(f.2.2.2.2.1.length:Int)))then
           (d49 (((((((List.getD f.2.2.2.2.1 0 ([],[],(false,[],[]),(false,[],[]),(false,[],[]),[],[],[])).2).2).2).2).2).1) b).bind fun af=>
           l (h,i,j,f,g,b,!af)
          else none
         else
          l (h,i,j,f,g,b,false)
        else none
       else
        some (Sum.inr (Sum.inl ()))) (o,p,q,s,t,0)).bind fun
     |Sum.inl _=>
      (d21).bind fun ag=>
      some ag
     |Sum.inr ah=>
      some ah) fun k=>
  bif !(!(decide (a.2.2.2=0)))then
   bif !(decide ((a.2.2.1.2.2.2.2.1.length:Int)<1))then
    k ((w (1+c)),a.1,a.2.1,a.2.2.1,e.1,!(decide ((e.1.length:Int)=(w (1+c)))))
   else
    k ((w (1+c)),a.1,a.2.1,a.2.2.1,e.1,true)
  else
   k ((w (1+c)),a.1,a.2.1,a.2.2.1,e.1,true)
def d106(c:uc6)(gs:List uc14)(lots:List Int):Option uc5:=
 bif (decide ((c.2.1.length:Int)=(c.2.1.length:Int))&&(decide (0≤(c.2.1.length:Int))&&decide ((c.2.1.length:Int)≤LIM)))then
 (zaa (β:=(uc11×uc16×uc6×uc15)) (fun((b,e,f,remain,g,a):uc11×uc16×uc6×uc15×Int×Int)=>
 bif (decide (a<g))then
 bif (decide (0≤a)&&decide (a<(remain.length:Int)))then
 some (Sum.inl (b,e,f,(List.set remain (Int.toNat a) true),g,(w (a+1))))
 else none
 else
 some (Sum.inr (b,e,f,remain))) (gs,lots,c,(List.replicate (Int.toNat (c.2.1.length:Int)) false),((List.replicate (Int.toNat (c.2.1.length:Int)) false).length:Int),0)).bind fun((h,i,j,k):uc11×uc16×uc6×uc15)=>
 some (j,h,i,k,[])
 else none
def d154(l:List Int):Option uc8:=
 (zaa (β:=uc8) (fun((out,b,c,a):uc8×uc16×Int×Int)=>
 bif (decide (a<c))then
 bif (decide (0≤a)&&decide (a<(b.length:Int)))then
 (d68 (List.getD b (Int.toNat a) 0)).bind fun r=>
 bif (decide ((out.length:Int)+(([r]:List uc10).length:Int)≤LIM))then
 some (Sum.inl ((out++[r]),b,c,(w (a+1))))
 else none
 else none
 else
 some (Sum.inr out)) ([],l,(l.length:Int),0)).bind fun(e:List uc10)=>
 some e
def d107(k:uc5)(votes:List Int)(exhausted:Int):Option uc3:=
 (zaa (β:=(uc5×uc16×Int×uc4×Int)) (fun((i,j,l,r,sum,f,m,b):uc5×uc16×Int×uc4×Int×uc16×Int×Int)=>
 bif (decide (b<m))then
 bif (decide (0≤b)&&decide (b<(f.length:Int)))then
 some (Sum.inl (i,j,l,r,(w (sum+(List.getD f (Int.toNat b) 0))),f,m,(w (b+1))))
 else none
 else
 some (Sum.inr (i,j,l,r,sum))) (k,votes,exhausted,([],[],(false,[],[]),(false,[],[]),(false,[],[]),[],[],[]),0,votes,(votes.length:Int),0)).bind fun((n,s,t,ag,o):uc5×uc16×Int×uc4×Int)=>
 (d154 s).bind fun u=>
 (d68 (w ((w (Int.tdiv o 2))+1))).bind fun v=>
 (d68 t).bind fun x=>
 (d68 0).bind fun y=>
 (zaa (β:=uc3) (fun((g,quota,c,h,a):uc4×Int×uc15×Int×Int)=>
 bif (decide (a<h))then
 bif (decide (0≤a)&&decide (a<(c.length:Int)))then
 letJ (fun((e,z,keep,aa,ab,ac):uc4×Int×Int×uc15×Int×Int)=>
 (d68 keep).bind fun p=>
 bif (decide ((e.2.1.length:Int)+(([p]:List uc10).length:Int)≤LIM))then
 some (Sum.inl ((e.1,(e.2.1++[p]),e.2.2),z,aa,ab,(w (ac+1))))
 else none) fun q=>
 bif (List.getD c (Int.toNat a) false)then
 q (g,quota,1,c,h,a)
 else
 q (g,quota,0,c,h,a)
 else none
 else
 some (Sum.inr (g,quota))) ((u,[],v,x,y,[],[],[]),(w ((w (Int.tdiv o 2))+1)),n.2.2.2.1,(n.2.2.2.1.length:Int),0)).bind fun((ae,af):uc4×Int)=>
 some (ae,af)
def d108(k:uc5):Option uc16:=
 (zaa (β:=uc16) (fun((out,b,c,a):uc16×uc15×Int×Int)=>
 bif (decide (a<c))then
 letJ (fun((f,g,h,i):uc16×uc15×Int×Int)=>
 some (Sum.inl (f,g,h,(w (i+1))))) fun e=>
 bif (decide (0≤a)&&decide (a<(b.length:Int)))then
 bif (List.getD b (Int.toNat a) false)then
 bif (decide ((out.length:Int)+(([a]:List Int).length:Int)≤LIM))then
 e ((out++[a]),b,c,a)
 else none
 else
 e (out,b,c,a)
 else none
 else
 some (Sum.inr out)) ([],k.2.2.2.1,(k.2.2.2.1.length:Int),0)).bind fun(j:List Int)=>
 some j
def d109(c:Int)(p1:List Int)(p2:Int):Option Bool:=
 bif (decide (0≤c)&&decide (c<(p1.length:Int)))then
 some (decide (p2≤(List.getD p1 (Int.toNat c) 0)))
 else none
def d110(p0:uc5)(p1:List Int):Option (Int×uc16×uc5):=
 (d108 p0).bind fun r=>
 (zaa (β:=(uc5×uc16×uc16)) (fun((m,f,b,c,n,a):uc5×uc16×uc16×uc16×Int×Int)=>
 bif (decide (a<n))then
 letJ (fun((aa,ab,ac,ae,af,ag):uc5×uc16×uc16×uc16×Int×Int)=>
 some (Sum.inl (aa,ab,ac,ae,af,(w (ag+1))))) fun o=>
 bif (decide (0≤a)&&decide (a<(c.length:Int)))then
 letJ (fun((p,g,h,j,q,s,t,ah):uc5×uc16×uc16×Int×uc16×Int×Int×Bool)=>
 bif ah then
 o (p,g,[j],q,s,t)
 else
 bif (decide (0≤j)&&decide (j<(g.length:Int)))then
 bif (decide (0≤0)&&decide (0<(h.length:Int)))then
 bif (decide (0≤(List.getD h 0 0))&&decide ((List.getD h 0 0)<(g.length:Int)))then
 bif (decide ((List.getD g (Int.toNat j) 0)=(List.getD g (Int.toNat (List.getD h 0 0)) 0)))then
 bif (decide ((h.length:Int)+(([j]:List Int).length:Int)≤LIM))then
 o (p,g,(h++[j]),q,s,t)
 else none
 else
 o (p,g,h,q,s,t)
 else none
 else none
 else none) fun u=>
 bif !(decide ((b.length:Int)=0))then
 bif (decide (0≤(List.getD c (Int.toNat a) 0))&&decide ((List.getD c (Int.toNat a) 0)<(f.length:Int)))then
 bif (decide (0≤0)&&decide (0<(b.length:Int)))then
 bif (decide (0≤(List.getD b 0 0))&&decide ((List.getD b 0 0)<(f.length:Int)))then
 u (m,f,b,(List.getD c (Int.toNat a) 0),c,n,a,(decide ((List.getD f (Int.toNat (List.getD c (Int.toNat a) 0)) 0)<(List.getD f (Int.toNat (List.getD b 0 0)) 0))))
 else none
 else none
 else none
 else
 u (m,f,b,(List.getD c (Int.toNat a) 0),c,n,a,true)
 else none
 else
 some (Sum.inr (m,f,b))) (p0,p1,[],r,(r.length:Int),0)).bind fun((e,v,k):uc5×uc16×uc16)=>
 bif (decide (0≤0)&&decide (0<(k.length:Int)))then
 letJ (fun((i,ai,l,aj):uc5×uc16×Int×uc16)=>
 bif (decide (0≤l)&&decide (l<(i.2.2.2.1.length:Int)))then
 (d154 ai).bind fun x=>
 bif (decide ((i.2.2.2.2.length:Int)+(([x]:List uc8).length:Int)≤LIM))then
 some (l,aj,(i.1,i.2.1,i.2.2.1,(List.set i.2.2.2.1 (Int.toNat l) false),(i.2.2.2.2++[x])))
 else none
 else none) fun y=>
 bif (decide (1<(k.length:Int)))then
 (d155 e.1.2.2.2.2.2.2.1 e.2.2.2.2 k e.2.2.1 true).bind fun z=>
 y ((e.1,e.2.1,e.2.2.1,e.2.2.2.1,z.2.2),v,z.1,k)
 else
 y (e,v,(List.getD k 0 0),[])
 else none
def d53(p0:uc6)(p1:List uc14)(p2:List Int):Option uc1:=
 (d66 1 p0 p1 p2).bind fun r=>
 bif !(decide (r=0))then
 some ((0,0,0,0,[],[]),r)
 else
 (d106 p0 p1 p2).bind fun p=>
 (zaa (β:=uc1) (fun((k,m,f,n):uc11×uc2×uc5×uc2)=>
 (d50 k f.2.2.2.1).bind fun g=>
 (d107 f g.1 g.2).bind fun l=>
 (d108 f).bind fun j=>
 (d101 j (fun a=>d109 a g.1 l.2)).bind fun q=>
 letJ (fun((s,t,u,c,v,b,h,e):uc11×uc2×uc5×uc2×uc16×uc4×uc16×Int)=>
 bif (decide (0≤e))then
 bif (decide (0≤e)&&decide (e<(h.length:Int)))then
 bif (decide ((c.2.2.2.2.1.length:Int)+(([(b.1,b.2.1,b.2.2.1,b.2.2.2.1,b.2.2.2.2.1,[(List.getD h (Int.toNat e) 0)],b.2.2.2.2.2.2)]:List uc4).length:Int)≤LIM))then
 bif (decide (0≤e)&&decide (e<(h.length:Int)))then
 some (Sum.inr ((c.1,c.2.1,c.2.2.1,c.2.2.2.1,(c.2.2.2.2.1++[(b.1,b.2.1,b.2.2.1,b.2.2.2.1,b.2.2.2.2.1,[(List.getD h (Int.toNat e) 0)],b.2.2.2.2.2.2)]),[(List.getD h (Int.toNat e) 0)]),0))
 else none
 else none
 else none
 else
 (d110 u v).bind fun i=>
 bif (decide ((c.2.2.2.2.1.length:Int)+(([(b.1,b.2.1,b.2.2.1,b.2.2.2.1,b.2.2.2.2.1,b.2.2.2.2.2.1,[i.1],i.2.1)]:List uc4).length:Int)≤LIM))then
 some (Sum.inl (s,t,i.2.2,(c.1,c.2.1,c.2.2.1,c.2.2.2.1,(c.2.2.2.2.1++[(b.1,b.2.1,b.2.2.1,b.2.2.2.1,b.2.2.2.2.1,b.2.2.2.2.2.1,[i.1],i.2.1)]),c.2.2.2.2.2)))
 else none) fun o=>
 bif (decide ((j.length:Int)=1))then
 o (k,m,f,n,g.1,l.1,j,0)
 else
 o (k,m,f,n,g.1,l.1,j,q)) (p1,(0,0,0,0,[],[]),p,(1,1,0,(p0.2.1.length:Int),[],[]))).bind fun((x,y):uc2×Int)=>
 some (x,y)
def d10(p0:Int)(p1:Int)(p2:Int)(p3:List uc16):Option Bool:=
 (d20 p3).bind fun r=>
 bif !r then
 (d21).bind fun e=>
 some e
 else
 (d24 p0 7).bind fun b=>
 (d31 (w (1+b)) 0 p1 p2 p3).bind fun a=>
 (d25 0 (w (1+b)) 0 0 p1).bind fun f=>
 (d27 (w (1+b)) p2).bind fun g=>
 (d53 f a.2.1 g).bind fun c=>
 (d21).bind fun h=>
 bif h then
 bif (decide (a.2.2.2=0))then
 bif (decide (c.2=0))then
 bif (decide ((a.2.2.1.2.2.2.2.2.length:Int)=1))then
 (d38 a.2.2.1.2.2.2.2.2 c.1.2.2.2.2.2).bind fun i=>
 some i
 else
 some false
 else
 some false
 else
 some false
 else
 some false
end
end Go.Proofs.YtmipjomnjkmdbaaGreat
set_option linter.unusedSimpArgs false
set_option linter.unusedVariables false
open Go Go.Proofs Go.X
namespace Go.Proofs.YtmipjomnjkmdbaaGreat
theorem w_id{n:Int}(h0:-9223372036854775808≤n)(h1:n≤9223372036854775807):w n=n:=IntWalk.i64_in n ⟨h0,h1⟩
theorem wt_int{n:Int}(h:WT (.int .i64) n):-9223372036854775808≤n∧n≤9223372036854775807:=by
 have h':IntKind.i64.wrap n=n:=h
 rw[IntKind.wrap_i64]at h'
 omega
theorem wt_len{l:List Int}(h:WT (.slice (.int .i64)) l):l.length≤281474976710656:=h.1
theorem while_up{α β:Type}{f:α→Option (α⊕β)}(st:Nat→α){b:β}:∀(n:Nat),(∀i,i<n→f (st i)=some (.inl (st (i+1))))→f (st n)=some (.inr b)→zaa f (st 0)=some b:=by
 intro n hs he
 have key:∀k,k≤n→zaa f (st (n-k))=some b:=by
  intro k
  induction k with
  |zero=>intro _;exact zdw he
  |succ k ih=>
   intro hk
   have h1:=hs (n-(k+1)) (by omega)
   rw[show n-(k+1)+1=n-k by omega]at h1
   exact zgo h1 (ih (by omega))
 have:=key n (Nat.le_refl n)
 rwa[Nat.sub_self]at this
theorem zae{α β γ:Type}{f:α→Option (α⊕β)}{k:β→Option γ}{a0:α}{b:β}{r:Option γ}(st:Nat→α)(n:Nat)(h0:st 0=a0)(hs:∀i,i<n→f (st i)=some (.inl (st (i+1))))(he:f (st n)=some (.inr b))(hk:k b=r):(zaa f a0).bind k=r:=by
 rw[←h0,while_up st n hs he]
 exact hk
def zar(p:Int→Bool):List Int→Nat
 | []=>0
 |x::l=>if p x then 0 else zar p l+1
theorem zez(p:Int→Bool):∀l,zar p l≤l.length
 | []=>Nat.le_refl 0
 |x::l=>by
  unfold zar
  split
  ·exact xbn _
  ·have:=zez p l;simp;omega
theorem zct(p:Int→Bool):∀l (i:Nat),i<zar p l→p (l.getD i 0)=false
 | [],i,h=>by simp[zar]at h
 |x::l,i,h=>by
  unfold zar at h
  split at h
  ·omega
  ·rename_i hx
   cases i with
   |zero=>simpa using hx
   |succ i=>
    have:=zct p l i (by omega)
    simpa using this
theorem zfa(p:Int→Bool):∀l,zar p l<l.length→p (l.getD (zar p l) 0)=true
 | [],h=>by simp at h
 |x::l,h=>by
  unfold zar at h ⊢
  split at h
  ·rename_i hx;rw[if_pos hx];simpa using hx
  ·rename_i hx
   rw[if_neg hx]
   have:=zfa p l (by simp at h;omega)
   simpa using this
theorem zhg(p:Int→Bool):∀l,zar p l<l.length↔∃x∈l,p x=true
 | []=>by simp[zar]
 |x::l=>by
  unfold zar
  by_cases hx:p x=true
  ·rw[if_pos hx];simp[hx]
  ·rw[if_neg hx]
   have:=zhg p l
   simp[hx]at this ⊢
   exact this
theorem zjq{x n:Int}(hx:WT (.int .i64) x)(hn:0<n)(hn':n≤4611686018427387904):d24 x n=some (x%n):=by
 have hx':=wt_int hx
 unfold d24
 have h0:n≠0:=by omega
 have h1:-n<Int.tmod x n:=Int.lt_tmod_of_pos x hn
 have h2:Int.tmod x n<n:=Int.tmod_lt_of_pos x hn
 have h3:w (Int.tmod x n)=Int.tmod x n:=w_id (by omega) (by omega)
 have h4:w (Int.tmod x n+n)=Int.tmod x n+n:=w_id (by omega) (by omega)
 have h5:Int.tmod (Int.tmod x n+n) n=x%n:=by
  have h6:0≤Int.tmod x n+n:=by omega
  rw[Int.tmod_eq_emod_of_nonneg h6,Int.add_emod_right]
  rw[Int.tmod_eq_emod]
  split
  ·simp
  ·have:((n.natAbs:Int))=n:=Int.natAbs_of_nonneg (by omega)
   rw[this,Int.sub_emod_right]
   exact Int.emod_emod_of_dvd x (Int.dvd_refl n)
 have h7:w (x%n)=x%n:=w_id (by have:=Int.emod_nonneg x h0;omega) (by have:=xhn x hn;omega)
 simp[h0,h3,h4,h5,h7]
theorem zgt(x:Int){n:Int}(hn:0<n):0≤x%n∧x%n<n:=⟨Int.emod_nonneg x (by omega),xhn x hn⟩
theorem zou{s:List Int}(v:Int)(hs:s.length≤281474976710656):d189 s v=some (if zar (fun x=>decide (v=x)) s<s.length then(zar (fun x=>decide (v=x)) s:Int)else -1):=by
 unfold d189
 have hle:=zez (fun x=>decide (v=x)) s
 have hstep:∀i,i<zar (fun x=>decide (v=x)) s→w ((i:Int)+1)=((i+1:Nat):Int):=fun i hi=>by rw[w_id (by omega) (by omega)];omega
 by_cases h:zar (fun x=>decide (v=x)) s<s.length
 ·have hat:=zfa _ s h
  refine zae (b:=.inr (zar (fun x=>decide (v=x)) s:Int)) (fun i=>(s,v,(s.length:Int),(i:Int))) (zar (fun x=>decide (v=x)) s) rfl ?_ ?_ (by simp[h])
  ·intro i hi
   have h1:=zct _ s i hi
   have h2:(i:Int)<(s.length:Int):=by omega
   have h3:(0:Int)≤(i:Int):=by omega
   simp only[xar,xac]at h1
   simp[h2,h3,h1,hstep i hi]
  ·have h2:(zar (fun x=>decide (v=x)) s:Int)<(s.length:Int):=by omega
   have h3:(0:Int)≤(zar (fun x=>decide (v=x)) s:Int):=by omega
   simp only[xaj,xac]at hat
   simp[h2,h3,←hat]
 ·refine zae (b:=.inl ()) (fun i=>(s,v,(s.length:Int),(i:Int))) s.length rfl ?_ ?_ (by simp[h])
  ·intro i hi
   have h1:=zct (fun x=>decide (v=x)) s i (by omega)
   have h2:(i:Int)<(s.length:Int):=by omega
   have h3:(0:Int)≤(i:Int):=by omega
   simp only[xar,xac]at h1
   simp[h2,h3,h1,hstep i (by omega)]
  ·simp
theorem d49_eq{l:List Int}(x:Int)(hs:l.length≤281474976710656):d49 l x=some (decide (x∈l)):=by
 unfold d49
 have hle:=zez (fun y=>decide (y=x)) l
 have hm:=zhg (fun y=>decide (y=x)) l
 have hstep:∀i,i<zar (fun y=>decide (y=x)) l→w ((i:Int)+1)=((i+1:Nat):Int):=fun i hi=>by rw[w_id (by omega) (by omega)];omega
 by_cases h:zar (fun y=>decide (y=x)) l<l.length
 ·have hat:=zfa _ l h
  have hx:x∈l:=by obtain⟨z,h1,h2⟩:=hm.1 h;have:=of_decide_eq_true h2;rw[←this];exact h1
  refine zae (b:=.inr true) (fun i=>(l,x,(i:Int))) (zar (fun y=>decide (y=x)) l) rfl ?_ ?_ (by simp[hx])
  ·intro i hi
   have h1:=zct _ l i hi
   have h2:(i:Int)<(l.length:Int):=by omega
   have h3:(0:Int)≤(i:Int):=by omega
   simp only[xar,xac]at h1
   simp[h2,h3,h1,hstep i hi]
  ·have h2:(zar (fun y=>decide (y=x)) l:Int)<(l.length:Int):=by omega
   have h3:(0:Int)≤(zar (fun y=>decide (y=x)) l:Int):=by omega
   simp only[xaj,xac]at hat
   simp[h2,h3,hat]
 ·have hx:x∉l:=fun hv=>h (hm.2 ⟨x,hv,by simp⟩)
  refine zae (b:=.inl ()) (fun i=>(l,x,(i:Int))) l.length rfl ?_ ?_ (by simp[hx])
  ·intro i hi
   have h1:=zct (fun y=>decide (y=x)) l i (by omega)
   have h2:(i:Int)<(l.length:Int):=by omega
   have h3:(0:Int)≤(i:Int):=by omega
   simp only[xar,xac]at h1
   simp[h2,h3,h1,hstep i (by omega)]
  ·simp
end Go.Proofs.YtmipjomnjkmdbaaGreat
open Go Go.Proofs Go.X
namespace Go.Proofs.YtmipjomnjkmdbaaGreat
def zcc(p:Nat→Bool):Nat→Nat
 | 0=>0
 |n+1=>if zcc p n<n then zcc p n else if p n then n else n+1
theorem zej(p:Nat→Bool):∀n,zcc p n≤n
 | 0=>Nat.le_refl 0
 |n+1=>by
  unfold zcc
  have:=zej p n
  split
  ·omega
  ·split<;>omega
theorem zci(p:Nat→Bool):∀n i,i<zcc p n→p i=false
 | 0,i,h=>by simp[zcc]at h
 |n+1,i,h=>by
  unfold zcc at h
  have hle:=zej p n
  split at h
  ·exact zci p n i h
  ·split at h
   ·rename_i h1 h2
    exact zci p n i (by omega)
   ·rename_i h1 h2
    rcases xcw i n with h3|h3
    ·exact zci p n i (by omega)
    ·have:i=n:=by omega
     subst this
     simpa using h2
theorem zek(p:Nat→Bool):∀n,zcc p n<n→p (zcc p n)=true
 | 0,h=>by simp at h
 |n+1,h=>by
  unfold zcc at h ⊢
  have hle:=zej p n
  split
  ·rename_i h1;exact zek p n h1
  ·rename_i h1
   rw[if_neg h1]at h
   split
   ·rename_i h2;exact h2
   ·rename_i h2;rw[if_neg h2]at h;omega
theorem zmw(p:Nat→Bool)(n:Nat):¬zcc p n<n↔∀i,i<n→p i=false:=by
 constructor
 ·intro h i hi
  have:=zej p n
  exact zci p n i (by omega)
 ·intro h hlt
  have:=zek p n hlt
  rw[h _ hlt]at this
  cases this
end Go.Proofs.YtmipjomnjkmdbaaGreat
open Go Go.Proofs Go.X
namespace Go.Proofs.YtmipjomnjkmdbaaGreat
def zjl(l:List Int):Nat→List Bool
 | 0=>[false,false,false,false,false,false,false]
 |i+1=>(zjl l i).set (Int.toNat (l.getD i 0)) true
end Go.Proofs.YtmipjomnjkmdbaaGreat
open Go Go.Proofs Go.X
namespace Go.Proofs.YtmipjomnjkmdbaaGreat
def outs(n:Int)(l:List Int):Nat→List Int
 | 0=>[]
 |i+1=>if l.getD i 0%n∈outs n l i then outs n l i else outs n l i++[l.getD i 0%n]
def bal(n:Int)(l:List Int):List Int:=outs n l (zcc (fun i=>decide (n≤((outs n l i).length:Int))) l.length)
theorem outs_len(n:Int)(l:List Int):∀i,(outs n l i).length≤i
 | 0=>Nat.le_refl 0
 |i+1=>by
  have:=outs_len n l i
  unfold outs
  split
  ·omega
  ·simp;omega
theorem outs_in{n:Int}(hn:0<n)(l:List Int):∀i,∀x∈outs n l i,0≤x∧x<n
 | 0,x,hx=>by simp[outs]at hx
 |i+1,x,hx=>by
  unfold outs at hx
  split at hx
  ·exact outs_in hn l i x hx
  ·rcases List.mem_append.1 hx with hx|hx
   ·exact outs_in hn l i x hx
   ·simp at hx
    rw[hx]
    exact zgt _ hn
theorem ziv(n:Int)(l:List Int):∀i,(outs n l i).Nodup
 | 0=>List.nodup_nil
 |i+1=>by
  unfold outs
  split
  ·exact ziv n l i
  ·rename_i h
   refine xfh.2 ⟨ziv n l i,by simp,fun x hx y hy=>?_⟩
   simp at hy
   rintro rfl
   exact h (by rw[xac,←hy];exact hx)
theorem d99_eq{n:Int}{l:List Int}(hn:0<n)(hn':n≤1000)(hl:WT (.slice (.int .i64)) l):d99 n l=some (bal n l):=by
 unfold d99 bal
 have hlen:=wt_len hl
 have hle:=zej (fun i=>decide (n≤((outs n l i).length:Int))) l.length
 have hstep:∀i:Nat,i<l.length→w ((i:Int)+1)=((i+1:Nat):Int):=fun i hi=>by rw[w_id (by omega) (by omega)];omega
 refine zae (b:=outs n l (zcc (fun i=>decide (n≤((outs n l i).length:Int))) l.length)) (fun i=>(n,l,outs n l i,(i:Int))) (zcc (fun i=>decide (n≤((outs n l i).length:Int))) l.length) rfl (fun i hi=>?_) ?_ rfl
 ·have h1:=zci _ _ i hi
  simp only[xar]at h1
  have h1':((outs n l i).length:Int)<n:=by omega
  have h2:(i:Int)<(l.length:Int):=by omega
  have h3:(0:Int)≤(i:Int):=by omega
  have hx:WT (.int .i64) (l.getD i 0):=by
   rw[xac,xag (by omega)]
   exact hl.2 _ (xbm _)
  have hlim:((outs n l i).length:Int)+(([l.getD i 0%n]:List Int).length:Int)≤LIM:=by rw[zfe];simp;omega
  have ho:=outs_len n l i
  simp only[h2,h3,h1',xaw,xad,xah,letJ,xan,zjq hx hn (by omega),xab,d49_eq (l:=outs n l i) _ (by omega),hstep i (by omega),hlim]
  have e:outs n l (i+1)=if l.getD i 0%n∈outs n l i then outs n l i else outs n l i++[l.getD i 0%n]:=rfl
  by_cases c:l.getD i 0%n∈outs n l i
  ·rw[if_pos c]at e
   simp only[c,e];rfl
  ·rw[if_neg c]at e
   simp only[c,e];rfl
 ·by_cases h:zcc (fun i=>decide (n≤((outs n l i).length:Int))) l.length<l.length
  ·have h1:=zek _ _ h
   simp only[xaj]at h1
   have h1':¬((outs n l (zcc (fun i=>decide (n≤((outs n l i).length:Int))) l.length)).length:Int)<n:=by omega
   have h2:((zcc (fun i=>decide (n≤((outs n l i).length:Int))) l.length:Nat):Int)<(l.length:Int):=by omega
   simp only[h2,h1',letJ,xaw,xcf,xad,xae]
  ·have h2:¬((zcc (fun i=>decide (n≤((outs n l i).length:Int))) l.length:Nat):Int)<(l.length:Int):=by omega
   simp only[h2,letJ,xcf,xae]
end Go.Proofs.YtmipjomnjkmdbaaGreat
open Go Go.Proofs Go.X
namespace Go.Proofs.YtmipjomnjkmdbaaGreat
theorem zcq{α β γ:Type}{f:α→Option (α⊕β)}{k:β→Option γ}{a0:α}{r:Option γ}(st:Nat→α)(p:Nat→Bool)(n:Nat)(bx:Nat→β)(e:β)(h0:st 0=a0)
  (hs:∀i,i<n→f (st i)=if p i then some (.inr (bx i))else some (.inl (st (i+1)))) (he:f (st n)=some (.inr e))
  (h1:∀i,i<n→p i=true→(∀j,j<i→p j=false)→k (bx i)=r) (h2:(∀i,i<n→p i=false)→k e=r):(zaa f a0).bind k=r:=by
 have hle:=zej p n
 by_cases h:zcc p n<n
 ·refine zae (b:=bx (zcc p n)) st (zcc p n) h0 (fun i hi=>?_) ?_ (h1 _ h (zek p n h) (zci p n))
  ·have:=hs i (by omega)
   rw[zci p n i hi]at this
   exact this
  ·have:=hs _ h
   rw[zek p n h]at this
   exact this
 ·have hall:=(zmw p n).1 h
  refine zae (b:=e) st n h0 (fun i hi=>?_) he (h2 hall)
  have:=hs i hi
  rw[hall i hi]at this
  exact this
theorem zbg{α:Type}(l:List α)(d:α){i:Nat}(h:i<l.length):l.getD i d=l[i]:=by
 rw[xac,xag h,Option.getD_some]
def isB(n:Int)(l:List Int):Prop:=l.Nodup∧∀x∈l,0≤x∧x<n
instance(n:Int)(l:List Int):Decidable (isB n l):=inferInstanceAs (Decidable (_∧_))
theorem zok(n:Int)(l:List Int):isB n l↔∀i,i<l.length→0≤l.getD i 0∧l.getD i 0<n∧l.getD i 0∉l.take i:=by
 constructor
 ·rintro⟨h1,h2⟩ i hi
  rw[zbg l 0 hi]
  refine⟨(h2 _ (xbm hi)).1,(h2 _ (xbm hi)).2,fun hm=>?_⟩
  obtain⟨j,hj,e⟩:=xge.1 hm
  exact xdu.1 h1 j i (by omega) hi (by omega) e
 ·intro h
  refine⟨xdu.2 fun i j hi hj hij e=>?_,fun x hx=>?_⟩
  ·have:=(h j hj).2.2
   rw[zbg l 0 hj,←e]at this
   exact this (xge.2 ⟨i,by omega,rfl⟩)
  ·obtain⟨i,hi,rfl⟩:=xbq hx
   have:=h i hi
   rw[zbg l 0 hi]at this
   exact⟨this.1,this.2.1⟩
theorem zmo(l:List Int):∀i,(zjl l i).length=7
 | 0=>rfl
 |i+1=>by unfold zjl;rw[List.length_set];exact zmo l i
theorem zkx(l:List Int):∀i,i≤l.length→(∀j,j<i→0≤l.getD j 0∧l.getD j 0<7)→∀c:Nat,c<7→(zjl l i).getD c false=decide ((c:Int)∈l.take i)
 | 0,_,_,c,hc=>by
  have:c=0∨c=1∨c=2∨c=3∨c=4∨c=5∨c=6:=by omega
  rcases this with h|h|h|h|h|h|h<;>subst h<;>rfl
 |i+1,hi,hb,c,hc=>by
  have ih:=zkx l i (by omega) (fun j hj=>hb j (by omega)) c hc
  have hl:=zmo l i
  have hx:=hb i (by omega)
  unfold zjl
  rw[xgz,xhk]at ih
  rw[xgz,xhk,xac,List.getElem?_set,hl,xeo,List.mem_append,←ih,xag (by omega:i<l.length)]
  rw[zbg l 0 (by omega:i<l.length)]at hx ⊢
  generalize l[i]=x at hx
  by_cases e:x.toNat=c
  ·have e':(c:Int)=x:=by omega
   rw[if_pos e,if_pos (by omega)]
   simp[e']
  ·have e':¬(c:Int)=x:=by omega
   rw[if_neg e]
   simp[e',xac]
theorem zgz{i n:Nat}(h:i≤n):zbz 0 (i:Int) n=true:=by
 unfold zbz
 simp only[xaf,xaj]
 omega
theorem d32_eq(n:Int){l:List Int}(hl:l.length≤281474976710656):d32 n l=some (decide (isB n l)):=by
 unfold d32
 have hstep:∀i:Nat,i<l.length→w ((i:Int)+1)=((i+1:Nat):Int):=fun i hi=>by rw[w_id (by omega) (by omega)];omega
 refine zcq (fun i=>(n,l,(i:Int))) (fun i=>decide (l.getD i 0<0)||(decide (n≤l.getD i 0)||decide (l.getD i 0∈l.take i))) l.length (fun _=>.inr false) (.inl ()) rfl (fun i hi=>?_) ?_ (fun i hi hp hj=>?_) (fun hall=>?_)
 ·have h2:(i:Int)<(l.length:Int):=by omega
  have h3:(0:Int)≤(i:Int):=by omega
  simp only[h2,h3,letJ,xaw,xad,xah,xan,hstep i hi,zgz (xfj hi),xhh,d49_eq (l:=l.take i) _ (by simp;omega),xab]
  by_cases c1:l.getD i 0<0
  ·simp only[c1];rfl
  ·by_cases c2:n≤l.getD i 0
   ·simp only[c1,c2];rfl
   ·by_cases c3:l.getD i 0∈l.take i
    ·simp only[c1,c2,c3];rfl
    ·simp only[c1,c2,c3];rfl
 ·simp
 ·have:¬isB n l:=fun h=>by
   have:=(zok n l).1 h i hi
   simp only[xdf,xaj]at hp
   rcases hp with hp|hp|hp
   ·omega
   ·omega
   ·exact this.2.2 hp
  simp[this]
 ·have:isB n l:=(zok n l).2 fun i hi=>by
   have:=hall i hi
   simp only[xbt,xar]at this
   exact⟨by omega,by omega,this.2.2⟩
  simp[this]
end Go.Proofs.YtmipjomnjkmdbaaGreat
open Go Go.Proofs Go.X
namespace Go.Proofs.YtmipjomnjkmdbaaGreat
theorem zji{α β γ:Type}{f:α→Option (α⊕β)}{k:β→Option γ}{a0:α}{r:Option γ}(st:Nat→α)(p:Nat→Bool)(n:Nat)(bx:Nat→β)(e:β)(h0:st 0=a0)
  (hs:∀i,i<n→(∀j,j<i→p j=false)→f (st i)=if p i then some (.inr (bx i))else some (.inl (st (i+1)))) (he:(∀j,j<n→p j=false)→f (st n)=some (.inr e))
  (h1:∀i,i<n→p i=true→(∀j,j<i→p j=false)→k (bx i)=r) (h2:(∀i,i<n→p i=false)→k e=r):(zaa f a0).bind k=r:=by
 have hle:=zej p n
 by_cases h:zcc p n<n
 ·refine zae (b:=bx (zcc p n)) st (zcc p n) h0 (fun i hi=>?_) ?_ (h1 _ h (zek p n h) (zci p n))
  ·have:=hs i (by omega) (fun j hj=>zci p n j (by omega))
   rw[zci p n i hi]at this
   exact this
  ·have:=hs _ h (zci p n)
   rw[zek p n h]at this
   exact this
 ·have hall:=(zmw p n).1 h
  refine zae (b:=e) st n h0 (fun i hi=>?_) (he hall) (h2 hall)
  have:=hs i hi (fun j hj=>hall j (by omega))
  rw[hall i hi]at this
  exact this
theorem lt_at:∀(i:Nat) (a b:List Int),i<a.length→i<b.length→(∀j,j<i→a.getD j 0=b.getD j 0)→a.getD i 0≠b.getD i 0→(a<b↔a.getD i 0<b.getD i 0)
 |_,[],_,h,_,_,_=>by simp at h
 |_,_::_,[],_,h,_,_=>by simp at h
 | 0,x::a,y::b,_,_,_,hne=>by
  rw[xdt]
  simp only[xex]at hne ⊢
  constructor
  ·rintro(h|⟨h,_⟩)
   ·exact h
   ·exact absurd h hne
  ·exact .inl
 |i+1,x::a,y::b,h1,h2,h3,hne=>by
  rw[xdt]
  have h0:=h3 0 (by omega)
  simp only[xex]at h0
  subst h0
  simp only[List.getD_cons_succ]at hne ⊢
  have:=lt_at i a b (by simp at h1;omega) (by simp at h2;omega) (fun j hj=>by have:=h3 (j+1) (by omega);simpa using this) hne
  constructor
  ·rintro(h|⟨_,h⟩)
   ·omega
   ·exact this.1 h
  ·exact fun h=>.inr ⟨by first | rfl | trivial,this.2 h⟩
theorem lt_end:∀(a b:List Int),(∀j,j<a.length→j<b.length→a.getD j 0=b.getD j 0)→(a<b↔a.length<b.length)
 | [],[],_=>by simp
 | [],y::b,_=>by simp
 |x::a,[],_=>by simp
 |x::a,y::b,h=>by
  have h0:=h 0 (by simp) (by simp)
  simp only[xex]at h0
  subst h0
  have:=lt_end a b fun j h1 h2=>by have:=h (j+1) (by simp;omega) (by simp;omega);simpa using this
  rw[xdt]
  simp only[xbx,Nat.add_lt_add_iff_right]
  rw[←this]
  constructor
  ·rintro(h|⟨_,h⟩)
   ·omega
   ·exact h
  ·exact fun h=>.inr ⟨by first | rfl | trivial,h⟩
theorem lex_tri:∀(a b:List Int),a<b∨a=b∨b<a
 | [],[]=>.inr (.inl rfl)
 | [],y::b=>.inl (by simp)
 |x::a,[]=>.inr (.inr (by simp))
 |x::a,y::b=>by
  simp only[xdt]
  rcases Int.lt_trichotomy x y with h|h|h
  ·exact .inl (.inl h)
  ·subst h
   rcases lex_tri a b with h|h|h
   ·exact .inl (.inr ⟨rfl,h⟩)
   ·subst h;exact .inr (.inl rfl)
   ·exact .inr (.inr (.inr ⟨rfl,h⟩))
  ·exact .inr (.inr (.inl h))
theorem zdy:∀(a:List Int),¬a<a
 | []=>by simp
 |x::a=>by
  rw[xdt]
  rintro(h|⟨_,h⟩)
  ·omega
  ·exact zdy a h
theorem zic:∀{a b c:List Int},a<b→b<c→a<c
 | [],_,[],_,h=>by simp at h
 | [],_,z::c,_,_=>by simp
 |x::a,[],_,h,_=>by simp at h
 |x::a,y::b,[],_,h=>by simp at h
 |x::a,y::b,z::c,h1,h2=>by
  rw[xdt]at *
  rcases h1 with h1|⟨h1,h3⟩
  ·rcases h2 with h2|⟨h2,_⟩
   ·exact .inl (by omega)
   ·exact .inl (by omega)
  ·rcases h2 with h2|⟨h2,h4⟩
   ·exact .inl (by omega)
   ·exact .inr ⟨by omega,zic h3 h4⟩
theorem lex_asymm{a b:List Int}(h:a<b):¬b<a:=fun h'=>zdy a (zic h h')
theorem d97_eq{a b:List Int}(ha:a.length≤281474976710656)(hb:b.length≤281474976710656):d97 a b=some (decide (a<b)):=by
 unfold d97
 refine zcq (fun i=>(a,b,(i:Int))) (fun i=>!decide (a.getD i 0=b.getD i 0)) (min a.length b.length) (fun i=>.inr (decide (a.getD i 0<b.getD i 0))) (.inl (a,b)) rfl (fun i hi=>?_) ?_ (fun i hi hp hj=>?_) (fun hall=>?_)
 ·have h1:(i:Int)<(a.length:Int):=by omega
  have h2:(i:Int)<(b.length:Int):=by omega
  have h3:(0:Int)≤(i:Int):=by omega
  have hw:w ((i:Int)+1)=((i+1:Nat):Int):=by rw[w_id (by omega) (by omega)];omega
  simp only[h1,h2,h3,hw,letJ,xaw,xad,xah,xan]
  by_cases c:a.getD i 0=b.getD i 0
  ·simp only[c];rfl
  ·simp only[c];rfl
 ·simp only[letJ]
  by_cases c:a.length≤b.length
  ·have h1:¬((min a.length b.length:Nat):Int)<(a.length:Int):=by omega
   simp only[h1,xcf,xae]
  ·have h1:((min a.length b.length:Nat):Int)<(a.length:Int):=by omega
   have h2:¬((min a.length b.length:Nat):Int)<(b.length:Int):=by omega
   simp only[h1,h2,xaw,xcf,xad,xae]
 ·have hne:a.getD i 0≠b.getD i 0:=by simpa using hp
  have:=lt_at i a b (by omega) (by omega) (fun j hj'=>by have:=hj j hj';simpa using this) hne
  simp[this]
 ·have:=lt_end a b fun j h1 h2=>by have:=hall j (by omega);simpa using this
  have e:((a.length:Int)<(b.length:Int))↔a<b:=by rw[this];omega
  simp[e]
theorem d38_eq{a b:List Int}(ha:a.length≤281474976710656)(hb:b.length≤281474976710656):d38 a b=some (decide (a=b)):=by
 unfold d38
 rw[d97_eq ha hb,d97_eq hb ha]
 simp only[xab]
 rcases lex_tri a b with h|h|h
 ·have:a≠b:=fun e=>zdy a (by rw[←e]at h;exact h)
  simp[h,this]
 ·subst h
  simp[zdy a]
 ·have:a≠b:=fun e=>zdy a (by rw[←e]at h;exact h)
  have h':=lex_asymm h
  simp[h,h',this]
theorem d198_eq(x y:Int):d198 x y=some (if x<y then -1 else if y<x then 1 else 0):=by
 unfold d198 d215
 by_cases h:x<y
 ·simp[h]
 ·by_cases h':y<x
  ·simp[h,h']
  ·simp[h,h']
def cmpL(a b:List Int):Int:=if a<b then -1 else if b<a then 1 else 0
theorem d166_eq{a b:List Int}(ha:a.length≤281474976710656)(hb:b.length≤281474976710656):d166 a b=some (cmpL a b):=by
 unfold d166 cmpL
 refine zcq (fun i=>(a,b,a,(a.length:Int),(i:Int))) (fun i=>decide (b.length≤i)|| !decide (a.getD i 0=b.getD i 0)) a.length (fun i=>.inr (if b.length≤i then 1 else if a.getD i 0<b.getD i 0 then -1 else 1)) (.inl (a,b)) rfl (fun i hi=>?_) ?_ (fun i hi hp hj=>?_) (fun hall=>?_)
 ·have h1:(i:Int)<(a.length:Int):=by omega
  have h3:(0:Int)≤(i:Int):=by omega
  have hw:w ((i:Int)+1)=((i+1:Nat):Int):=by rw[w_id (by omega) (by omega)];omega
  simp only[h1,h3,hw,xaw,xad,xah,xan,d198_eq,xab]
  by_cases c0:b.length≤i
  ·have h2:(b.length:Int)≤(i:Int):=by omega
   simp[h2,c0]
  ·have h2:¬(b.length:Int)≤(i:Int):=by omega
   have h4:(i:Int)<(b.length:Int):=by omega
   simp only[h2,h4,c0,xaw,xcf,xad,xae,xch,xbg]
   rcases Int.lt_trichotomy (a.getD i 0) (b.getD i 0)with h|h|h
   ·have h5:¬a.getD i 0=b.getD i 0:=by omega
    simp only[h,h5,if_true];rfl
   ·have h5:¬a.getD i 0<b.getD i 0:=by omega
    have h6:¬b.getD i 0<a.getD i 0:=by omega
    simp only[h,xch];simp
   ·have h5:¬a.getD i 0=b.getD i 0:=by omega
    have h6:¬a.getD i 0<b.getD i 0:=by omega
    simp only[h,h5,h6,if_true,xch];rfl
 ·simp
 ·simp only[xak]
  by_cases c0:b.length≤i
  ·have h1:=lt_end b a fun j h1 h2=>by
    have:=hj j (by omega)
    simp only[xbt,xar,xek,xaj]at this
    exact this.2.symm
   have h2:b<a:=h1.2 (by omega)
   simp[c0,h2,lex_asymm h2]
  ·have heq:∀j,j<i→a.getD j 0=b.getD j 0:=fun j hj'=>by
    have:=hj j hj'
    simp only[xbt,xar,xek,xaj]at this
    exact this.2
   have hne:a.getD i 0≠b.getD i 0:=by simpa[c0]using hp
   have h1:=lt_at i a b hi (by omega) heq hne
   have h2:=lt_at i b a (by omega) hi (fun j hj'=>(heq j hj').symm) (Ne.symm hne)
   simp only[c0,xch,h1,h2]
   by_cases c:a.getD i 0<b.getD i 0
   ·simp only[c,if_true]
   ·have:b.getD i 0<a.getD i 0:=by omega
    simp only[c,this,if_true,xch]
 ·have key:∀j,j<a.length→j<b.length∧a.getD j 0=b.getD j 0:=fun j h1=>by
   have:=hall j h1
   simp only[xbt,xar,xek,xaj]at this
   omega
  have h1:=lt_end a b fun j h1 h2=>(key j h1).2
  have h2:=lt_end b a fun j h1 h2=>(key j h2).2.symm
  have h3:a.length≤b.length:=by
   rcases xbw a.length with h|h
   ·omega
   ·have:=(key (a.length-1) (by omega)).1;omega
  have h4:¬b<a:=by rw[h2];omega
  simp only[h4,xch]
  by_cases c:a<b
  ·have:(a.length:Int)<(b.length:Int):=by have:=h1.1 c;omega
   simp[c,this]
  ·have:¬(a.length:Int)<(b.length:Int):=by rw[h1]at c;omega
   simp[c,this]
abbrev Grp:=List Int×Int
def addG:List Grp→List Int→Int→List Grp
 | [],p,k=>[(p,k)]
 |g::gs,p,k=>if g.1<p then g::addG gs p k else if g.1=p then(g.1,g.2+k)::gs else(p,k)::g::gs
def zil(gs:List Grp)(p:List Int):Bool:=gs.all fun g=>decide (g.1<p)
theorem addG_app:∀(gs:List Grp) (g:Grp) (p:List Int) (k:Int),addG (gs++[g]) p k=if zil gs p then gs++addG [g] p k else addG gs p k++[g]
 | [],g,p,k=>by simp[zil]
 |h::gs,g,p,k=>by
  have ih:=addG_app gs g p k
  unfold zil at ih ⊢
  rw[xbu]
  unfold addG
  by_cases c:h.1<p
  ·simp only[c,if_true,ih,xhm,xaw,xbd]
   by_cases c2:(gs.all fun g=>decide (g.1<p))=true
   ·rw[if_pos c2,if_pos c2]
    simp[addG]
   ·rw[if_neg c2,if_neg c2]
    simp
  ·by_cases c2:h.1=p
   ·have:¬h.1<h.1:=zdy _
    subst c2
    simp[this]
   ·simp[c,c2]
theorem addG_all{gs:List Grp}{p:List Int}(k:Int)(h:zil gs p=true):addG gs p k=gs++[(p,k)]:=by
 induction gs with
 |nil=>rfl
 |cons g gs ih=>
  unfold zil at h ih
  simp only[xhm,xaf,xaj]at h
  unfold addG
  simp only[h.1,if_true,ih h.2,xbu]
theorem zhl{α:Type}(l:List α)(d:α){i:Nat}(h:i<l.length):l.take (i+1)=l.take i++[l.getD i d]:=by
 rw[xeo,xag h,zbg l d h]
 rfl
theorem addG_len:∀(gs:List Grp) (p:List Int) (k:Int),(addG gs p k).length≤gs.length+1
 | [],p,k=>by simp[addG]
 |g::gs,p,k=>by
  have:=addG_len gs p k
  unfold addG
  split
  ·simp;omega
  ·split<;>simp
theorem d98_eq{gs:List Grp}{p:List Int}{k:Int}(hl:gs.length≤1000000)(hp:p.length≤281474976710656)(hk:0≤k∧k≤1000000)(hg:∀g∈gs,g.1.length≤281474976710656∧0≤g.2∧g.2≤1000000):d98 gs p k=some (addG gs p k):=by
 unfold d98
 refine zae (b:=(p,k,(if zil gs p then gs else addG gs p k),!zil gs p)) (fun i=>(gs,p,k,(if zil (gs.take i) p then gs.take i else addG (gs.take i) p k),!zil (gs.take i) p,(i:Int))) gs.length rfl (fun i hi=>?_) ?_ ?_
 ·have h1:(i:Int)<(gs.length:Int):=by omega
  have h3:(0:Int)≤(i:Int):=by omega
  have hw:w ((i:Int)+1)=((i+1:Nat):Int):=by rw[w_id (by omega) (by omega)];omega
  have hm:gs.getD i ([],0)∈gs:=by rw[zbg gs _ hi];exact xbm _
  obtain⟨g1,g2,g3⟩:=hg _ hm
  have ht:=zhl gs ([],0) hi
  have hw2:w ((gs.getD i ([],0)).2+k)=(gs.getD i ([],0)).2+k:=w_id (by omega) (by omega)
  simp only[h1,h3,hw,letJ,xaw,xad,xah,xan]
  generalize gs.getD i ([],0)=g at *
  have hl1:(gs.take i).length≤1000000:=by simp;omega
  have hl2:=addG_len (gs.take i) p k
  have hlim:∀(l:List Grp) (z:Grp),l.length≤1000002→((l.length:Int)+(([z]:List Grp).length:Int)≤LIM):=fun l z h=>by rw[zfe];simp;omega
  have happ:=addG_app (gs.take i) g p k
  have hall:zil (gs.take i++[g]) p=(zil (gs.take i) p&&decide (g.1<p)):=by simp[zil]
  rw[ht,hall,happ]
  generalize gs.take i=T at *
  have e1:∀z,((T.length:Int)+(([z]:List Grp).length:Int)≤LIM):=fun z=>hlim T z (by omega)
  have e2:∀z,(((addG T p k).length:Int)+(([z]:List Grp).length:Int)≤LIM):=fun z=>hlim _ z (by omega)
  have e3:∀z z',(((T++[z']).length:Int)+(([z]:List Grp).length:Int)≤LIM):=fun z z'=>hlim _ z (by simp;omega)
  simp only[d97_eq g1 hp,d38_eq g1 hp,xab,hw2]
  cases hT:zil T p
  ·simp only[xba,xch,e2,xal,xap,xae,xbl,xaw,xad]
  ·simp only[xap,xal,xad,xbd,if_true]
   by_cases c:g.1<p
   ·simp only[c,e1,xaw,xap,xae,xad,if_true]
   ·by_cases c2:g.1=p
    ·subst c2
     simp only[c,e1,xaw,xcf,xal,xad,addG,if_true,xch]
     simp
    ·simp only[c,c2,e1,e3,xaw,xcf,xal,xad,xae,addG,xch]
     simp
 ·have h1:¬((gs.length:Int)<(gs.length:Int)):=by omega
  simp only[h1,xcf,xae,xbo]
 ·cases hT:zil gs p
  ·simp[letJ]
  ·have hlim:((gs.length:Int)+(([(p,k)]:List Grp).length:Int)≤LIM):=by rw[zfe];simp;omega
   simp only[xap,xal,xad,letJ,if_true,hlim,xaw,addG_all k hT]
def wsum(f:List Int→Int):List Grp→Int
 | []=>0
 |g::gs=>g.2*f g.1+wsum f gs
theorem zjz(f:List Int→Int):∀(a b:List Grp),wsum f (a++b)=wsum f a+wsum f b
 | [],b=>by simp[wsum]
 |g::a,b=>by
  have:=zjz f a b
  simp only[xbu,wsum,this]
  omega
theorem zki(f:List Int→Int):∀(gs:List Grp) (p:List Int) (k:Int),wsum f (addG gs p k)=wsum f gs+k*f p
 | [],p,k=>by simp[addG,wsum]
 |g::gs,p,k=>by
  have ih:=zki f gs p k
  unfold addG
  split
  ·simp only[wsum,ih];omega
  ·split
   ·rename_i h
    simp only[wsum,h,Int.add_mul];omega
   ·simp only[wsum];omega
theorem zpd:∀{gs:List Grp} {p:List Int} {k:Int} {g:Grp},g∈addG gs p k→(g.1=p∧(g.2=k∨∃h∈gs,h.1=p∧g.2=h.2+k))∨g∈gs
 | [],p,k,g,h=>by
  simp[addG]at h
  exact .inl ⟨by rw[h],.inl (by rw[h])⟩
 |a::gs,p,k,g,h=>by
  unfold addG at h
  split at h
  ·rcases xat.1 h with h|h
   ·exact .inr (by simp[h])
   ·rcases zpd h with⟨h1,h2⟩|h1
    ·refine .inl ⟨h1,h2.imp id fun⟨x,h3,h4⟩=>⟨x,xai _ h3,h4⟩⟩
    ·exact .inr (xai _ h1)
  ·split at h
   ·rename_i hp
    rcases xat.1 h with h|h
    ·exact .inl ⟨by rw[h];exact hp,.inr ⟨a,by simp,hp,by rw[h]⟩⟩
    ·exact .inr (xai _ h)
   ·rcases xat.1 h with h|h
    ·exact .inl ⟨by rw[h],.inl (by rw[h])⟩
    ·exact .inr h
def zit(gs:List Grp):Prop:=gs.Pairwise fun g h=>g.1<h.1
theorem zly:∀{gs:List Grp} (p:List Int) (k:Int),zit gs→zit (addG gs p k)
 | [],p,k,_=>by simp[addG,zit]
 |a::gs,p,k,h=>by
  unfold zit at h
  rw[xcn]at h
  unfold addG
  split
  ·rename_i hlt
   refine xcn.2 ⟨fun g hg=>?_,zly p k h.2⟩
   rcases zpd hg with⟨h1,_⟩|h1
   ·rw[h1];exact hlt
   ·exact h.1 g h1
  ·rename_i hlt
   split
   ·exact xcn.2 ⟨fun g hg=>h.1 g hg,h.2⟩
   ·rename_i hne
    have hp:p<a.1:=by
     rcases lex_tri a.1 p with h|h|h
     ·exact absurd h hlt
     ·exact absurd h hne
     ·exact h
    refine xcn.2 ⟨fun g hg=>?_,xcn.2 h⟩
    rcases xat.1 hg with rfl|hg
    ·exact hp
    ·exact zic hp (h.1 g hg)
structure PileOK(n:Int)(gs:List Grp)(N:Int):Prop where
 ballots:∀g∈gs,isB n g.1∧1≤g.2
 sorted:zit gs
 total:wsum (fun _=>1) gs=N
 most:N≤100000
theorem zgm{n:Int}:∀{gs:List Grp},(∀g∈gs,isB n g.1∧1≤g.2)→∀{f:List Int→Int},(∀p,0≤f p∧f p≤1)→0≤wsum f gs∧wsum f gs≤wsum (fun _=>1) gs
 | [],_,f,_=>by simp[wsum]
 |g::gs,h,f,hf=>by
  have ih:=zgm (gs:=gs) (fun x hx=>h x (xai _ hx)) hf
  have h1:=(h g (by simp)).2
  have h2:=hf g.1
  have h3:0≤g.2*f g.1:=Int.mul_nonneg (by omega) h2.1
  have h4:g.2*f g.1≤g.2*1:=Int.mul_le_mul_of_nonneg_left h2.2 (by omega)
  simp only[wsum]
  omega
theorem znz{n:Int}:∀{gs:List Grp},(∀g∈gs,isB n g.1∧1≤g.2)→∀g∈gs,g.2≤wsum (fun _=>1) gs
 | [],_,g,hg=>by cases hg
 |a::gs,h,g,hg=>by
  have h0:=(zgm (n:=n) (gs:=gs) (fun x hx=>h x (xai _ hx)) (f:=fun _=>1) (fun _=>by omega)).1
  have h1:=(h a (by simp)).2
  simp only[wsum]
  rcases xat.1 hg with rfl|hg
  ·omega
  ·have:=znz (n:=n) (gs:=gs) (fun x hx=>h x (xai _ hx)) g hg
   omega
theorem zny{n:Int}:∀{gs:List Grp},(∀g∈gs,isB n g.1∧1≤g.2)→(gs.length:Int)≤wsum (fun _=>1) gs
 | [],_=>by simp[wsum]
 |a::gs,h=>by
  have h1:=(h a (by simp)).2
  have:=zny (n:=n) (gs:=gs) (fun x hx=>h x (xai _ hx))
  simp only[wsum,xbx]
  omega
theorem zhv:∀(n:Nat) (l:List Int),l.Nodup→(∀x∈l,0≤x∧x<(n:Int))→l.length≤n
 | 0,l,_,h=>by
  cases l with
  |nil=>simp
  |cons x l=>have:=h x (by simp);omega
 |n+1,l,hd,h=>by
  by_cases hm:(n:Int)∈l
  ·have h1:=zhv n (l.erase (n:Int)) (hd.erase _) fun x hx=>by
    have h2:=(hd.mem_erase_iff).1 hx
    have:=h x h2.2
    have:=h2.1
    omega
   rw[List.length_erase_of_mem hm]at h1
   omega
  ·have:=zhv n l hd fun x hx=>by
    have h1:=h x hx
    have:x≠(n:Int):=fun e=>hm (e▸hx)
    omega
   omega
theorem zjb{n:Int}{l:List Int}(h:isB n l)(hn:n≤7):l.length≤7:=zhv 7 l h.1 fun x hx=>by have:=h.2 x hx;omega
theorem PileOK.add{n:Int}{gs:List Grp}{N:Int}(h:PileOK n gs N){p:List Int}(hp:isB n p)(hN:N+1≤100000):PileOK n (addG gs p 1) (N+1) where
 ballots:=fun g hg=>by
  rcases zpd hg with⟨h1,h2⟩|h1
  ·refine⟨by rw[h1];exact hp,?_⟩
   rcases h2 with h2|⟨x,hx,_,h2⟩
   ·omega
   ·have:=(h.ballots x hx).2;omega
  ·exact h.ballots g h1
 sorted:=zly _ _ h.sorted
 total:=by rw[zki,h.total];omega
 most:=hN
theorem PileOK.nil(n:Int):PileOK n [] 0:=⟨fun _ hg=>absurd hg (by simp),List.Pairwise.nil,rfl,by omega⟩
theorem PileOK.d98{n:Int}{gs:List Grp}{N:Int}(h:PileOK n gs N)(hn:n≤7){p:List Int}(hp:isB n p):d98 gs p 1=some (addG gs p 1):=by
 have h1:=zny h.ballots
 have h2:=h.total
 have h3:=h.most
 refine d98_eq (by omega) (by have:=zjb hp hn;omega) (by omega) fun g hg=>?_
 have h4:=znz h.ballots g hg
 have h5:=h.ballots g hg
 have:=zjb h5.1 hn
 omega
end Go.Proofs.YtmipjomnjkmdbaaGreat
open Go Go.Proofs Go.X
namespace Go.Proofs.YtmipjomnjkmdbaaGreat
theorem d165_eq{n:Int}(hn:n≤7){l:List Int}(hl:l.length≤281474976710656):d165 n l=some (decide (isB n l)):=by
 unfold d165
 refine zcq (fun i=>(n,zjl l i,l,(l.length:Int),(i:Int))) (fun i=>decide (l.getD i 0<0)||(decide (n≤l.getD i 0)||(zjl l i).getD (Int.toNat (l.getD i 0)) false)) l.length (fun _=>.inr false) (.inl ()) rfl (fun i hi=>?_) ?_ (fun i hi hp hj=>?_) (fun hall=>?_)
 ·have h2:(i:Int)<(l.length:Int):=by omega
  have h3:(0:Int)≤(i:Int):=by omega
  have hw:w ((i:Int)+1)=((i+1:Nat):Int):=by rw[w_id (by omega) (by omega)];omega
  simp only[h2,h3,letJ,xaw,xad,xah,xan,hw]
  by_cases c1:l.getD i 0<0
  ·simp only[c1];rfl
  ·by_cases c2:n≤l.getD i 0
   ·simp only[c1,c2];rfl
   ·have c3:0≤l.getD i 0:=by omega
    have c4:l.getD i 0<7:=by omega
    simp only[c1,c2,c3,c4]
    cases(zjl l i).getD (Int.toNat (l.getD i 0)) false<;>rfl
 ·simp
 ·have:¬isB n l:=fun h=>by
   have hb:=(zok n l).1 h
   have h1:=hb i hi
   have h2:=zkx l i (by omega) (fun j hj=>by have:=hb j (by omega);omega) (Int.toNat (l.getD i 0)) (by omega)
   rw[show((l.getD i 0).toNat:Int)=l.getD i 0 by omega]at h2
   rw[h2]at hp
   simp only[xdf,xaj]at hp
   rcases hp with hp|hp|hp
   ·omega
   ·omega
   ·exact h1.2.2 hp
  simp[this]
 ·have hb:∀i,i<l.length→0≤l.getD i 0∧l.getD i 0<n:=fun i hi=>by
   have:=hall i hi
   simp only[xbt,xar]at this
   omega
  have:isB n l:=(zok n l).2 fun i hi=>by
   have h1:=hb i hi
   have h0:=hall i hi
   simp only[xbt,xar]at h0
   have h2:=zkx l i (by omega) (fun j hj=>by have:=hb j (by omega);omega) (Int.toNat (l.getD i 0)) (by omega)
   rw[show((l.getD i 0).toNat:Int)=l.getD i 0 by omega,h0.2.2]at h2
   exact⟨h1.1,h1.2,fun hm=>xdg h2.symm hm⟩
  simp[this]
def tot(gs:List Grp)(i:Nat):Int:=wsum (fun _=>1) (gs.take i)
def badG(n:Int)(gs:List Grp)(i:Nat):Bool:=decide ((gs.getD i ([],0)).2<1)||(decide (100000-tot gs i<(gs.getD i ([],0)).2)||(!decide (isB n (gs.getD i ([],0)).1)||(decide (0<i)&&decide (0≤cmpL (gs.getD (i-1) ([],0)).1 (gs.getD i ([],0)).1))))
theorem zcu(f:List Int→Int)(gs:List Grp){i:Nat}(h:i<gs.length):wsum f (gs.take (i+1))=wsum f (gs.take i)+(gs.getD i ([],0)).2*f (gs.getD i ([],0)).1:=by
 rw[zhl gs ([],0) h,zjz]
 simp[wsum]
theorem zgp{n:Int}{gs:List Grp}:∀{i:Nat},i≤gs.length→(∀j,j<i→badG n gs j=false)→0≤tot gs i∧tot gs i≤100000
 | 0,_,_=>by simp[tot,wsum]
 |i+1,h,hb=>by
  have ih:=zgp (n:=n) (gs:=gs) (i:=i) (by omega) fun j hj=>hb j (by omega)
  have h1:=hb i (by omega)
  unfold badG at h1
  simp only[xbt,xar]at h1
  have h2:tot gs (i+1)=tot gs i+(gs.getD i ([],0)).2*1:=zcu _ gs (by omega)
  omega
theorem d124_eq{n:Int}(hn:n≤7){gs:List Grp}(hl:gs.length≤281474976710656)(hg:∀g∈gs,g.1.length≤281474976710656∧-9223372036854775808≤g.2∧g.2≤9223372036854775807):d124 n gs=some (decide (∀i,i<gs.length→badG n gs i=false)):=by
 unfold d124
 have hgi:∀i,i<gs.length→(gs.getD i ([],0)).1.length≤281474976710656:=fun i hi=>by
  rw[zbg gs _ hi]
  exact(hg _ (xbm _)).1
 refine zji (fun i=>(n,gs,tot gs i,gs,(gs.length:Int),(i:Int))) (badG n gs) gs.length (fun _=>.inr false) (.inl ()) rfl (fun i hi hj=>?_) (fun _=>?_) (fun i hi hp hj=>?_) (fun hall=>?_)
 ·have h2:(i:Int)<(gs.length:Int):=by omega
  have h3:(0:Int)≤(i:Int):=by omega
  have hw:w ((i:Int)+1)=((i+1:Nat):Int):=by rw[w_id (by omega) (by omega)];omega
  have ht:=zgp (n:=n) (gs:=gs) (i:=i) (by omega) hj
  have hw2:w (100000-tot gs i)=100000-tot gs i:=w_id (by omega) (by omega)
  have hgl:=hgi i hi
  have hgp:=hgi (i-1) (by omega)
  have hts:tot gs (i+1)=tot gs i+(gs.getD i ([],0)).2*1:=zcu _ gs (by omega)
  have hw3:1≤(gs.getD i ([],0)).2→(gs.getD i ([],0)).2≤100000-tot gs i→w (tot gs i+(gs.getD i ([],0)).2)=tot gs (i+1):=fun a b=>by rw[w_id (by omega) (by omega)];omega
  have hb:badG n gs i=(decide ((gs.getD i ([],0)).2<1)||(decide (100000-tot gs i<(gs.getD i ([],0)).2)||(!decide (isB n (gs.getD i ([],0)).1)||(decide (0<i)&&decide (0≤cmpL (gs.getD (i-1) ([],0)).1 (gs.getD i ([],0)).1))))):=rfl
  rw[hb]
  simp only[h2,h3,letJ,xaw,xad,xah,xan,hw,hw2]
  rw[d165_eq hn hgl]
  obtain⟨g,hgd⟩:∃g,gs.getD i ([],0)=g:=⟨_,rfl⟩
  simp only[hgd]at hgl hts hw3 ⊢
  by_cases c1:g.2<1
  ·simp only[c1];rfl
  ·by_cases c2:100000-tot gs i<g.2
   ·simp only[c1,c2];rfl
   ·rw[hw3 (by omega) (by omega)]
    by_cases c3:isB n g.1
    ·by_cases c4:0<i
     ·have c5:(0:Int)<(i:Int):=by omega
      have hwp:w ((i:Int)-1)=((i-1:Nat):Int):=by rw[w_id (by omega) (by omega)];omega
      have h5:(0:Int)≤((i-1:Nat):Int):=by omega
      have h6:((i-1:Nat):Int)<(gs.length:Int):=by omega
      simp only[c1,c2,c3,c4,c5,hwp,h5,h6,xan,d166_eq hgp hgl,xab,xaw,xcf,xap,xal,xad,xae,xah,xbd,xbg]
      cases decide (0≤cmpL (gs.getD (i-1) ([],0)).1 g.1)<;>rfl
     ·have c5:¬(0:Int)<(i:Int):=by omega
      simp only[c1,c2,c3,c4,c5];rfl
    ·simp only[c1,c2,c3];rfl
 ·simp
 ·have:¬∀i,i<gs.length→badG n gs i=false:=fun h=>by rw[h i hi]at hp;cases hp
  simp[this]
 ·have:∀i,i<gs.length→badG n gs i=false:=hall
  simp only[decide_eq_true this]
theorem PileOK.good{n:Int}{gs:List Grp}{N:Int}(h:PileOK n gs N):∀i,i<gs.length→badG n gs i=false:=fun i hi=>by
 have hm:gs.getD i ([],0)∈gs:=by rw[zbg gs _ hi];exact xbm _
 have h1:=h.ballots _ hm
 have h2:tot gs (i+1)=tot gs i+(gs.getD i ([],0)).2*1:=zcu _ gs hi
 have h3:wsum (fun _=>1) gs=tot gs (i+1)+wsum (fun _=>1) (gs.drop (i+1)):=by
  unfold tot
  rw[←zjz,xcx]
 have h4:=(zgm (n:=n) (gs:=gs.drop (i+1)) (fun x hx=>h.ballots x (xhe hx)) (f:=fun _=>1) (fun _=>by omega)).1
 have h5:=h.total
 have h6:=h.most
 unfold badG
 have c1:¬(gs.getD i ([],0)).2<1:=by omega
 have c2:¬100000-tot gs i<(gs.getD i ([],0)).2:=by omega
 simp only[c1,c2,h1.1,xaw,xcf,xap,xbg]
 by_cases c3:0<i
 ·have h7:(gs.getD (i-1) ([],0)).1<(gs.getD i ([],0)).1:=by
   rw[zbg gs _ hi,zbg gs _ (by omega:i-1<gs.length)]
   exact xdu.1 h.sorted (i-1) i (by omega) hi (by omega)
  have c4:cmpL (gs.getD (i-1) ([],0)).1 (gs.getD i ([],0)).1=-1:=if_pos h7
  rw[c4]
  simp
 ·simp[c3]
theorem PileOK.sizes{n:Int}{gs:List Grp}{N:Int}(h:PileOK n gs N)(hn:n≤7):gs.length≤100000∧∀g∈gs,g.1.length≤7∧1≤g.2∧g.2≤100000:=by
 have h1:=zny h.ballots
 have h2:=h.total
 have h3:=h.most
 refine⟨by omega,fun g hg=>?_⟩
 have h4:=znz h.ballots g hg
 have h5:=h.ballots g hg
 exact⟨zjb h5.1 hn,by omega,by omega⟩
theorem PileOK.d124{n:Int}{gs:List Grp}{N:Int}(h:PileOK n gs N)(hn:n≤7):d124 n gs=some true:=by
 obtain⟨h1,h2⟩:=h.sizes hn
 rw[d124_eq hn (by omega) fun g hg=>by have:=h2 g hg;omega]
 rw[decide_eq_true h.good]
theorem PileOK.wide{n:Int}{gs:List Grp}{N:Int}(h:PileOK n gs N)(hn:n≤7):PileOK 7 gs N where
 ballots:=fun g hg=>by
  have:=h.ballots g hg
  exact⟨⟨this.1.1,fun x hx=>by have:=this.1.2 x hx;omega⟩,this.2⟩
 sorted:=h.sorted
 total:=h.total
 most:=h.most
theorem PileOK.d100{n:Int}{gs:List Grp}{N:Int}(h:PileOK n gs N)(hn:n≤7):d100 gs=some true:=by
 unfold Go.Proofs.YtmipjomnjkmdbaaGreat.d100
 rw[(h.wide hn).d124 (by omega)]
 rfl
theorem PileOK.part{n:Int}{gs:List Grp}{N:Int}(h:PileOK n gs N){f:List Int→Int}(hf:∀p,0≤f p∧f p≤1)(i:Nat):0≤wsum f (gs.take i)∧wsum f (gs.take i)≤100000:=by
 have h1:=zgm (n:=n) (gs:=gs.take i) (fun x hx=>h.ballots x (xcg hx)) hf
 have h2:=zgm (n:=n) (gs:=gs.drop i) (fun x hx=>h.ballots x (xhe hx)) (f:=fun _=>1) (fun _=>by omega)
 have h3:wsum (fun _=>1) gs=wsum (fun _=>1) (gs.take i)+wsum (fun _=>1) (gs.drop i):=by rw[←zjz,xcx]
 have h4:=h.total
 have h5:=h.most
 omega
def zau(p:List Int):Int:=if p=[]then 0 else 1
theorem PileOK.d52{n:Int}{gs:List Grp}{N:Int}(h:PileOK n gs N)(hn:n≤7):d52 gs=some (wsum zau gs):=by
 obtain⟨hl,hg⟩:=h.sizes hn
 have hf:∀p,0≤zau p∧zau p≤1:=fun p=>by unfold zau;split<;>omega
 unfold Go.Proofs.YtmipjomnjkmdbaaGreat.d52
 rw[h.d100 hn]
 simp only[xab,xap,xae]
 have:d104 gs (fun a=>d105 a)=some (wsum zau gs):=by
  unfold d104
  refine zae (b:=wsum zau gs) (fun i=>(fun a=>d105 a,wsum zau (gs.take i),gs,(gs.length:Int),(i:Int))) gs.length rfl (fun i hi=>?_) ?_ rfl
  ·have h2:(i:Int)<(gs.length:Int):=by omega
   have h3:(0:Int)≤(i:Int):=by omega
   have hw:w ((i:Int)+1)=((i+1:Nat):Int):=by rw[w_id (by omega) (by omega)];omega
   have e:=zcu zau gs hi
   have b0:=h.part hf i
   have b1:=h.part hf (i+1)
   simp only[h2,h3,hw,xaw,xad,xah,xan]
   obtain⟨g,hgd⟩:∃g,gs.getD i ([],0)=g:=⟨_,rfl⟩
   simp only[hgd]at e ⊢
   obtain⟨p,k⟩:=g
   unfold d105
   simp only at e ⊢
   match p with
   | []=>
    have h0:zau []=0:=by simp[zau]
    rw[h0]at e
    have hw2:w (wsum zau (gs.take i)+0)=wsum zau (gs.take (i+1)):=by rw[w_id (by omega) (by omega)];omega
    simp only[xgw,Int.ofNat_zero,xaw,xad,xab,hw2]
   |y::p=>
    have h0:zau (y::p)=1:=by simp[zau]
    rw[h0]at e
    have h4:¬((((y::p).length:Nat):Int)=0):=by simp;omega
    have hw2:w (wsum zau (gs.take i)+k)=wsum zau (gs.take (i+1)):=by rw[w_id (by omega) (by omega)];omega
    simp only[h4,xcf,xae,xab,hw2]
  ·have h1:¬((gs.length:Int)<(gs.length:Int)):=by omega
   simp only[h1,xcf,xae,xbo]
 rw[this]
 rfl
end Go.Proofs.YtmipjomnjkmdbaaGreat
open Go Go.Proofs Go.X
namespace Go.Proofs.YtmipjomnjkmdbaaGreat
theorem d101_on{s:List Int}{f:Int→Option Bool}{g:Int→Bool}(hf:∀c∈s,f c=some (g c))(hs:s.length≤281474976710656):d101 s f=some (if zar g s<s.length then(zar g s:Int)else -1):=by
 have hle:=zez g s
 unfold d101
 have hstep:∀i,i<zar g s→w ((i:Int)+1)=((i+1:Nat):Int):=fun i hi=>by rw[w_id (by omega) (by omega)];omega
 have hfi:∀i,i<s.length→f (s.getD i 0)=some (g (s.getD i 0)):=fun i hi=>by rw[zbg s 0 hi];exact hf _ (xbm _)
 by_cases h:zar g s<s.length
 ·have hat:=zfa _ s h
  refine zae (b:=.inr (zar g s:Int)) (fun i=>(s,f,(s.length:Int),(i:Int))) (zar g s) rfl ?_ ?_ (by simp[h])
  ·intro i hi
   have h1:=zct g s i hi
   have h2:(i:Int)<(s.length:Int):=by omega
   have h3:(0:Int)≤(i:Int):=by omega
   simp only[h2,h3,xaw,xad,xah,xan,hfi i (by omega),h1,xab,hstep i hi,xae]
  ·have h2:(zar g s:Int)<(s.length:Int):=by omega
   have h3:(0:Int)≤(zar g s:Int):=by omega
   simp only[h2,h3,xaw,xad,xah,xan,hfi _ h,hat,xab]
 ·refine zae (b:=.inl ()) (fun i=>(s,f,(s.length:Int),(i:Int))) s.length rfl ?_ ?_ (by simp[h])
  ·intro i hi
   have h1:=zct g s i (by omega)
   have h2:(i:Int)<(s.length:Int):=by omega
   have h3:(0:Int)≤(i:Int):=by omega
   simp only[h2,h3,xaw,xad,xah,xan,hfi i (by omega),h1,xab,hstep i (by omega),xae]
  ·simp
end Go.Proofs.YtmipjomnjkmdbaaGreat
open Go Go.Proofs Go.X
namespace Go.Proofs.YtmipjomnjkmdbaaGreat
theorem wt_part{l:List Int}(h:WT (.slice (.int .i64)) l)(k:Nat):WT (.slice (.int .i64)) (l.take k):=⟨by have:=h.1;simp;omega,fun x hx=>h.2 x (xcg hx)⟩
theorem bal_isB{n:Int}(hn:0<n)(l:List Int):isB n (bal n l):=⟨ziv n l _,fun x hx=>outs_in hn l _ x hx⟩
def balF(n:Int)(x:List Int):List Int:=bal n (x.take 12)
def bals(n:Int)(l:List (List Int))(most:Nat):List (List Int):=(l.take most).map (balF n)
theorem zli{α:Type}(l:List α)(z:α)(h:l.length≤1000000):((l.length:Int)+(([z]:List α).length:Int)≤LIM):=by rw[zfe];simp;omega
theorem d46_eq{n:Int}(hn:0<n)(hn':n≤7){l:List (List Int)}(hl:l.length≤281474976710656)(hw:∀x∈l,WT (.slice (.int .i64)) x){most:Nat}(hm:most≤100):d46 n l (most:Int)=some (bals n l most):=by
 unfold d46
 refine zae (b:=bals n l most) (fun i=>(n,l,(most:Int),(l.take i).map (balF n),(i:Int))) (min l.length most) rfl (fun i hi=>?_) ?_ rfl
 ·have h1:(i:Int)<(l.length:Int):=by omega
  have h2:(i:Int)<(most:Int):=by omega
  have h3:(0:Int)≤(i:Int):=by omega
  have hwi:w ((i:Int)+1)=((i+1:Nat):Int):=by rw[w_id (by omega) (by omega)];omega
  have hx:=hw (l.getD i []) (by rw[zbg l [] (by omega)];exact xbm _)
  have ht:=zhl l [] (by omega:i<l.length)
  simp only[h1,h2,h3,hwi,letJ,xaw,xad,xah,xan]
  obtain⟨x,hxd⟩:∃x,l.getD i []=x:=⟨_,rfl⟩
  simp only[hxd]at hx ht ⊢
  have hc:zbz 0 (bif decide (12<(x.length:Int))then 12 else(x.length:Int)) x.length=true∧List.drop 0 (List.take (Int.toNat (bif decide (12<(x.length:Int))then 12 else(x.length:Int))) x)=x.take 12:=by
   by_cases c:12<x.length
   ·have c':(12:Int)<(x.length:Int):=by omega
    simp only[c',xaw,xad,xhh]
    exact⟨zgz (i:=12) (by omega),rfl⟩
   ·have c':¬(12:Int)<(x.length:Int):=by omega
    simp only[c',xcf,xae,xhh,xan]
    exact⟨zgz (Nat.le_refl _),by rw[xax (Nat.le_refl _),xax (by omega)]⟩
  rw[hc.1,hc.2,d99_eq hn (by omega) (wt_part hx 12)]
  have hlim:=zli ((l.take i).map (balF n)) (bal n (x.take 12)) (by simp;omega)
  simp only[xad,xab,hlim,xaw,ht,xdq,xdl,List.map_nil]
  rfl
 ·have hb:(l.take (min l.length most)).map (balF n)=bals n l most:=by
   unfold bals
   congr 1
   by_cases c:l.length≤most
   ·rw[xdx c,xax (Nat.le_refl _),xax c]
   ·rw[Nat.min_eq_right (by omega)]
  simp only[letJ,hb]
  by_cases c:l.length≤most
  ·have h1:¬((min l.length most:Nat):Int)<(l.length:Int):=by omega
   simp only[h1,xcf,xae]
  ·have h1:((min l.length most:Nat):Int)<(l.length:Int):=by omega
   have h2:¬((min l.length most:Nat):Int)<(most:Int):=by omega
   simp only[h1,h2,xaw,xcf,xad,xae]
theorem bals_isB{n:Int}(hn:0<n){l:List (List Int)}{most:Nat}:∀b∈bals n l most,isB n b:=fun b hb=>by
 obtain⟨x,_,rfl⟩:=xdz.1 hb
 exact bal_isB hn _
theorem bals_len{n:Int}{l:List (List Int)}{most:Nat}:(bals n l most).length≤most:=by simp[bals];omega
def zem(bs:List (List Int)):List Grp:=bs.foldl (fun gs b=>addG gs b 1) []
def bsum(f:List Int→Int):List (List Int)→Int
 | []=>0
 |b::bs=>f b+bsum f bs
theorem bsum_app(f:List Int→Int):∀a b,bsum f (a++b)=bsum f a+bsum f b
 | [],b=>by simp[bsum]
 |x::a,b=>by have:=bsum_app f a b;simp only[xbu,bsum,this];omega
theorem zle(bs:List (List Int))(b:List Int):zem (bs++[b])=addG (zem bs) b 1:=by simp[zem]
theorem zlf{n:Int}(bs:List (List Int))(hb:∀b∈bs,isB n b)(hl:bs.length≤100000):PileOK n (zem bs) (bs.length:Int)∧∀f,wsum f (zem bs)=bsum f bs:=by
 have key:∀k,k≤bs.length→PileOK n (zem (bs.take k)) (k:Int)∧∀f,wsum f (zem (bs.take k))=bsum f (bs.take k):=by
  intro k
  induction k with
  |zero=>intro _;exact⟨PileOK.nil n,fun f=>rfl⟩
  |succ k ih=>
   intro hk
   obtain⟨h1,h2⟩:=ih (by omega)
   have ht:=zhl bs [] (by omega:k<bs.length)
   have hm:=hb (bs.getD k []) (by rw[zbg bs [] (by omega)];exact xbm _)
   rw[ht,zle]
   refine⟨?_,fun f=>by rw[zki,h2 f,bsum_app];simp[bsum]⟩
   have:=h1.add hm (by omega)
   rwa[show(k:Int)+1=((k+1:Nat):Int) by omega]at this
 have:=key bs.length (Nat.le_refl _)
 rwa[xbo]at this
theorem d48_eq{n:Int}(h1:1≤n)(hn:n≤7){bs:List (List Int)}(hb:∀b∈bs,isB n b)(hl:bs.length≤100000):d48 n bs=some (zem bs,0):=by
 unfold d48 letJ
 have c1:¬n<1:=by omega
 have c2:¬7<n:=by omega
 have c3:¬(100000:Int)<(bs.length:Int):=by omega
 simp only[c1,c2,c3,xcf,xal,xad,xae]
 refine zae (b:=.inl (zem bs)) (fun i=>(n,bs,zem (bs.take i),(i:Int))) bs.length rfl (fun i hi=>?_) ?_ rfl
 ·have h2:(i:Int)<(bs.length:Int):=by omega
  have h3:(0:Int)≤(i:Int):=by omega
  have hwi:w ((i:Int)+1)=((i+1:Nat):Int):=by rw[w_id (by omega) (by omega)];omega
  have hm:=hb (bs.getD i []) (by rw[zbg bs [] hi];exact xbm _)
  have hbl:=zjb hm hn
  have ht:=zhl bs [] hi
  have hp:=(zlf (bs.take i) (fun b h=>hb b (xcg h)) (by simp;omega)).1
  simp only[h2,h3,hwi,xaw,xad,xah,xan,ht,zle]
  obtain⟨x,hxd⟩:∃x,bs.getD i []=x:=⟨_,rfl⟩
  simp only[hxd]at hm hbl ⊢
  have hlim:(([]:List Int).length:Int)+(x.length:Int)≤LIM:=by rw[zfe];simp;omega
  rw[d32_eq n (by omega),hp.d98 hn hm]
  simp only[hm,hlim,xaw,xad,xap,xae,xab]
 ·have h1:¬((bs.length:Int)<(bs.length:Int)):=by omega
  simp only[h1,xcf,xae,xbo]
theorem d26_eq{n:Int}(h1:1≤n)(hn:n≤7){l:List (List Int)}(hl:l.length≤281474976710656)(hw:∀x∈l,WT (.slice (.int .i64)) x){most:Nat}(hm:most≤100):d26 n l (most:Int)=some (zem (bals n l most)):=by
 have hbl:=bals_len (n:=n) (l:=l) (most:=most)
 unfold d26
 rw[d46_eq (by omega) hn hl hw hm]
 simp only[xab]
 rw[d48_eq h1 hn (bals_isB (by omega)) (by omega)]
 rfl
end Go.Proofs.YtmipjomnjkmdbaaGreat
open Go Go.Proofs Go.X
namespace Go.Proofs.YtmipjomnjkmdbaaGreat
def GsOK(gs:List Grp):Prop:=gs.length≤281474976710656∧∀g∈gs,g.1.length≤281474976710656∧-9223372036854775808≤g.2∧g.2≤9223372036854775807
theorem GsOK.at{gs:List Grp}(h:GsOK gs){i:Nat}(hi:i<gs.length):(gs.getD i ([],0)).1.length≤281474976710656∧-9223372036854775808≤(gs.getD i ([],0)).2∧(gs.getD i ([],0)).2≤9223372036854775807:=by
 rw[zbg gs _ hi]
 exact h.2 _ (xbm _)
def goodP(n:Int)(gs:List Grp):Bool:=decide (∀i,i<gs.length→badG n gs i=false)
def zfz(n:Int)(gs:List Grp):Bool:=decide (1≤n∧n≤7)&&goodP n gs
theorem cmpL_lt(a b:List Int):decide (0≤cmpL a b)=!decide (a<b):=by
 unfold cmpL
 by_cases h:a<b
 ·simp[h]
 ·by_cases h':b<a
  ·simp[h,h']
  ·simp[h,h']
theorem d70_eq{n:Int}{gs:List Grp}(h:GsOK gs):d70 n gs=some (zfz n gs):=by
 unfold d70 zfz
 simp only[letJ]
 by_cases h1:n<1
 ·have:¬(1≤n∧n≤7):=by omega
  simp[h1,this]
 ·by_cases h2:7<n
  ·have:¬(1≤n∧n≤7):=by omega
   simp[h1,h2,this]
  ·have hn:1≤n∧n≤7:=by omega
   simp only[h1,h2,hn,and_self,xaw,xcf,xal,xad,xae,xbd]
   refine zji (fun i=>(n,gs,100000-tot gs i,(i:Int))) (badG n gs) gs.length (fun _=>.inr false) (.inl ()) rfl (fun i hi hj=>?_) (fun _=>?_) (fun i hi hp hj=>?_) (fun hall=>?_)
   ·have hl:=h.1
    have g2:(i:Int)<(gs.length:Int):=by omega
    have g3:(0:Int)≤(i:Int):=by omega
    have hw:w ((i:Int)+1)=((i+1:Nat):Int):=by rw[w_id (by omega) (by omega)];omega
    have ht:=zgp (n:=n) (gs:=gs) (i:=i) (by omega) hj
    have hgl:=(h.at hi).1
    have hgp:=(h.at (show i-1<gs.length by omega)).1
    have hts:tot gs (i+1)=tot gs i+(gs.getD i ([],0)).2*1:=zcu _ gs (by omega)
    have hw3:1≤(gs.getD i ([],0)).2→(gs.getD i ([],0)).2≤100000-tot gs i→w (100000-tot gs i-(gs.getD i ([],0)).2)=100000-tot gs (i+1):=fun a b=>by rw[w_id (by omega) (by omega)];omega
    have hb:badG n gs i=(decide ((gs.getD i ([],0)).2<1)||(decide (100000-tot gs i<(gs.getD i ([],0)).2)||(!decide (isB n (gs.getD i ([],0)).1)||(decide (0<i)&&decide (0≤cmpL (gs.getD (i-1) ([],0)).1 (gs.getD i ([],0)).1))))):=rfl
    rw[hb]
    simp only[g2,g3,xaw,xad,xah,xan,hw]
    obtain⟨g,hgd⟩:∃g,gs.getD i ([],0)=g:=⟨_,rfl⟩
    simp only[hgd]at hgl hts hw3 ⊢
    rw[d32_eq n hgl]
    simp only[xab,cmpL_lt]
    by_cases c3:isB n g.1
    ·by_cases c1:g.2<1
     ·simp only[c1,c3];rfl
     ·by_cases c2:100000-tot gs i<g.2
      ·simp only[c1,c2,c3];rfl
      ·rw[hw3 (by omega) (by omega)]
       by_cases c4:0<i
       ·have c5:(0:Int)<(i:Int):=by omega
        have hwp:w ((i:Int)-1)=((i-1:Nat):Int):=by rw[w_id (by omega) (by omega)];omega
        have h5:(0:Int)≤((i-1:Nat):Int):=by omega
        have h6:((i-1:Nat):Int)<(gs.length:Int):=by omega
        simp only[c1,c2,c3,c4,c5,hwp,h5,h6,xan,d97_eq hgp hgl,xab,xaw,xcf,xap,xal,xad,xae,xah,xbd,xbg]
        cases decide ((gs.getD (i-1) ([],0)).1<g.1)<;>rfl
       ·have c5:¬(0:Int)<(i:Int):=by omega
        simp only[c1,c2,c3,c4,c5];rfl
    ·have hor:(decide (g.2<1)||(decide (100000-tot gs i<g.2)||(!decide (isB n g.1)||(decide (0<i)&& !decide ((gs.getD (i-1) ([],0)).1<g.1)))))=true:=by simp[c3]
     rw[hor]
     simp only[c3];rfl
   ·have g1:¬((gs.length:Int)<(gs.length:Int)):=by omega
    simp only[g1,xcf,xae]
   ·have:goodP n gs=false:=decide_eq_false fun hh=>by rw[hh i hi]at hp;cases hp
    simp[this]
   ·have:goodP n gs=true:=decide_eq_true hall
    simp[this]
theorem good_tot{n:Int}{gs:List Grp}(h:∀i,i<gs.length→badG n gs i=false):PileOK n gs (wsum (fun _=>1) gs) where
 ballots:=fun g hg=>by
  obtain⟨i,hi,rfl⟩:=xbq hg
  have:=h i hi
  unfold badG at this
  rw[zbg gs _ hi]at this
  simp only[xbt,xar,xek,xaj]at this
  exact⟨this.2.2.1,by omega⟩
 sorted:=by
  have step:∀i,i+1<gs.length→(gs.getD i ([],0)).1<(gs.getD (i+1) ([],0)).1:=fun i hi=>by
   have:=h (i+1) hi
   unfold badG at this
   simp only[xbt]at this
   have:=this.2.2.2
   rw[cmpL_lt]at this
   simpa using this
  refine xdu.2 fun i j hi hj hij=>?_
  have key:∀k,i+k+1<gs.length→(gs.getD i ([],0)).1<(gs.getD (i+k+1) ([],0)).1:=by
   intro k
   induction k with
   |zero=>intro hk;exact step i hk
   |succ k ih=>
    intro hk
    exact zic (ih (by omega)) (step (i+k+1) (by omega))
  have:=key (j-i-1) (by omega)
  rw[show i+(j-i-1)+1=j by omega,zbg gs _ hi,zbg gs _ hj]at this
  exact this
 total:=rfl
 most:=by
  have:=(zgp (n:=n) (gs:=gs) (i:=gs.length) (Nat.le_refl _) fun j hj=>h j hj).2
  unfold tot at this
  rwa[xbo]at this
theorem pileB_ok{n:Int}{gs:List Grp}(h:zfz n gs=true):1≤n∧n≤7∧PileOK n gs (wsum (fun _=>1) gs):=by
 unfold zfz at h
 simp only[xaf,xaj]at h
 exact⟨h.1.1,h.1.2,good_tot (of_decide_eq_true h.2)⟩
theorem PileOK.gs{n:Int}{gs:List Grp}{N:Int}(h:PileOK n gs N)(hn:n≤7):GsOK gs:=by
 obtain⟨h1,h2⟩:=h.sizes hn
 exact⟨by omega,fun g hg=>by have:=h2 g hg;omega⟩
end Go.Proofs.YtmipjomnjkmdbaaGreat
namespace Go.Proofs.YtmipjomnjkmdbaaGreat
open Go Go.X
def nv:List Int→Nat
 | []=>0
 |x::l=>x.toNat+4294967296*nv l
def IsL(l:List Int):Prop:=∀x∈l,0≤x∧x<4294967296
def NF(l:List Int):Prop:=IsL l∧l.getLast?≠some 0
theorem IsL.nil:IsL []:=fun _ h=>absurd h (by simp)
theorem IsL.cons{x:Int}{l:List Int}(h0:0≤x)(h1:x<4294967296)(h:IsL l):IsL (x::l):=fun y hy=>by
 rcases xat.1 hy with rfl|hy
 ·exact⟨h0,h1⟩
 ·exact h y hy
theorem IsL.tail{x:Int}{l:List Int}(h:IsL (x::l)):IsL l:=fun y hy=>h y (xai _ hy)
theorem IsL.head{x:Int}{l:List Int}(h:IsL (x::l)):0≤x∧x<4294967296:=h x xcc
theorem IsL.take{l:List Int}(h:IsL l)(k:Nat):IsL (l.take k):=fun y hy=>h y (xcg hy)
theorem IsL.getD{l:List Int}(h:IsL l)(i:Nat):0≤l.getD i 0∧l.getD i 0<4294967296:=by
 rw[xac]
 cases hi:l[i]? with
 |none=>simp
 |some x=>
  obtain⟨h1,h2⟩:=xdd.1 hi
  exact h x (h2▸xbm h1)
theorem IsL.set{l:List Int}(h:IsL l)(i:Nat){x:Int}(h0:0≤x)(h1:x<4294967296):IsL (l.set i x):=fun y hy=>by
 rcases List.mem_or_eq_of_mem_set hy with hy|rfl
 ·exact h y hy
 ·exact⟨h0,h1⟩
theorem IsL.zeros(n:Nat):IsL (List.replicate n 0):=fun y hy=>by rw[xdy hy];omega
theorem zhu:∀(a b:List Int),nv (a++b)=nv a+4294967296^a.length*nv b
 | [],b=>by simp[nv]
 |x::a,b=>by
  simp only[xbu,nv,zhu a b,xbx,xbi]
  generalize 4294967296^a.length=P
  rw[xcd,xcb,←xbf,xbc P 4294967296]
theorem zdd:∀n:Nat,nv (List.replicate n 0)=0
 | 0=>rfl
 |n+1=>by simp[List.replicate_succ,nv,zdd n]
theorem zoc:∀{l:List Int},IsL l→nv l<4294967296^l.length
 | [],_=>by simp[nv]
 |x::l,h=>by
  have ih:=zoc h.tail
  have hx:=h.head
  simp only[nv,xbx,xbi]
  generalize 4294967296^l.length=P at *
  have:x.toNat<4294967296:=by omega
  omega
theorem NF.tail{x:Int}{l:List Int}(h:NF (x::l)):NF l:=⟨h.1.tail,fun he=>h.2 (by
 cases l with
 |nil=>simp at he
 |cons y l=>rw[List.getLast?_cons_cons];exact he)⟩
theorem NF.nil:NF []:=⟨IsL.nil,by simp⟩
theorem NF.pos:∀{l:List Int},NF l→l≠ []→0<nv l
 | [],_,h=>absurd rfl h
 | [x],h,_=>by
  have hx:=h.1.head
  have:x≠0:=fun e=>h.2 (by simp[e])
  simp only[nv];omega
 |x::y::l,h,_=>by
  have:=NF.pos h.tail (by simp)
  simp only[nv]at this ⊢;omega
theorem nv_inj:∀{a b:List Int},NF a→NF b→nv a=nv b→a=b
 | [],[],_,_,_=>rfl
 | [],y::b,_,hb,h=>absurd (NF.pos hb (by simp)) (by rw[←h];simp[nv])
 |x::a,[],ha,_,h=>absurd (NF.pos ha (by simp)) (by rw[h];simp[nv])
 |x::a,y::b,ha,hb,h=>by
  have hx:=ha.1.head
  have hy:=hb.1.head
  simp only[nv]at h
  have h1:nv a=nv b:=by omega
  have h2:x=y:=by omega
  rw[h2,nv_inj ha.tail hb.tail h1]
def zal(n:Nat):List Int:=if h:n=0 then []else((n%4294967296:Nat):Int)::zal (n/4294967296)
 termination_by n
 decreasing_by exact Nat.div_lt_self (xeh h) (by omega)
theorem zcs:zal 0=[]:=by rw[zal];simp
theorem zib{n:Nat}(h:n≠0):zal n=((n%4294967296:Nat):Int)::zal (n/4294967296):=by rw[zal];simp[h]
theorem zoh(n:Nat):NF (zal n)∧nv (zal n)=n:=by
 induction n using Nat.strongRecOn with
 |_ n ih=>
  by_cases h:n=0
  ·subst h;rw[zcs];exact⟨NF.nil,rfl⟩
  ·have⟨h1,h2⟩:=ih (n/4294967296) (Nat.div_lt_self (by omega) (by omega))
   rw[zib h]
   refine⟨⟨h1.1.cons (by omega) (by omega),?_⟩,?_⟩
   ·cases hl:zal (n/4294967296)with
    |nil=>
     rw[hl]at h2
     simp only[nv]at h2
     simp only[List.getLast?_singleton,ne_eq,xak]
     omega
    |cons y l=>
     rw[List.getLast?_cons_cons,←hl]
     exact h1.2
   ·simp only[nv,h2];omega
theorem zim(n:Nat):NF (zal n):=(zoh n).1
theorem zak(n:Nat):IsL (zal n):=(zoh n).1.1
theorem zat(n:Nat):nv (zal n)=n:=(zoh n).2
theorem limbs_nv{l:List Int}(h:NF l):zal (nv l)=l:=nv_inj (zim _) h (zat _)
theorem limbs_nil{n:Nat}:zal n=[]↔n=0:=⟨fun h=>by rw[←zat n,h];rfl,fun h=>by rw[h,zcs]⟩
theorem zfq{n:Nat}:0<(zal n).length↔0<n:=by
 rw[xco,ne_eq,limbs_nil];omega
theorem zao(n:Nat):∀k:Nat,(zal n).length≤k↔n<4294967296^k:=by
 induction n using Nat.strongRecOn with
 |_ n ih=>
  intro k
  by_cases h:n=0
  ·subst h;rw[zcs];simp;exact xff (by omega)
  ·rw[zib h,xbx]
   cases k with
   |zero=>simp;omega
   |succ k=>
    have:=ih (n/4294967296) (Nat.div_lt_self (by omega) (by omega)) k
    rw[Nat.succ_le_succ_iff,this,xbi]
    exact xde (by omega)
theorem take_snoc(l:List Int){n:Nat}(h:n<l.length):l.take (n+1)=l.take n++[l.getD n 0]:=by
 rw[xeo,xac,xag h];rfl
theorem take_tlen{l:List Int}(h:IsL l):∀n,n≤l.length→l.take (tlen l n)=zal (nv (l.take n))
 | 0,_=>by simp[tlen,nv,zcs]
 |n+1,hn=>by
  have ih:=take_tlen h n (by omega)
  have hs:=take_snoc l (n:=n) (by omega)
  unfold tlen
  split
  ·rename_i h0
   rw[ih,hs,zhu,h0];simp[nv]
  ·rename_i h0
   refine(limbs_nv ⟨h.take _,?_⟩).symm
   rw[hs,List.getLast?_append];simp;exact h0
theorem take_tl{l:List Int}(h:IsL l):l.take (tlen l l.length)=zal (nv l):=by
 have:=take_tlen h l.length (Nat.le_refl _)
 rwa[xbo]at this
theorem tlen_eq{l:List Int}(h:IsL l):tlen l l.length=(zal (nv l)).length:=by
 have:=xbe List.length (take_tl h)
 rw[xav,xdx (tlen_le _ _)]at this
 exact this
theorem limbs_le{l:List Int}(h:IsL l):(zal (nv l)).length≤l.length:=by rw[←tlen_eq h];exact tlen_le _ _
theorem digit_low{U V W top s t u0 z q r h:Nat}(hV:V=(h*4294967296+s)*W+t)(hU:U=(top*4294967296+u0)*W+z)(hz:z<W)(hq:q*h+r=top)(hc:r*4294967296+u0<q*s):U<q*V:=by
 have h1:(top*4294967296+u0)+1≤q*(h*4294967296+s):=by
  rw[←hq,xcd,xbj,←xbf];omega
 have h2:=xam W h1
 rw[xbj,Nat.one_mul]at h2
 rw[hV,xcd,←xbf,hU]
 omega
theorem znb{U V W top s t u0 z q r h:Nat}(hV:V=(h*4294967296+s)*W+t)(hU:U=(top*4294967296+u0)*W+z)(ht:t<W)(hh:1≤h)(hq:q*h+r=top)(hq2:q<4294967296)(hc:q*s≤r*4294967296+u0):q*V<U+V:=by
 have h1:q*(h*4294967296+s)≤top*4294967296+u0:=by
  rw[←hq,xcd,xbj,←xbf];omega
 have h2:=xam W h1
 have h3:q*t≤4294967296*W:=Nat.mul_le_mul (by omega) (by omega)
 have h4:q*t<4294967296*W:=by
  rcases xbw q with h0|h0
  ·subst h0;rw[xel];omega
  ·exact xaq (Nat.mul_lt_mul_of_pos_left ht h0) (xam _ (by omega))
 have h5:4294967296*W≤V:=by
  rw[hV]
  have:4294967296*W≤(h*4294967296+s)*W:=xam _ (by omega)
  omega
 have h6:q*V=q*(h*4294967296+s)*W+q*t:=by rw[hV,xcd,←xbf]
 omega
end Go.Proofs.YtmipjomnjkmdbaaGreat
namespace Go.Proofs.YtmipjomnjkmdbaaGreat
open Go Go.X
theorem znk(i:Nat):0<4294967296^i:=xff (by decide)
theorem nv_split(l:List Int)(i:Nat)(h:i≤l.length):nv l=nv (l.take i)+4294967296^i*nv (l.drop i):=by
 have:=zhu (l.take i) (l.drop i)
 rw[xcx,xav,xdx h]at this
 exact this
theorem nv_drop{l:List Int}(hl:IsL l){i:Nat}(h:i≤l.length):nv (l.drop i)=nv l/4294967296^i:=by
 have h1:=zoc (hl.take i)
 rw[xav,xdx h]at h1
 rw[nv_split l i h,xhc _ _ (znk i),xed h1,Nat.zero_add]
theorem zlr(l:List Int){i:Nat}(h:i<l.length):l.drop i=l.getD i 0::l.drop (i+1):=by
 rw[xac,xag h]
 exact List.drop_eq_getElem_cons h
theorem zes{l:List Int}(hl:IsL l)(i:Nat):l.getD i 0=((nv l/4294967296^i%4294967296:Nat):Int):=by
 by_cases h:i<l.length
 ·have h1:=nv_drop hl (xfj h)
  rw[zlr l h]at h1
  simp only[nv]at h1
  have h2:=hl.getD i
  rw[←h1]
  omega
 ·have h1:=zoc hl
  rw[xac,xca (by omega)]
  have h2:nv l<4294967296^i:=xaq h1 (xfo (by decide) (by omega))
  rw[xed h2]
  rfl
theorem zht:∀(l:List Int) (i:Nat) (x:Int),i<l.length→nv (l.set i x)+4294967296^i*(l.getD i 0).toNat=nv l+4294967296^i*x.toNat
 | [],i,x,h=>by simp at h
 |y::l,0,x,h=>by simp[nv];omega
 |y::l,i+1,x,h=>by
  have ih:=zht l i x (by simpa using h)
  simp only[List.set_cons_succ,nv,List.getD_cons_succ,xbi]
  generalize hP:4294967296^i=P at ih ⊢
  generalize(l.getD i 0).toNat=c at ih ⊢
  generalize x.toNat=e at ih ⊢
  have e1:P*4294967296*c=4294967296*(P*c):=by rw[xbc P 4294967296,xbf]
  have e2:P*4294967296*e=4294967296*(P*e):=by rw[xbc P 4294967296,xbf]
  rw[e1,e2]
  omega
theorem zix{l:List Int}(hl:IsL l){i:Nat}(x:Int)(h:i<l.length)(h0:nv l<4294967296^i):nv (l.set i x)=nv l+4294967296^i*x.toNat:=by
 have h1:=zht l i x h
 rw[zes hl,xed h0]at h1
 simpa using h1
theorem zbo{n:Nat}(h:n≤4294967296):decide ((n:Int)≤LIM)=true:=by
 rw[zfe];exact decide_eq_true (by omega)
theorem zbr{l:List Int}(h:IsL l):l.take (zaj l)=zal (nv l):=take_tl h
theorem zbb{l:List Int}(h:IsL l):(zal (nv l)).length≤l.length:=limbs_le h
theorem zbf{n:Int}(h0:0≤n)(h1:n<18446744073709551616):wu64 n=n:=by
 show IntKind.u64.wrap n=n
 simp[IntKind.wrap,IntKind.bits,IntKind.signed];omega
theorem zhi(n:Int):wu32 n=n%4294967296:=by
 show IntKind.u32.wrap n=_
 simp[IntKind.wrap,IntKind.bits,IntKind.signed]
theorem wu64_mod(n:Int):wu64 n=n%18446744073709551616:=by
 show IntKind.u64.wrap n=_
 simp[IntKind.wrap,IntKind.bits,IntKind.signed]
theorem zaz{n:Int}(h0:-9223372036854775808≤n)(h1:n≤9223372036854775807):w n=n:=IntWalk.i64_in n ⟨h0,h1⟩
theorem sh32(n:Int):Int.fdiv n (2^(min (Int.toNat 32) 64))=n/4294967296:=by
 show Int.fdiv n 4294967296=_
 exact xgb n (by decide)
theorem zah{α β R:Type}(f:α→β)(g:(α→β)→Option R):letJ f g=g f:=by
 cases h:letJ f g
 ·exact h.symm
 ·exact h.symm
theorem zbq{α β γ:Type}{f:α→Option (α⊕β)}{k:β→Option γ}{a0:α}{Q:Option γ→Prop}(R:Nat→α→Prop)(n:Nat)(h0:R 0 a0)(hs:∀i a,i<n→R i a→∃a',f a=some (.inl a')∧R (i+1) a')(he:∀a,R n a→∃b,f a=some (.inr b)∧Q (k b)):Q ((zaa f a0).bind k):=by
 have key:∀m i a,i+m=n→R i a→∃b,zaa f a=some b∧Q (k b):=by
  intro m
  induction m with
  |zero=>
   intro i a hi hr
   obtain rfl:i=n:=by omega
   obtain⟨b,h1,h2⟩:=he a hr
   exact⟨b,zdw h1,h2⟩
  |succ m ih=>
   intro i a hi hr
   obtain⟨a',h1,h2⟩:=hs i a (by omega) hr
   obtain⟨b,h3,h4⟩:=ih (i+1) a' (by omega) h2
   exact⟨b,zgo h1 h3,h4⟩
 obtain⟨b,h1,h2⟩:=key n 0 a0 (by omega) h0
 rw[h1]
 exact h2
end Go.Proofs.YtmipjomnjkmdbaaGreat
namespace Go.Proofs.YtmipjomnjkmdbaaGreat
open Go Go.X
theorem d173_eq{xs:List Int}(h:xs.length≤4294967296):d173 xs=some xs:=by
 unfold d173;rw[zbo h];rfl
theorem zfv{a:List Int}(ha:IsL a)(h:a.length≤4294967296):d171 a=some (zal (nv a)):=by
 unfold d171
 have:=zbb ha
 rw[zbo h,xad,xab,zbr ha,d173_eq (by omega)]
 rfl
theorem zow{n:Int}(h0:0≤n)(h1:n<18446744073709551616):d129 n=some (zal n.toNat):=by
 unfold d129
 have e1:wu32 n=n%4294967296:=zhi n
 have e2:wu32 (wu64 (Int.fdiv n (2^(min (Int.toNat 32) 64))))=n/4294967296:=by
  rw[sh32,zbf (by omega) (by omega),zhi]
  omega
 rw[e1,e2]
 have hL:IsL [n%4294967296,n/4294967296]:=IsL.cons (by omega) (by omega) (IsL.cons (by omega) (by omega) IsL.nil)
 rw[zfv hL (by simp)]
 have:nv [n%4294967296,n/4294967296]=n.toNat:=by simp only[nv];omega
 rw[this]
 rfl
theorem d217_eq{a:List Int}(ha:IsL a){i:Int}(h0:0≤i):d217 a i=some (a.getD i.toNat 0):=by
 unfold d217
 have hg:=ha.getD i.toNat
 by_cases h:i<(a.length:Int)
 ·simp only[h,h0,xaw,xad,xah]
  rw[zbf hg.1 (by omega)]
 ·simp only[h,xcf,xae]
  rw[xac,xca (by omega)]
  rfl
theorem zfu{a:List Int}(ha:IsL a)(i:Nat):d217 a (i:Int)=some (a.getD i 0):=by
 rw[d217_eq ha (by omega)];rfl
def cmpN(x y:Nat):Int:=if x<y then -1 else if y<x then 1 else 0
theorem zgg{l:List Int}{k:Nat}(h:k<l.length):nv (l.take (k+1))=nv (l.take k)+4294967296^k*(l.getD k 0).toNat:=by
 rw[take_snoc l h,zhu,xav,xdx (by omega)]
 simp[nv]
theorem top_lt{l:List Int}(hl:IsL l)(k:Nat):nv (l.take k)<4294967296^k:=by
 have h1:=zoc (hl.take k)
 exact xaq h1 (xfo (by decide) (by rw[xav];omega))
theorem digit_cmp{P p q x y:Nat}(hp:p<P)(hq:q<P)(h:x<y):p+P*x<q+P*y:=by
 have:P*(x+1)≤P*y:=xcj _ h
 rw[xcd,xdp]at this
 omega
theorem d201_eq{a b:List Int}(ha:IsL a)(hb:IsL b)(la:a.length≤4294967296)(lb:b.length≤4294967296):d201 a b=some (cmpN (nv a) (nv b)):=by
 unfold d201
 rw[zbo la,zbo lb]
 simp only[xad,xab,zbr ha,zbr hb]
 have hla:=zbb ha
 have hlb:=zbb hb
 have hA:=zak (nv a)
 have hB:=zak (nv b)
 have eA:=zat (nv a)
 have eB:=zat (nv b)
 have cA:=zao (nv a)
 have cB:=zao (nv b)
 generalize hxA:zal (nv a)=A at *
 generalize hxB:zal (nv b)=B at *
 by_cases hne:A.length=B.length
 ·have e1:decide ((A.length:Int)=(B.length:Int))=true:=decide_eq_true (by omega)
  simp only[e1,xap,xae]
  have key:∀k,k≤A.length→nv (A.drop k)=nv (B.drop k)→(zaa (β:=Unit⊕Int) (fun((a_1,b_1,i):(List Int)×(List Int)×Int)=>
    bif (decide (0≤i))then
     bif (decide (0≤i)&&decide (i<(a_1.length:Int)))then
      bif (decide (0≤i)&&decide (i<(b_1.length:Int)))then
       bif (decide ((List.getD a_1 (Int.toNat i) 0)<(List.getD b_1 (Int.toNat i) 0)))then
        some (Sum.inr (Sum.inr (-1)))
       else
        bif (decide (0≤i)&&decide (i<(a_1.length:Int)))then
         bif (decide (0≤i)&&decide (i<(b_1.length:Int)))then
          bif (decide ((List.getD b_1 (Int.toNat i) 0)<(List.getD a_1 (Int.toNat i) 0)))then
           some (Sum.inr (Sum.inr 1))
          else
           some (Sum.inl (a_1,b_1,(w (i-1))))
         else none
        else none
      else none
     else none
    else
     some (Sum.inr (Sum.inl ()))) (A,B,(k:Int)-1)).bind (fun
  |Sum.inl _=>
   some 0
  |Sum.inr t4=>
   some t4)=some (cmpN (nv (A.take k)) (nv (B.take k))):=by
   intro k
   induction k with
   |zero=>
    intro _ _
    rw[zdw (b:=Sum.inl ()) (by rfl)]
    rfl
   |succ k ih=>
    intro hk hd
    have hkA:k<A.length:=by omega
    have hkB:k<B.length:=by omega
    have i1:((k+1:Nat):Int)-1=(k:Int):=by omega
    rw[i1]
    have d0:decide ((0:Int)≤(k:Int))=true:=decide_eq_true (by omega)
    have dA:decide ((k:Int)<(A.length:Int))=true:=decide_eq_true (by omega)
    have dB:decide ((k:Int)<(B.length:Int))=true:=decide_eq_true (by omega)
    have tA:=zgg hkA
    have tB:=zgg hkB
    have lA:=top_lt hA k
    have lB:=top_lt hB k
    have gA:=hA.getD k
    have gB:=hB.getD k
    rw[tA,tB]
    have hkn:Int.toNat (k:Int)=k:=rfl
    rcases Int.lt_trichotomy (A.getD k 0) (B.getD k 0)with h|h|h
    ·rw[zdw (b:=Sum.inr (-1)) (by simp only[d0,dA,dB,hkn,decide_eq_true h,xad,xah])]
     have:=digit_cmp lA lB (show(A.getD k 0).toNat<(B.getD k 0).toNat by omega)
     simp only[xab]
     unfold cmpN
     rw[if_pos this]
    ·have hd':nv (A.drop k)=nv (B.drop k):=by
      rw[zlr A hkA,zlr B hkB]
      simp only[nv,hd,h]
     have:=ih (by omega) hd'
     have hw:w ((k:Int)-1)=(k:Int)-1:=zaz (by omega) (by omega)
     obtain⟨z,hz⟩:∃z,cmpN (nv (A.take k)+4294967296^k*(A.getD k 0).toNat) (nv (B.take k)+4294967296^k*(B.getD k 0).toNat)=z:=⟨_,rfl⟩
     have hzz:cmpN (nv (A.take k)) (nv (B.take k))=z:=by
      rw[←hz,h];unfold cmpN
      generalize 4294967296^k*(B.getD k 0).toNat=q
      (repeat' split)<;>omega
     rw[hz]
     rw[hzz]at this
     simp only[xaz]at this ⊢
     obtain⟨b,hb1,hb2⟩:=this
     refine⟨b,zgo ?_ hb1,hb2⟩
     have n1:decide (A.getD k 0<B.getD k 0)=false:=decide_eq_false (by omega)
     have n2:decide (B.getD k 0<A.getD k 0)=false:=decide_eq_false (by omega)
     simp only[d0,dA,dB,hkn,n1,n2,xad,xae,xah,hw]
    ·have n1:decide (A.getD k 0<B.getD k 0)=false:=decide_eq_false (by omega)
     rw[zdw (b:=Sum.inr 1) (by simp only[d0,dA,dB,hkn,n1,decide_eq_true h,xad,xae,xah])]
     have:=digit_cmp lB lA (show(B.getD k 0).toNat<(A.getD k 0).toNat by omega)
     simp only[xab]
     unfold cmpN
     rw[if_neg (by omega),if_pos this]
  have:=key A.length (Nat.le_refl _) (by rw[List.drop_length,hne,List.drop_length])
  rw[xbo,hne,xbo,eA,eB]at this
  rw[zaz (by omega) (by omega),hne]
  exact this
 ·have e1:decide ((A.length:Int)=(B.length:Int))=false:=decide_eq_false (by omega)
  simp only[e1,xal,xad]
  rcases xcw A.length B.length with h|h
  ·have e2:decide ((A.length:Int)<(B.length:Int))=true:=decide_eq_true (by omega)
   have h1:=(cA A.length).1 (Nat.le_refl _)
   have h2:¬nv b<4294967296^A.length:=fun hh=>by have:=(cB A.length).2 hh;omega
   simp only[e2,xad]
   unfold cmpN
   rw[if_pos (by omega)]
  ·have e2:decide ((A.length:Int)<(B.length:Int))=false:=decide_eq_false (by omega)
   have h1:=(cB B.length).1 (Nat.le_refl _)
   have h2:¬nv a<4294967296^B.length:=fun hh=>by have:=(cA B.length).2 hh;omega
   simp only[e2,xae]
   unfold cmpN
   rw[if_neg (by omega),if_pos (by omega)]
end Go.Proofs.YtmipjomnjkmdbaaGreat
namespace Go.Proofs.YtmipjomnjkmdbaaGreat
open Go Go.X
theorem nv_takeS{l:List Int}(k:Nat):nv (l.take (k+1))=nv (l.take k)+4294967296^k*(l.getD k 0).toNat:=by
 by_cases h:k<l.length
 ·exact zgg h
 ·rw[xax (by omega),xax (by omega),xac,xca (by omega)]
  simp
theorem zdg{l:List Int}(hl:IsL l)(k:Nat):∃x:Nat,l.getD k 0=(x:Int)∧x<4294967296∧nv (l.take (k+1))=nv (l.take k)+4294967296^k*x:=by
 have:=hl.getD k
 refine⟨(l.getD k 0).toNat,by omega,by omega,nv_takeS k⟩
theorem pow_digit{P v x:Nat}(hv:v<P)(hx:x<4294967296):v+P*x<P*4294967296:=by
 have:P*(x+1)≤P*4294967296:=xcj _ hx
 rw[xcd,xdp]at this
 omega
theorem lenmax(x y:Nat):(bif decide ((x:Int)<(y:Int))then(y:Int)else(x:Int))=((max x y:Nat):Int):=by
 by_cases h:(x:Int)<(y:Int)
 ·rw[decide_eq_true h,xad];omega
 ·rw[decide_eq_false h,xae];omega
theorem carry_step{P v s lo hi c x y a b:Nat}(hs:s=x+y+c)(hlo:lo=s%4294967296)(hhi:hi=s/4294967296)(h:v+P*c=a+b):v+P*lo+P*4294967296*hi=a+P*x+(b+P*y):=by
 have e:s=lo+4294967296*hi:=by omega
 have:P*s=P*lo+P*4294967296*hi:=by rw[e,xcd,xbf]
 have e2:P*s=P*x+P*y+P*c:=by rw[hs,xcd,xcd]
 omega
theorem d209_eq{a b:List Int}(ha:IsL a)(hb:IsL b)(la:a.length≤1073741824)(lb:b.length≤1073741824):d209 a b=some (zal (nv a+nv b)):=by
 unfold d209
 rw[zbo (by omega),zbo (by omega)]
 simp only[xad,xab,zbr ha,zbr hb]
 have hla:=zbb ha
 have hlb:=zbb hb
 have hA:=zak (nv a)
 have hB:=zak (nv b)
 have eA:=zat (nv a)
 have eB:=zat (nv b)
 generalize hxA:zal (nv a)=A at *
 generalize hxB:zal (nv b)=B at *
 clear hxA hxB
 simp only[lenmax]
 obtain⟨n,hn⟩:∃n,max A.length B.length=n:=⟨_,rfl⟩
 have hnA:A.length≤n:=by omega
 have hnB:B.length≤n:=by omega
 have hn1:n≤1073741824:=by omega
 rw[hn]
 have w1:w ((n:Int)+1)=((n+1:Nat):Int):=by rw[zaz (by omega) (by omega)];omega
 have g1:decide ((0:Int)≤((n+1:Nat):Int))=true:=decide_eq_true (by omega)
 simp only[w1,xaw,g1,zbo (n:=n+1) (by omega),xah,xad]
 refine zbq (Q:=fun r=>r=some (zal (nv a+nv b))) (fun(i:Nat) (st:(List Int)×(List Int)×Int×(List Int)×Int×Int×Int)=>∃(out:List Int) (c:Nat),st=(A,B,(n:Int),out,(c:Int),(n:Int),(i:Int))∧IsL out∧out.length=n+1∧c≤1∧nv out+4294967296^i*c=nv (A.take i)+nv (B.take i)∧nv out<4294967296^i) n ?_ ?_ ?_
 ·exact⟨List.replicate (n+1) 0,0,rfl,IsL.zeros _,by simp,by omega,by simp[zdd,nv],by simp[zdd]⟩
 ·rintro i st hi ⟨out,c,rfl,hL,hlen,hc,hv,hlt⟩
  obtain⟨x,hx1,hx2,hx3⟩:=zdg hA i
  obtain⟨y,hy1,hy2,hy3⟩:=zdg hB i
  have q1:decide ((i:Int)<(n:Int))=true:=decide_eq_true (by omega)
  have q2:decide ((0:Int)≤(i:Int))=true:=decide_eq_true (by omega)
  have q3:decide ((i:Int)<(out.length:Int))=true:=decide_eq_true (by omega)
  have w2:w ((i:Int)+1)=((i+1:Nat):Int):=by rw[zaz (by omega) (by omega)];omega
  have s1:wu64 ((x:Int)+(y:Int))=(x:Int)+y:=zbf (by omega) (by omega)
  have s2:wu64 ((x:Int)+(y:Int)+(c:Int))=(x:Int)+y+c:=zbf (by omega) (by omega)
  have s3:wu32 ((x:Int)+(y:Int)+(c:Int))=(((x+y+c)%4294967296:Nat):Int):=by rw[zhi];omega
  have s4:wu64 (((x:Int)+(y:Int)+(c:Int))/4294967296)=(((x+y+c)/4294967296:Nat):Int):=by rw[zbf (by omega) (by omega)];omega
  simp only[zfu hA,zfu hB,q1,q2,q3,w2,hx1,hy1,s1,s2,s3,sh32,s4,xad,xah,xab,show Int.toNat (i:Int)=i from rfl]
  have e1:=zix hL (i:=i) (((x+y+c)%4294967296:Nat):Int) (by omega) hlt
  rw[xan]at e1
  refine⟨_,rfl,_,_,rfl,hL.set i (by omega) (by omega),by simpa using hlen,by omega,?_,?_⟩
  ·rw[e1,hx3,hy3,xbi]
   exact carry_step rfl rfl rfl hv
  ·rw[e1,xbi]
   exact pow_digit hlt (by omega)
 ·rintro st ⟨out,c,rfl,hL,hlen,hc,hv,hlt⟩
  have q1:decide ((n:Int)<(n:Int))=false:=decide_eq_false (by omega)
  have q2:decide ((0:Int)≤(n:Int))=true:=decide_eq_true (by omega)
  have q3:decide ((n:Int)<(out.length:Int))=true:=decide_eq_true (by omega)
  have s3:wu32 (c:Int)=(c:Int):=by rw[zhi];omega
  refine⟨((n:Int),out,(c:Int)),by simp only[q1,xae],?_⟩
  simp only[q2,q3,s3,xad,xah,show Int.toNat (n:Int)=n from rfl]
  have e1:=zix hL (i:=n) (c:Int) (by omega) hlt
  rw[xan]at e1
  rw[xax hnA,xax hnB,eA,eB]at hv
  rw[zfv (hL.set n (by omega) (by omega)) (by simp;omega),e1,hv]
  rfl
end Go.Proofs.YtmipjomnjkmdbaaGreat
namespace Go.Proofs.YtmipjomnjkmdbaaGreat
open Go Go.X
theorem zhs{l:List Int}(hl:IsL l){k m:Nat}{x:Int}(h0:0≤x)(h1:x<4294967296)(hk:k<m)(hv:nv l<4294967296^m):nv (l.set k x)<4294967296^m:=by
 have hs:=hl.set k h0 h1
 by_cases h:m≤l.length
 ·have e1:(l.set k x).drop m=l.drop m:=List.drop_set_of_lt hk
  have e2:=nv_drop hl h
  rw[xed hv]at e2
  rw[nv_split (l.set k x) m (by simpa using h),e1,e2,xgp,xda]
  exact top_lt hs m
 ·have:=zoc hs
  rw[List.length_set]at this
  exact xaq this (xfo (by decide) (by omega))
theorem or_add{a b n:Nat}(h:a<2^n):a|||b*2^n=a+b*2^n:=by
 rw[Nat.or_comm,xbc b,xfk,←Nat.two_pow_add_eq_or_of_lt h b]
theorem zgf(k n:Nat)(h:n<2^k):(BitVec.ofInt k (n:Int)).toNat=n:=by
 rw[BitVec.ofInt_natCast,BitVec.toNat_ofNat,xck h]
theorem or64{a b:Nat}(ha:a<4294967296)(hb:b<4294967296):(BitVec.ofInt 64 ((a*4294967296:Nat):Int)|||BitVec.ofInt 64 (b:Int)).toNat=a*4294967296+b:=by
 rw[xha,zgf 64 _ (by omega),zgf 64 _ (by omega),Nat.or_comm]
 have:=or_add (a:=b) (b:=a) (n:=32) hb
 rw[show(2:Nat)^32=4294967296 from rfl]at this
 rw[this];omega
theorem zap{n:Nat}(h:n<18446744073709551616):wu64 (n:Int)=(n:Int):=zbf (by omega) (by omega)
theorem zcn{n:Nat}:wu32 (n:Int)=((n%4294967296:Nat):Int):=by rw[zhi];omega
theorem shl32(n:Nat):(n:Int)*2^(min (Int.toNat 32) 64)=((n*4294967296:Nat):Int):=by
 show(n:Int)*4294967296=_
 omega
theorem shr32(n:Nat):Int.fdiv (n:Int) (2^(min (Int.toNat 32) 64))=((n/4294967296:Nat):Int):=by
 rw[sh32];omega
theorem or64w{a b:Nat}(ha:a<4294967296)(hb:b<4294967296):wu64 (((BitVec.ofInt 64 (wu64 ((a:Int)*2^(min (Int.toNat 32) 64)))|||BitVec.ofInt 64 (wu64 (b:Int))).toNat:Nat):Int)=((a*4294967296+b:Nat):Int):=by
 rw[shl32,zap (n:=a*4294967296) (by omega),zap (n:=b) (by omega),or64 ha hb,zap (by omega)]
theorem wadd{a b:Nat}(h:a+b≤9223372036854775807):w ((a:Int)+(b:Int))=((a+b:Nat):Int):=by rw[zaz (by omega) (by omega)];omega
theorem zbc{a:Nat}(h:a<9223372036854775807):w ((a:Int)+1)=((a+1:Nat):Int):=by rw[zaz (by omega) (by omega)];omega
theorem wpred{a:Nat}(h:a<9223372036854775807):w (((a+1:Nat):Int)-1)=(a:Int):=by rw[zaz (by omega) (by omega)];omega
theorem dlt{a b:Nat}(h:a<b):decide ((a:Int)<(b:Int))=true:=decide_eq_true (by omega)
theorem nlt{a b:Nat}(h:b≤a):decide ((a:Int)<(b:Int))=false:=decide_eq_false (by omega)
theorem d0le(a:Nat):decide ((0:Int)≤(a:Int))=true:=decide_eq_true (by omega)
theorem tn(a:Nat):Int.toNat (a:Int)=a:=rfl
theorem cmpN_lt(x y:Nat):decide (cmpN x y<0)=decide (x<y):=by
 unfold cmpN
 by_cases h:x<y
 ·rw[if_pos h,decide_eq_true h];rfl
 ·rw[if_neg h,decide_eq_false h];split<;>rfl
theorem zdb{x y:Nat}(h:x≤y):(zal x).length≤(zal y).length:=by
 have h1:=(zao y (zal y).length).1 (Nat.le_refl _)
 exact(zao x _).2 (by omega)
theorem borrow_step{P v s lo h c c' x y a b:Nat}(hs:s+y+c=4294967296+x)(hlo:s=lo+4294967296*h)(hc:c'+h=1)(e:v+b=a+P*c):v+P*lo+(b+P*y)=a+P*x+P*4294967296*c':=by
 have e1:lo+y+c=x+4294967296*c':=by omega
 have e2:=xbe (P * ·) e1
 simp only[xcd,←xbf]at e2
 omega
theorem d210_eq{a b:List Int}(ha:IsL a)(hb:IsL b)(la:a.length≤1073741824)(lb:b.length≤1073741824):d210 a b=some (if nv a<nv b then([],false)else(zal (nv a-nv b),true)):=by
 unfold d210
 rw[zbo (by omega),zbo (by omega)]
 simp only[xad,xab,zbr ha,zbr hb]
 have hla:=zbb ha
 have hlb:=zbb hb
 have hA:=zak (nv a)
 have hB:=zak (nv b)
 have eA:=zat (nv a)
 have eB:=zat (nv b)
 have hm:=@zdb (nv b) (nv a)
 generalize hxA:zal (nv a)=A at *
 generalize hxB:zal (nv b)=B at *
 clear hxA hxB
 rw[d201_eq hA hB (by omega) (by omega),eA,eB]
 simp only[xab,cmpN_lt]
 by_cases hlt:nv a<nv b
 ·rw[decide_eq_true hlt,if_pos hlt];rfl
 rw[decide_eq_false hlt,if_neg hlt]
 have hBA:=hm (by omega)
 simp only[xae,xaw,d0le,zbo (n:=A.length) (by omega),xah,xad,tn]
 refine zbq (Q:=fun r=>r=some (zal (nv a-nv b),true)) (fun(i:Nat) (st:(List Int)×(List Int)×(List Int)×Int×Int×Int)=>∃(out:List Int) (c:Nat),st=(A,B,out,(c:Int),(A.length:Int),(i:Int))∧IsL out∧out.length=A.length∧c≤1∧nv out+nv (B.take i)=nv (A.take i)+4294967296^i*c∧nv out<4294967296^i) A.length ?_ ?_ ?_
 ·exact⟨List.replicate A.length 0,0,rfl,IsL.zeros _,by simp,by omega,by simp[zdd,nv],by simp[zdd]⟩
 ·rintro i st hi ⟨out,c,rfl,hL,hlen,hc,hv,hv2⟩
  obtain⟨x,hx1,hx2,hx3⟩:=zdg hA i
  obtain⟨y,hy1,hy2,hy3⟩:=zdg hB i
  obtain⟨s,hs⟩:∃s,4294967296+x-y-c=s:=⟨_,rfl⟩
  have s1:wu64 (4294967296+(x:Int))=4294967296+(x:Int):=zbf (by omega) (by omega)
  have s2:wu64 (4294967296+(x:Int)-(y:Int))=4294967296+(x:Int)-y:=zbf (by omega) (by omega)
  have s3:wu64 (4294967296+(x:Int)-(y:Int)-(c:Int))=(s:Int):=by rw[zbf (by omega) (by omega)];omega
  have s4:wu64 (((s/4294967296:Nat):Int))=((s/4294967296:Nat):Int):=zap (by omega)
  have s5:wu64 (1-((s/4294967296:Nat):Int))=((1-s/4294967296:Nat):Int):=by rw[zbf (by omega) (by omega)];omega
  simp only[zfu hA,zfu hB,dlt hi,d0le,dlt (show i<out.length by omega),zbc (show i<9223372036854775807 by omega),hx1,hy1,s1,s2,s3,shr32,s4,s5,zcn,xad,xah,xab,tn]
  have e1:=zix hL (i:=i) (((s%4294967296:Nat):Int)) (by omega) hv2
  rw[xan]at e1
  refine⟨_,rfl,_,_,rfl,hL.set i (by omega) (by omega),by simpa using hlen,by omega,?_,?_⟩
  ·rw[e1,hx3,hy3,xbi]
   exact borrow_step (s:=s) (h:=s/4294967296) (by omega) (by omega) (by omega) hv
  ·rw[e1,xbi]
   exact pow_digit hv2 (by omega)
 ·rintro st ⟨out,c,rfl,hL,hlen,hc,hv,hv2⟩
  refine⟨out,by simp only[nlt (Nat.le_refl A.length),xae],?_⟩
  rw[xax (Nat.le_refl _),xax hBA,eA,eB]at hv
  have hc0:c=0:=by
   rcases xbw c with h|h
   ·exact h
   ·have:c=1:=by omega
    subst this
    omega
  subst hc0
  show(d171 out).bind _=_
  rw[zfv hL (by omega),show nv out=nv a-nv b by omega]
  rfl
theorem mul_step{P v s lo hi c x y o t:Nat}(hs:s=x*y+o+c)(hlo:s=lo+4294967296*hi):P*lo+P*4294967296*hi=P*(x*y)+P*o+P*c:=by
 have e2:=xbe (P * ·) (hlo.symm.trans hs)
 simp only[xcd,←xbf]at e2 ⊢
 omega
theorem d177_eq{a b:List Int}(ha:IsL a)(hb:IsL b)(la:a.length≤1073741824)(lb:b.length≤1073741824):d177 a b=some (zal (nv a*nv b)):=by
 unfold d177
 rw[zbo (by omega),zbo (by omega)]
 simp only[xad,xab,zbr ha,zbr hb]
 have hla:=zbb ha
 have hlb:=zbb hb
 have hA:=zak (nv a)
 have hB:=zak (nv b)
 have eA:=zat (nv a)
 have eB:=zat (nv b)
 generalize hxA:zal (nv a)=A at *
 generalize hxB:zal (nv b)=B at *
 clear hxA hxB
 simp only[wadd (show A.length+B.length≤9223372036854775807 by omega),xaw,d0le,zbo (n:=A.length+B.length) (by omega),xah,xad,tn]
 refine zbq (Q:=fun r=>r=some (zal (nv a*nv b))) (fun(i:Nat) (st:(List Int)×(List Int)×(List Int)×Int×Int)=>∃(out:List Int),st=(B,out,A,(A.length:Int),(i:Int))∧IsL out∧out.length=A.length+B.length∧nv out=nv (A.take i)*nv B) A.length ?_ ?_ ?_
 ·exact⟨_,rfl,IsL.zeros _,by simp,by simp[zdd,nv]⟩
 ·rintro i st hi ⟨out,rfl,hL,hlen,hv⟩
  obtain⟨x,hx1,hx2,hx3⟩:=zdg hA i
  have hlt0:nv out<4294967296^(i+B.length):=by
   rw[hv,xdo]
   exact Nat.mul_lt_mul'' (top_lt hA i) (zoc hB)
  simp only[dlt hi,d0le,xad,xah,tn,hx1]
  refine zbq (Q:=fun(r:Option (((List Int)×(List Int)×(List Int)×Int×Int)⊕(List Int)))=>∃a',r=some (.inl a')∧∃(out:List Int),a'=(B,out,A,(A.length:Int),((i+1:Nat):Int))∧IsL out∧out.length=A.length+B.length∧nv out=nv (A.take (i+1))*nv B)
   (fun(j:Nat) (st:(List Int)×(List Int)×Int×Int×Int×(List Int)×Int×Int×(List Int)×Int×Int)=>∃(o:List Int) (c:Nat),st=(B,o,(i:Int),(x:Int),(c:Int),A,(A.length:Int),(i:Int),B,(B.length:Int),(j:Int))∧IsL o∧o.length=A.length+B.length∧c<4294967296∧nv o+4294967296^i*4294967296^j*c=nv out+4294967296^i*(x*nv (B.take j))∧nv o<4294967296^(i+B.length)) B.length ?_ ?_ ?_
  ·exact⟨out,0,rfl,hL,hlen,by omega,by simp[nv],hlt0⟩
  ·rintro j st hj ⟨o,c,rfl,hL',hlen',hc,hv',hlt'⟩
   obtain⟨y,hy1,hy2,hy3⟩:=zdg hB j
   have hz:=hL'.getD (i+j)
   obtain⟨z,hz1⟩:∃z:Nat,o.getD (i+j) 0=(z:Int):=⟨_,(xfy hz.1).symm⟩
   rw[hz1]at hz
   obtain⟨p,hp⟩:∃p,x*y=p:=⟨_,rfl⟩
   have hpl:p≤4294967295*4294967295:=by rw[←hp];exact Nat.mul_le_mul (by omega) (by omega)
   have hxy:(x:Int)*(y:Int)=(p:Int):=by rw[←hp];simp
   have s1:wu64 ((p:Int)+(z:Int))=((p+z:Nat):Int):=by rw[zbf (by omega) (by omega)];omega
   have s2:wu64 (((p+z:Nat):Int)+(c:Int))=((p+z+c:Nat):Int):=by rw[zbf (by omega) (by omega)];omega
   obtain⟨s,hs⟩:∃s,p+z+c=s:=⟨_,rfl⟩
   have s4:wu64 (((s/4294967296:Nat):Int))=((s/4294967296:Nat):Int):=zap (by omega)
   simp only[dlt hj,d0le,wadd (show i+j≤9223372036854775807 by omega),dlt (show i+j<o.length by omega),xad,xah,tn,hy1,hz1,zap (show x<18446744073709551616 by omega),zap (show y<18446744073709551616 by omega),zap (show z<18446744073709551616 by omega),hxy,zap (show p<18446744073709551616 by omega),s1,s2,hs,zcn,shr32,s4,zbc (show j<9223372036854775807 by omega)]
   have e1:=zht o (i+j) (((s%4294967296:Nat):Int)) (by omega)
   rw[xan,hz1,xan]at e1
   refine⟨_,rfl,_,_,rfl,hL'.set _ (by omega) (by omega),by simpa using hlen',by omega,?_,zhs hL' (by omega) (by omega) (by omega) hlt'⟩
   rw[hy3,xbi]
   rw[xdo]at e1
   have e2:s=x*y+z+c:=by rw[hp,hs]
   have e3:=mul_step (P:=4294967296^i*4294967296^j) (v:=0) (t:=0) e2 (show s=s%4294967296+4294967296*(s/4294967296) by omega)
   have e4:4294967296^i*(x*(nv (B.take j)+4294967296^j*y))=4294967296^i*(x*nv (B.take j))+4294967296^i*4294967296^j*(x*y):=by
    rw[xcd,xcd]
    congr 1
    rw[Nat.mul_left_comm x,←xbf]
   rw[e4]
   rw[←xbf (4294967296^i) (4294967296^j) 4294967296]
   omega
  ·rintro st ⟨o,c,rfl,hL',hlen',hc,hv',hlt'⟩
   refine⟨_,by simp only[nlt (Nat.le_refl B.length),xae];rfl,?_⟩
   simp only[d0le,wadd (show i+B.length≤9223372036854775807 by omega),dlt (show i+B.length<o.length by omega),xad,xah,tn,zbc (show i<9223372036854775807 by omega),zcn,xck hc]
   have e1:=zix hL' (i:=i+B.length) (c:Int) (by omega) hlt'
   rw[xan]at e1
   refine⟨_,rfl,_,rfl,hL'.set _ (by omega) (by omega),by simpa using hlen',?_⟩
   rw[xax (Nat.le_refl _)]at hv'
   rw[e1,hx3,xbj,xdo,hv',hv,xbf]
 ·rintro st ⟨out,rfl,hL,hlen,hv⟩
  refine⟨out,by simp only[nlt (Nat.le_refl A.length),xae],?_⟩
  rw[xax (Nat.le_refl _),eA,eB]at hv
  show(d171 out).bind _=_
  rw[zfv hL (by omega),hv]
  rfl
end Go.Proofs.YtmipjomnjkmdbaaGreat
