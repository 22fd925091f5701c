/- A part of the proof. -/
import Derived.Laws.BytesArg
import Derived.Test.YtamgmpngdmnadaaGreatJ2
set_option linter.defProp false
set_option linter.unusedSimpArgs false
set_option linter.unusedVariables false
namespace Go.X
open Go Go.RowKit
inductive PM where
 |bw | sh | give (m:Md) | io (m:Md)
 deriving DecidableEq
def PM.md:PM->Md
 | .bw=>.bw
 | .sh=>.sh
 | .give m=>m
 | .io m=>m
structure Sig where
 ps:List (Ty×PM)
 rs:List (Ty×Md)
@[reducible] def zgc:List (Ty×PM)->List (Ty×Md)
 | []=>[]
 |(t,.io m)::r=>(t,m)::zgc r
 |(_,.bw)::r=>zgc r
 |(_,.sh)::r=>zgc r
 |(_,.give _)::r=>zgc r
@[reducible] def zek:List Ty->Type
 | []=>Unit
 |t::ts=>t.den×zek ts
@[reducible] def Arr:List Ty->Type->Type
 | [],r=>r
 |t::ts,r=>t.den->Arr ts r
def app{r:Type}:(ts:List Ty)->Arr ts r->zek ts->r
 | [],f,_=>f
 |_::ts,f,x=>app ts (f x.1) x.2
@[reducible] def Ret:List Ty->Type
 | []=>Unit
 | [t]=>t.den
 |t::s::ts=>t.den×Ret (s::ts)
def Ret.vals:(ts:List Ty)->Ret ts->zek ts
 | [],_=>()
 | [_],x=>(x,())
 |_::s::ts,x=>(x.1,Ret.vals (s::ts) x.2)
@[reducible] def tys:List (Ty×Md)->List Ty
 | []=>[]
 |p::r=>p.1::tys r
@[reducible] def zft:List (Ty×PM)->List Ty
 | []=>[]
 |p::r=>p.1::zft r
@[reducible] def Sig.res(s:Sig):List Ty:=tys s.rs++tys (zgc s.ps)
def tms:(l:List (Ty×Md))->zek (tys l)->List TM
 | [],_=>[]
 |(t,m)::l,x=>⟨t,m,x.1⟩::tms l x.2
def zkg:(l:List (Ty×PM))->zek (zft l)->List TM
 | [],_=>[]
 |(t,m)::l,x=>⟨t,m.md,x.1⟩::zkg l x.2
def zsa:(a b:List Ty)->zek (a++b)->zek a×zek b
 | [],_,x=>((),x)
 |_::a,b,x=>((x.1,(zsa a b x.2).1),(zsa a b x.2).2)
def outTM:Nat->(l:List (Ty×PM))->zek (tys (zgc l))->List (Nat×TM)
 |_,[],_=>[]
 |k,(t,.io m)::r,x=>(k,⟨t,m,x.1⟩)::outTM (k+1) r x.2
 |k,(_,.bw)::r,x=>outTM (k+1) r x
 |k,(_,.sh)::r,x=>outTM (k+1) r x
 |k,(_,.give _)::r,x=>outTM (k+1) r x
def Sig.resTM(s:Sig)(y:Ret s.res):List TM:=tms s.rs (zsa _ _ (Ret.vals _ y)).1
def Sig.outTM(s:Sig)(y:Ret s.res):List (Nat×TM):=Go.X.outTM 0 s.ps (zsa _ _ (Ret.vals _ y)).2
structure Frm(S S':St):Prop where
 F:∀b,S.F b->S'.F b
 B:S'.B=S.B
 shared:∀b,S'.F b->S'.own b=none/\b<S'.w.heap.size/\(S.F b\/S.w.heap.size<=b\/S.own b≠none)
 lent:∀b,S.B b->S'.own b=none
 owned:∀b p,S'.own b=some p->b<S'.w.heap.size/\(S.w.heap.size<=b\/S.own b≠none)
 os:S'.w.os=S.w.os
 tape:S'.w.tape=S.w.tape
 output:S'.w.output=S.w.output
 size:S.w.heap.size<=S'.w.heap.size
 kept:∀b,b<S.w.heap.size->S.own b=none->S'.w.heap[b]?=S.w.heap[b]?
def ResOK(P:Program)(S:St)(rs:List TM)(v:Value):Prop:=
 match rs with
 | [e]=>SR P e.t S e.m (0,[0]) e.x v
 |rs=>∃us,v=.tuple us/\us.size=rs.length/\∀(k:Nat) (e:TM),rs[k]?=some e->∃u,us[k]?=some u/\SR P e.t S e.m (0,[k]) e.x u
def Sim(P:Program)(f:FuncId)(sg:Sig)(den:Arr (zft sg.ps) (Option (Ret sg.res))):Prop:=
 zdn P f/\∀(xs:zek (zft sg.ps)) (y:Ret sg.res),app _ den xs=some y->∀(S:St),S.WF->∀(vs:List Value),vs.length=(zkg sg.ps xs).length ->
  (∀(i:Nat) (e:TM),(zkg sg.ps xs)[i]?=some e->∃v,vs[i]?=some v/\SR P e.t S e.m (i,[]) e.x v) ->
  Calls P f vs.toArray S.w λe w'=>∃v S',e=.returned v/\S'.w=w'/\Frm S S'/\ResOK P S' (sg.resTM y) v /\
   ∀(k:Nat) (e:TM),(k,e)∈sg.outTM y->∃u,vs[k]?=some u/\SR P e.t S' e.m (k+1,[]) e.x u
structure FnE(P:Program) where
 f:FuncId
 sg:Sig
 den:Arr (zft sg.ps) (Option (Ret sg.res))
 ok:Sim P f sg den
def MSim(P:Program)(nm:String)(sg:Sig)(den:Arr (zft sg.ps) (Option (Ret sg.res))):Prop:=
 ∀(xs:zek (zft sg.ps)) (y:Ret sg.res),app _ den xs=some y->∀(S:St),S.WF->∀(vs:List Value),vs.length=(zkg sg.ps xs).length ->
  (∀(i:Nat) (e:TM),(zkg sg.ps xs)[i]?=some e->∃v,vs[i]?=some v/\SR P e.t S e.m (i,[]) e.x v) ->
  ∃f us,(∀w,(invoke (.fn (.method nm) #[]) vs.toArray).run P w=.ok (.enter f us) w) /\
  Calls P f us S.w λe w'=>∃v S',e=.returned v/\S'.w=w'/\Frm S S'/\ResOK P S' (sg.resTM y) v /\
   ∀(k:Nat) (e:TM),(k,e)∈sg.outTM y->∃u,vs[k]?=some u/\SR P e.t S' e.m (k+1,[]) e.x u
def AheadI(P:Program)(nm:String):Ty->Prop
 | .alt tid _ b=>(∀v w,(nilAhead (P.types.size+Made.depth) tid v nm).run P w=.ok (some false) w)/\AheadI P nm b
 | .nilI=>True
 |_=>False
structure MeE(P:Program) where
 nm:String
 t:Ty
 ahead:AheadI P nm t
 sg:Sig
 den:Arr (zft sg.ps) (Option (Ret sg.res))
 ok:MSim P nm sg den
def zcf(xs:List Int):List Int:=xs.mergeSort λx y=>decide (x<=y)
structure PreE(P:Program) where
 f:FuncId
 k:IntKind
 g:List Int->Nat
 ent:zdn P f
 spec:∀(w:World) (A:Option Addr) (cap:Nat) (xs:List Int),xs.length<=4294967296->xs.length<=cap->(∀n∈xs,k.wrap n=n) ->
  ((xs=[]/\cap=0)\/∃b o,A=some ⟨b,o,none⟩/\∀(i:Nat) (h:i<xs.length),w.cell? ⟨b,o+i,none⟩=some (.int k xs[i])) ->
  Calls P f #[.slice A xs.length cap] w λe w'=>w'=w/\g xs<=xs.length/\((e=.returned (.slice none 0 0)/\g xs=0)\/e=.returned (.slice A (g xs) cap))
inductive TgE(P:Program) where
 |fn (e:FnE P) | me (e:MeE P) | pre (e:PreE P)
def findF{P:Program}:List (TgE P)->FuncId->Option (FnE P)
 | [],_=>none
 | .fn e::r,f=>if f=e.f then some e else findF r f
 | .me _::r,f=>findF r f
 | .pre _::r,f=>findF r f
def findM{P:Program}:List (TgE P)->String->Option (MeE P)
 | [],_=>none
 | .fn _::r,f=>findM r f
 | .me e::r,f=>if f=e.nm then some e else findM r f
 | .pre _::r,f=>findM r f
def findP{P:Program}:List (TgE P)->FuncId->Option (PreE P)
 | [],_=>none
 | .fn _::r,f=>findP r f
 | .me _::r,f=>findP r f
 | .pre e::r,f=>if f=e.f then some e else findP r f
def findP_f{P:Program}{l:List (TgE P)}{f:FuncId}{e:PreE P}(h:findP l f=some e):e.f=f:=by
 induction l with
 |nil=>cases h
 |cons x l ih=>
  cases x with
  |me e=>exact ih h
  |fn e=>exact ih h
  |pre e=>
   unfold findP at h;split at h;·rename_i hf;cases h;exact hf.symm
   ·exact ih h
def findF_f{P:Program}{l:List (TgE P)}{f:FuncId}{e:FnE P}(h:findF l f=some e):e.f=f:=by
 induction l with
 |nil=>cases h
 |cons x l ih=>
  cases x with
  |me e=>exact ih h
  |pre e=>exact ih h
  |fn e=>
   unfold findF at h;split at h;·rename_i hf;cases h;exact hf.symm
   ·exact ih h
def findM_nm{P:Program}{l:List (TgE P)}{f:String}{e:MeE P}(h:findM l f=some e):e.nm=f:=by
 induction l with
 |nil=>cases h
 |cons x l ih=>
  cases x with
  |fn e=>exact ih h
  |pre e=>exact ih h
  |me e=>
   unfold findM at h;split at h;·rename_i hf;cases h;exact hf.symm
   ·exact ih h
def capTM(σ:Env):Cap->Option TM
 | .ref r π s=>match(σ r).e with
  | .v tr mr xr=>if zri (σ r) tr π s then match zbr π tr mr,zcc π tr xr with
   |some k,some y=>if zkh y.t k then some ⟨y.t,.bw,y.x⟩else none
   |_,_=>none else none
  |_=>none
 | .rb r π s=>match(σ r).e with
  | .v tr mr xr=>if zri (σ r) tr π s then match zbr π tr mr,zcc π tr xr with
   |some k,some y=>if zkh y.t k then some ⟨.ptr y.t,.bw,y.x⟩else none
   |_,_=>none else none
  |_=>none
 | .val e=>match e with
  |⟨.ptr u,_,x⟩=>some ⟨u,.bw,x⟩
  |_=>none
def zol(σ:Env):List Cap->Option (List TM)
 | []=>some []
 |c::r=>match capTM σ c,zol σ r with
  |some e,some es=>some (e::es)
  |_,_=>none
def zix(σ:Env):Operand->Option (Nat×List TM)
 | .func f=>some (f,[])
 | .tmp t=>match(σ t).e with
  | .clo f caps=>(zol σ caps).map λes=>(f,es)
  |_=>none
 |_=>none
def zda:List Cap->List Nat
 | []=>[]
 | .ref r _ _::c=>r::zda c
 | .rb r _ _::c=>r::zda c
 | .val _::c=>zda c
def zcx:(ps:List (Ty×PM))->List TM->Option (zek (zft ps))
 | [],[]=>some ()
 |(.ptr u,.bw)::ps,e::es=>match(TV.to ⟨e.t,e.x⟩ u),zcx ps es with
  |some x,some xs=>some ((x,xs):u.den×zek (zft ps))
  |_,_=>none
 |_,_=>none
def castR{r' r:Ty}{o:List (Ty×Md)}(h:r'=r)(ho:o=[])(y:Option (Ret ([r']++tys o))):Option r.den:=by subst h;subst ho;exact y
def fnVal1{P:Program}(FT:List (TgE P))(a r:Ty)(q:Option (Nat×List TM)):Option (a.den->Option r.den):=
 match q with
 |some (f,es)=>match findF FT f with
  |some ⟨_,⟨(a',.bw)::ps,[(r',.sh)]⟩,den,_⟩=>
   if h:a'=a/\r'=r/\zgc ps=[]/\r.flat=true then
    match zcx ps es with
    |some cs=>some λx=>castR h.2.1 h.2.2.1 (app (zft ps) (den (h.1▸x)) cs:Option (Ret ([r']++tys (zgc ps))))
    |none=>none else none
  |_=>none
 |none=>none
def fnVal2{P:Program}(FT:List (TgE P))(a b r:Ty)(q:Option (Nat×List TM)):Option (a.den->b.den->Option r.den):=
 match q with
 |some (f,es)=>match findF FT f with
  |some ⟨_,⟨(a',.bw)::(b',.bw)::ps,[(r',.sh)]⟩,den,_⟩=>
   if h:a'=a/\b'=b/\r'=r/\zgc ps=[]/\r.flat=true then
    match zcx ps es with
    |some cs=>some λx y=>castR h.2.2.1 h.2.2.2.1 (app (zft ps) (den (h.1▸x) (h.2.1▸y)) cs:Option (Ret ([r']++tys (zgc ps))))
    |none=>none else none
  |_=>none
 |none=>none
structure Gv where
 r:Nat
 π:List Nat
 t:Ty
 m:Md
 x:t.den
 u:Ty
 k:Md
 io:Bool
structure ArgR(t:Ty) where
 x:t.den
 g:Option Gv
 lr:List Nat
def Opd.roots(o:Opd):List Nat:=
 match o with
 | .slot s c _=>match c.e with
  | .v _ m _=>if m.noown then []else [s]
  | .view r _ _=>[r]
  | .tail r _ _=>[r]
  | .ref r _ _=>[r]
  | .clo _ caps=>zda caps
  |_=>[]
 |_=>[]
def zzm(t:Ty)(o:Opd):Option (ArgR t):=
 match o.val t with
 |some (m,x)=>if zkh t m then some ⟨x,none,o.roots⟩else none
 |none=>none
def argPtr(u:Ty)(o:Opd):Option (ArgR (.ptr u)):=
 match o.ro with
 |some e=>(TV.to ⟨e.t,e.x⟩ u).map λx=>⟨x,none,[]⟩
 |none=>match o.place with
  |some p=>match zbr p.π p.t p.m,zcc p.π p.t p.x with
   |some k,some y=>if zkh y.t k then(y.to u).map λx=>⟨x,none,o.roots⟩else none
   |_,_=>none
  |none=>none
def argSh(t:Ty)(o:Opd):Option (ArgR t):=
 match o.val t with
 |some (m,x)=>if leM t m .sh then some ⟨x,none,[]⟩else none
 |none=>none
def argNil(t:Ty)(m:Md):Option (ArgR t):=
 match t,m with
 | .slice u,.own _ _=>if 0<u.size then some ⟨[],none,[]⟩else none
 |_,_=>none
def argGive(t:Ty)(m:Md)(o:Opd):Option (ArgR t):=
 match o with
 | .con (.slice none 0 0)=>argNil t m
 | .slot s cc root=>match cc.e with
  | .v t' k x=>if leM t' k m then(TV.to ⟨t',x⟩ t).map λz=>⟨z,some ⟨s,[],t',k,x,t',m,false⟩,[]⟩else none
  | .view r π s'=>match root.e with
   | .v tr mr xr=>if root.h=s'/\t.isSlice=true then match zbr π tr mr,zcc π tr xr with
    |some (.own e k),some y=>if leM y.t (.own e k) m then(y.to t).map λz=>⟨z,some ⟨r,π,tr,mr,xr,y.t,m,false⟩,[]⟩else none
    |_,_=>none else none
   |_=>none
  |_=>none
 |_=>none
def argIo(u:Ty)(m:Md)(o:Opd):Option (ArgR (.ptr u)):=
 match o.place with
 |some p=>match p.π.reverse with
  | 0::ρ=>match zbr ρ.reverse p.t p.m,zcc ρ.reverse p.t p.x with
   |some (.own e k),some y=>if m=.own e k/\y.t=.ptr u then(y.to (.ptr u)).map λz=>⟨z,some ⟨p.r,ρ.reverse,p.t,p.m,p.x,.ptr u,m,true⟩,[]⟩else none
   |_,_=>none
  |_=>none
 |none=>none
def argIoS(u:Ty)(m:Md)(o:Opd):Option (ArgR (.slice u)):=
 match o.splace with
 |some p=>match zbr p.π p.t p.m,zcc p.π p.t p.x with
  |some (.own e k),some y=>if m=.own e k/\y.t=.slice u then(y.to (.slice u)).map λz=>⟨z,some ⟨p.r,p.π,p.t,p.m,p.x,.slice u,m,true⟩,[]⟩else none
  |_,_=>none
 |none=>none
def argIoA(t:Ty)(m:Md)(o:Opd):Option (ArgR t):=
 match o with
 | .slot s cc root=>match cc.e with
  | .v t' k x=>if k=m/\t'=t then(TV.to ⟨t',x⟩ t).map λz=>⟨z,some ⟨s,[],t',k,x,t',m,true⟩,[]⟩else none
  | .view r [] s'=>match root.e with
   | .v t' k x=>if root.h=s'/\k=m/\t'=t then(TV.to ⟨t',x⟩ t).map λz=>⟨z,some ⟨r,[],t',k,x,t',m,true⟩,[]⟩else none
   |_=>none
  |_=>none
 |_=>none
def argV{P:Program}(FT:List (TgE P))(t:Ty)(pm:PM)(o:Opd)(q:Option (Nat×List TM)):Option (ArgR t):=
 match pm with
 | .bw=>match t with
  | .fn1 a r=>match zzm (.fn1 a r) o with
   |some x=>some x
   |none=>(fnVal1 FT a r q).map λg=>⟨g,none,o.roots⟩
  | .fn2 a b r=>match zzm (.fn2 a b r) o with
   |some x=>some x
   |none=>(fnVal2 FT a b r q).map λg=>⟨g,none,o.roots⟩
  | .ptr u=>argPtr u o
  |t=>zzm t o
 | .sh=>argSh t o
 | .give m=>argGive t m o
 | .io m=>match t with
  | .ptr u=>argIo u m o
  | .slice u=>argIoS u m o
  | .alt n a b=>argIoA (.alt n a b) m o
  |_=>none
def zqt{P:Program}(FT:List (TgE P)):Nat->(ps:List (Ty×PM))->List (Opd×Option (Nat×List TM))->Option (zek (zft ps)×List (Nat×Gv)×List Nat)
 |_,[],[]=>some ((),[],[])
 |i,(t,pm)::ps,(o,q)::os=>match argV FT t pm o q,zqt FT (i+1) ps os with
  |some z,some (xs,gs,lr)=>some ((z.x,xs),(match z.g with | some g=>(i,g)::gs | none=>gs),z.lr++lr)
  |_,_=>none
 |_,_,_=>none
def byR:List (Nat×Gv)->Nat->Option (Nat×Gv)
 | [],_=>none
 |(i,g)::gs,r=>if r=g.r then some (i,g)else byR gs r
def byI:List (Nat×Gv)->Nat->Option Gv
 | [],_=>none
 |(i,g)::gs,j=>if j=i then some g else byI gs j
def okG:List (Nat×Gv)->Bool
 | []=>true
 |(i,g)::gs=>(byR gs g.r).isNone&&(byI gs i).isNone&&okG gs
def cut:List Nat->List Nat->Option (List Nat)
 | [],q=>some q
 |x::π,y::q=>if x=y then cut π q else none
 |_::_,[]=>none
def cut_app(π ρ:List Nat):cut π (π++ρ)=some ρ:=by
 induction π with
 |nil=>rfl
 |cons x π ih=>simp[cut,ih]
def zzg{π q ρ:List Nat}(h:cut π q=some ρ):q=π++ρ:=by
 induction π generalizing q with
 |nil=>cases h;rfl
 |cons x π ih=>cases q with
  |nil=>cases h
  |cons y q=>
   simp only[cut]at h;split at h;·rename_i he;subst he;rw[ih h];rfl
   ·cases h
def toC(gs:List (Nat×Gv))(z:Place):Option Place:=
 match byR gs z.1 with
 |some (i,g)=>(cut g.π z.2).map λρ=>(i,ρ)
 |none=>none
def byR_some{gs:List (Nat×Gv)}{r:Nat}{e:Nat×Gv}(h:byR gs r=some e):e∈gs/\e.2.r=r:=by
 induction gs with
 |nil=>cases h
 |cons x gs ih=>
  obtain⟨i,g⟩:=x;simp only[byR]at h;split at h;·rename_i he;cases h;exact⟨by simp,he.symm⟩
  ·exact⟨xan _ (ih h).1,(ih h).2⟩
def byI_some{gs:List (Nat×Gv)}{i:Nat}{g:Gv}(h:byI gs i=some g):(i,g)∈gs:=by
 induction gs with
 |nil=>cases h
 |cons x gs ih=>
  obtain⟨j,g'⟩:=x;simp only[byI]at h;split at h;·rename_i he;cases h;subst he;simp
  ·exact xan _ (ih h)
def zjx{gs:List (Nat×Gv)}{r:Nat}(h:byR gs r=none):∀e∈gs,e.2.r≠r:=by
 induction gs with
 |nil=>simp
 |cons x gs ih=>
  obtain⟨i,g⟩:=x;simp only[byR]at h;split at h;·cases h
  ·rename_i ha;intro e he;rcases xar.1 he with rfl|he
   ·exact λh=>ha h.symm
   ·exact ih h e he
def byI_none{gs:List (Nat×Gv)}{i:Nat}(h:byI gs i=none):∀e∈gs,e.1≠i:=by
 induction gs with
 |nil=>simp
 |cons x gs ih=>
  obtain⟨j,g⟩:=x;simp only[byI]at h;split at h;·cases h
  ·rename_i ha;intro e he;rcases xar.1 he with rfl|he
   ·exact λh=>ha h.symm
   ·exact ih h e he
def zpv{gs:List (Nat×Gv)}(h:okG gs=true){i:Nat}{g:Gv}(hm:(i,g)∈gs):byR gs g.r=some (i,g):=by
 induction gs with
 |nil=>cases hm
 |cons x gs ih=>
  obtain⟨j,g'⟩:=x;simp only[okG,xal,xfk]at h;simp only[byR];rcases xar.1 hm with he|he
  ·cases he;rw[if_pos rfl]
  ·rw[if_neg (zjx h.1.1 _ he),ih h.2 he]
def byI_mem{gs:List (Nat×Gv)}(h:okG gs=true){i:Nat}{g:Gv}(hm:(i,g)∈gs):byI gs i=some g:=by
 induction gs with
 |nil=>cases hm
 |cons x gs ih=>
  obtain⟨j,g'⟩:=x;simp only[okG,xal,xfk]at h;simp only[byI];rcases xar.1 hm with he|he
  ·cases he;rw[if_pos rfl]
  ·rw[if_neg (byI_none h.1.2 _ he),ih h.2 he]
def toC_mem{gs:List (Nat×Gv)}(h:okG gs=true){i:Nat}{g:Gv}(hm:(i,g)∈gs)(ρ:List Nat):toC gs (pa (g.r,g.π) ρ)=some (i,ρ):=by unfold toC;simp only[pa,zpv h hm,cut_app,xch]
def zha{gs:List (Nat×Gv)}{z:Place}(h:byR gs z.1=none):toC gs z=none:=by unfold toC;rw[h]
def St.callee(S:St)(gs:List (Nat×Gv)):St where
 w:=S.w
 F:=S.F
 B b:=S.B b\/∃z,S.own b=some z/\toC gs z=none
 own b:=(S.own b).bind (toC gs)
 hv z:=match byI gs z.1 with
  |some g=>S.hv (pa (g.r,g.π) z.2)
  |none=>.slice none 0 0
section
variable {P:Program} {c:Ctx} {σ:Env} {a:Act} {S:St} {gs:List (Nat×Gv)}
def zxa{b:Nat}{z:Place}(h:(S.callee gs).own b=some z):∃y,S.own b=some y/\toC gs y=some z:=by simp only[St.callee,xbk]at h;exact h
def zjw{b:Nat}(h:S.own b=none):(S.callee gs).own b=none:=by simp[St.callee,h]
def InvOf.calleeWF(h:InvOf P c σ a S):(S.callee gs).WF where
 shared b hb:=⟨zjw (h.shared b hb).1,(h.shared b hb).2.1⟩
 borrowed b hb:=by
  rcases hb with hb|⟨z,hz,hn⟩
  ·exact⟨zjw (h.WF.borrowed b hb).1,(h.WF.borrowed b hb).2⟩
  ·exact⟨by simp[St.callee,hz,hn],(h.owned b z hz).1⟩
 owned b p hb:=by obtain⟨y,hy,_⟩:=zxa hb;exact(h.owned b y hy).1
def calleeFut2:Fut2 S (S.callee gs):=⟨λ_ h=>⟨h,rfl⟩,λ_ h=>⟨.inr (.inl h),rfl⟩⟩
def zlz(hg:okG gs=true){i:Nat}{g:Gv}(hm:(i,g)∈gs):Tr true S (S.callee gs) (g.r,g.π) (i,[]) where
 F _ h:=h
 sF _ _:=rfl
 B _ b hb:=.inr (.inl hb)
 sB _ _ _:=rfl
 hv r:=by simp[St.callee,pa,byI_mem hg hm]
 own b r hb:=⟨by simp only[St.callee,hb,xaa];rw[toC_mem hg hm];simp[pa],rfl⟩
def St.bare(S:St):St:={S with own:=λ_=>none}
def zjz:Fut2 S S.bare:=⟨λ_ h=>⟨h,rfl⟩,λ_ h=>⟨.inr h,rfl⟩⟩
def lendS{t:Ty}{m:Md}{p p':Place}{x:t.den}{cs:Cs}(h:Rel P t S m p x cs)(hl:zkh t m=true)(hr:m.noown=true\/byR gs p.1=none):Rel P t (S.callee gs) .bw p' x cs:=by
 rcases hr with hr|hr
 ·have h1:Rel P t S.bare m p x cs:=h.free hr zjz λ_ _=>rfl;exact h1.share (q:=true) (.inr rfl) (.inl rfl) hl ⟨λb hb=>⟨hb,rfl⟩,λ_ b hb=>⟨.inr ⟨rfl,.inl hb⟩,rfl⟩,λb r hb=>by cases hb⟩
 ·exact h.share (q:=true) (.inr rfl) (.inl rfl) hl ⟨λb hb=>⟨hb,rfl⟩,λ_ b hb=>⟨.inr ⟨rfl,.inl hb⟩,rfl⟩,λb r hb=>⟨.inr ⟨rfl,.inr ⟨_,hb,zha hr⟩⟩,rfl⟩⟩
def lendSR{t:Ty}{m:Md}{p p':Place}{x:t.den}{v:Value}(h:SR P t S m p x v)(hl:zkh t m=true)(hr:m.noown=true\/byR gs p.1=none):SR P t (S.callee gs) .bw p' x v:=⟨lendS h.1 hl hr,h.2⟩
def shareSR{t:Ty}{m:Md}{p p':Place}{x:t.den}{v:Value}(h:SR P t S m p x v)(hl:leM t m .sh=true):SR P t (S.callee gs) .sh p' x v:=⟨(h.1.weaken hl).fut (.inl rfl) (calleeFut2.sh _) λ_ _=>rfl,h.2⟩
def InvOf.valAt(h:InvOf P c σ a S){o:Operand}{t:Ty}{m:Md}{x:t.den}(hv:(zar σ o).val t=some (m,x)):∃p,SR P t S m p x (a.eval o)/\(m.noown=true\/p.1∈(zar σ o).roots):=by
 cases o with
 |const v=>simp only[zar,Opd.val,xac,xaw]at hv;obtain⟨y,h1,rfl,rfl⟩:=hv;exact⟨(0,[]),zdd h1,.inl rfl⟩
 |func f=>simp[zar,Opd.val]at hv
 |global g=>simp[zar,Opd.val]at hv
 |tmp s=>
  simp only[zar,Opd.val]at hv;split at hv
  ·rename_i t' m' x' he;simp only[xac,xaw]at hv;obtain⟨y,h1,rfl,rfl⟩:=hv;have:=TV.to_some h1;cases this;refine⟨_,h.slot he,?_⟩;simp only[zar,Opd.roots,he];cases hm:m'.noown with
   |true=>exact .inl rfl
   |false=>exact .inr (by simp)
  ·rename_i r π s' he;have hr:zdj σ (σ s).e=σ r:=by rw[he];rfl
   rw[hr]at hv;split at hv
   ·rename_i tr mr xr ha;split at hv
    ·rename_i hg;split at hv
     ·rename_i e k y hm hb;simp only[xac,xaw]at hv;obtain⟨z,h1,rfl,rfl⟩:=hv;have:=TV.to_some h1;subst this;obtain⟨_,h2⟩:=(h.ent s).view he;obtain⟨h3,_,h4⟩:=h2 tr mr xr ha hg.1;have h4:=h4 (zon hb (by have h9:=hg.2;show t.isAlt=false;cases t<;>first | rfl | cases h9));obtain⟨u,y,l,cs',h5,h6,h7,h8⟩:=Rel.at (h.slot ha).1 hm h3;rw[hb]at h5;cases h5;rw[zbt]at h7;refine⟨(r,π),?_,.inr (by simp[zar,Opd.roots,he])⟩;rw[zbf,h4];cases t<;>first | (have:=hg.2;cases this;done) | skip
      refine⟨h7.mono (q:=true) (.inl rfl) ⟨λ_ h=>h,λ_ _=>rfl,λ_ _ h=>.inr h,λ_ _ _=>rfl,λ_=>rfl,λ_ _ h=>⟨h,rfl⟩⟩ λi hi=>?_,λh=>by cases h⟩;have:i=0:=by simp only[Ty.size]at hi;omega
      subst this;rw[h7.2.2.1];rfl
     ·cases hv
    ·cases hv
   ·cases hv
  ·cases hv
def InvOf.place_root(h:InvOf P c σ a S){o:Operand}{p:Pl}(hp:(zar σ o).place=some p)(hn:p.m.noown=false):p.r∈(zar σ o).roots:=by
 cases o with
 |const v=>simp[zar,Opd.place]at hp
 |func f=>simp[zar,Opd.place]at hp
 |global g=>simp[zar,Opd.place]at hp
 |tmp t=>
  simp only[zar,Opd.place]at hp;split at hp;·rename_i u e m x he;cases hp;simp[zar,Opd.roots,he,Md.noown]
  ·rename_i r π s he;have hr:zdj σ (σ t).e=σ r:=by rw[he];rfl
   rw[hr]at hp;split at hp
   ·split at hp;·cases hp;simp[zar,Opd.roots,he]
    ·cases hp
   ·cases hp
  ·cases hp
def zrd:∀{π:List Nat} {t:Ty} {m k:Md} {q:List Nat} {o:Nat},zbo π t=some (some q,o)->zbr π t m=some k->m.noown=false
 | [],_,_,_,_,_,hl,_=>by simp[zbo]at hl
 |i::π,.pair a b,m,k,q,o,hl,h=>by
  match i with
  | 0=>
   simp only[zbo,xac]at hl
   obtain⟨⟨q',o'⟩,h1,h2⟩:=hl
   cases q' with
   |none=>simp at h2
   |some q'=>
    cases hn:m.noown with
    |false=>rfl
    |true=>exact absurd (Md.noown_l hn) (by rw[zrd (π:=π) (t:=a) h1 h];simp)
  | 1=>
   simp only[zbo,xac]at hl
   obtain⟨⟨q',o'⟩,h1,h2⟩:=hl
   cases q' with
   |none=>simp at h2
   |some q'=>
    cases hn:m.noown with
    |false=>rfl
    |true=>exact absurd (Md.noown_r hn) (by rw[zrd (π:=π) (t:=b) h1 h];simp)
  |i+2=>simp[zbr]at h
 |i::π,.arr n t,m,k,q,o,hl,h=>by
  have h':zbr π t m=some k:=by cases i<;>(try rename_i j;cases j)<;>exact h
  rw[zej]at hl;simp only[xac]at hl;obtain⟨⟨q',o'⟩,h1,h2⟩:=hl;cases q' with
  |none=>simp at h2
  |some q'=>exact zrd h1 h'
 |i::π,.slice t,m,k,q,o,hl,h=>by cases m<;>first | rfl | (cases i<;>(try rename_i j;cases j)<;>simp[zbr]at h)
 |i::π,.ptr t,m,k,q,o,hl,h=>by cases m<;>first | rfl | (cases i<;>(try rename_i j;cases j)<;>simp[zbr]at h)
 |_::_,.int _,_,_,_,_,_,h=>by simp[zbr]at h
 |_::_,.bool,_,_,_,_,_,h=>by simp[zbr]at h
 |_::_,.str,_,_,_,_,_,h=>by simp[zbr]at h
 |_::_,.unit,_,_,_,_,_,h=>by simp[zbr]at h
 |_::_,.fn1 _ _,_,_,_,_,_,h=>by simp[zbr]at h
 |_::_,.fn2 _ _ _,_,_,_,_,_,h=>by simp[zbr]at h
 |_::_,.alt _ _ _,_,_,_,_,_,h=>by simp[zbr]at h
 |_::_,.nilI,_,_,_,_,_,h=>by simp[zbr]at h
def NoG(gs:List (Nat×Gv))(l:List Nat):Prop:=∀r∈l,byR gs r=none
def zrp(h:InvOf P c σ a S){t:Ty}{o:Operand}{z:ArgR t}(hx:zzm t (zar σ o)=some z)(hn:NoG gs z.lr)(p:Place):z.g=none/\SR P t (S.callee gs) .bw p z.x (a.eval o):=by
 unfold zzm at hx;split at hx;case h_2=>cases hx
 rename_i m x hv;split at hx;case isFalse=>cases hx
 rename_i hl;cases hx;obtain⟨p0,h1,h2⟩:=h.valAt hv;exact⟨rfl,lendSR h1 hl (h2.imp id (hn _))⟩
def ptrBlk{u:Ty}{k:Md}{p:Place}{y:u.den}{b off:Nat}(hl:zkh u k=true)(hr:k.noown=true\/byR gs p.1=none)(h:Rel P u S k p y (blk S.w b off))(hb:u.size≠0->(S.callee gs).G .bw b)(p':Place) :
  SR P (.ptr u) (S.callee gs) .bw p' y (.pointer (some ⟨b,off,none⟩)):=
 ⟨⟨b,off,by simp[zab,Ty.agg],hb,lendS h hl hr⟩,λh=>by cases h⟩
def ptr_sound(h:InvOf P c σ a S){u:Ty}{o:Operand}{z:ArgR (.ptr u)}(hx:argPtr u (zar σ o)=some z)(hn:NoG gs z.lr)(p:Place):z.g=none/\SR P (.ptr u) (S.callee gs) .bw p z.x (a.eval o):=by
 unfold argPtr at hx;split at hx
 ·rename_i e he;simp only[xac]at hx;obtain⟨x,h1,rfl⟩:=hx;have:=TV.to_some h1;obtain⟨et,em,ex⟩:=e;cases this;obtain⟨h2,b,off,h3,h4,p0,h5⟩:=h.ro he;refine⟨rfl,?_⟩;rw[h3];simp only at h2 h4 h5;refine ptrBlk (k:=em) (zdm h2 _) (.inl (by rcases h2 with rfl|rfl<;>rfl)) h5 (λhs=>?_) p;rcases h4 hs with h6|h6
  ·exact .inl h6
  ·exact .inr ⟨rfl,.inl h6.2⟩
 ·split at hx;case h_2=>cases hx
  rename_i p0 hp;split at hx;case h_2=>cases hx
  rename_i k y hm hg;split at hx;case isFalse=>cases hx
  rename_i hl;simp only[xac]at hx;obtain⟨x,h1,rfl⟩:=hx;have:=TV.to_some h1;subst this;obtain⟨u',y',q,off,b,cur,e,h2,h3,h4,h5,h6,h7,h8⟩:=h.partAt hp hm;rw[hg]at h2;cases h2;have ha:byR gs p0.r=none:=hn _ (h.place_root hp (by
   cases hno:p0.m.noown with
   |false=>rfl
   |true=>exfalso;have hb:=zrd h3 hm;rw[hno]at hb;cases hb))
  refine⟨rfl,?_⟩;rw[h7];exact ptrBlk hl (.inr ha) h8 (λ_=>.inr ⟨rfl,.inr ⟨_,h5,zha ha⟩⟩) p
end
def zpd{S:St}:∀{π ρ:List Nat} {t:Ty} {p:Place},okP S (π++ρ) t p->okP S π t p
 | [],_,_,_,_=>trivial
 |i::π,ρ,.pair a b,p,h=>by
  match i with
  | 0=>exact zpd (π:=π) (ρ:=ρ) (t:=a) h
  | 1=>exact zpd (π:=π) (ρ:=ρ) (t:=b) h
  |i+2=>exact h.elim
 |i::π,ρ,.arr n t,p,h=>by rw[xcx,zex]at h;rw[zex];exact⟨h.1,zpd h.2⟩
 |i::π,ρ,.slice t,p,h=>by rw[xcx,zgd]at h;rw[zgd];exact⟨h.1,zpd h.2⟩
 |i::π,ρ,.ptr t,p,h=>by
  match i with
  | 0=>exact zpd (π:=π) (ρ:=ρ) (t:=t) h
  |i+1=>simp[okP]at h
 |_::_,_,.int _,_,h=>by simp[okP]at h
 |_::_,_,.bool,_,h=>by simp[okP]at h
 |_::_,_,.str,_,h=>by simp[okP]at h
 |_::_,_,.unit,_,h=>by simp[okP]at h
 |_::_,_,.fn1 _ _,_,h=>by simp[okP]at h
 |_::_,_,.fn2 _ _ _,_,h=>by simp[okP]at h
 |_::_,_,.alt _ _ _,_,h=>by simp[okP]at h
 |_::_,_,.nilI,_,h=>by simp[okP]at h
section
variable {P:Program} {c:Ctx} {σ:Env} {a:Act} {S:St} {gs:List (Nat×Gv)} {FT:List (TgE P)}
structure GvOK(S:St)(σ:Env)(a:Act)(g:Gv)(v:Value):Prop where
 root:(σ g.r).e=.v g.t g.m g.x
 ok:okP S g.π g.t (g.r,[])
 md:∃k,zbr g.π g.t g.m=some k/\(g.io=true->k=g.k)
 val:∃y,zcc g.π g.t g.x=some ⟨g.u,y⟩
 io:g.io=true->(v=S.hv (g.r,g.π)/\((∃w,g.u=.ptr w)\/∃w,g.u=.slice w)/\∃e k,g.k=.own e k)\/(g.π=[]/\g.u=g.t/\g.k=g.m/\g.t.isAlt=true/\v=tmv a g.r)
def give_sound(h:InvOf P c σ a S){t:Ty}{m:Md}{o:Operand}{z:ArgR t}(hx:argGive t m (zar σ o)=some z)(hk:okG gs=true){i:Nat}(hi:∀g,z.g=some g->(i,g)∈gs)(hj:∀g,(i,g)∈gs->z.g=some g) :
  SR P t (S.callee gs) m (i,[]) z.x (a.eval o)/\∀g,z.g=some g->GvOK S σ a g (a.eval o):=by
 unfold argGive at hx;cases o with
 |const v=>
  simp only[zar]at hx;split at hx
  ·rename_i hn;cases hn;unfold argNil at hx;split at hx;case h_2=>cases hx
   rename_i u e k;split at hx;case isFalse=>cases hx
   rename_i hf;cases hx;have hb:byI gs i=none:=by
    cases hb:byI gs i with
    |none=>rfl
    |some g=>exact absurd (hj g (byI_some hb)) (by simp)
   have hh:(S.callee gs).hv (i,[])=.slice none 0 0:=by unfold St.callee;simp only[hb]
   refine⟨⟨⟨xbx _,hf,?_,.inl ⟨hh,rfl⟩⟩,λh=>by cases h⟩,λg hg=>by cases hg⟩;rw[hh];simp[zab,Ty.agg,Act.eval]
  all_goals first | (cases hx;done) | (simp at *;done)
 |func f=>simp[zar]at hx
 |global g=>simp[zar]at hx
 |tmp s=>
  simp only[zar]at hx;split at hx
  ·rename_i t' k x he;split at hx;case isFalse=>cases hx
   rename_i hl;simp only[xac]at hx;obtain⟨y,h1,rfl⟩:=hx;have:=TV.to_some h1;cases this;have hm:=hi _ rfl;have hs:=h.slot he;refine⟨⟨(hs.1.weaken hl).mono (q:=true) (.inl rfl) (zlz hk hm) λ_ _=>rfl,hs.2⟩,λg hg=>?_⟩;cases hg;exact⟨he,trivial,⟨k,rfl,λh=>by cases h⟩,⟨y,rfl⟩,λh=>by cases h⟩
  ·rename_i r π s' he;have hr:zdj σ (σ s).e=σ r:=by rw[he];rfl
   rw[hr]at hx;split at hx;case h_2=>cases hx
   rename_i tr mr xr ha;split at hx;case isFalse=>cases hx
   rename_i hg;split at hx;case h_2=>cases hx
   rename_i e k y hm hc;split at hx;case isFalse=>cases hx
   rename_i hl;simp only[xac]at hx;obtain⟨z0,h1,rfl⟩:=hx;have:=TV.to_some h1;subst this;have hd:=hi _ rfl;obtain⟨_,h2⟩:=(h.ent s).view he;obtain⟨h3,_,h4⟩:=h2 tr mr xr ha hg.1;have h4:=h4 (zon hc (by have h9:=hg.2;show t.isAlt=false;cases t<;>first | rfl | cases h9));obtain⟨u,y,l,cs',h5,h6,h7,h8⟩:=Rel.at (h.slot ha).1 hm h3;rw[hc]at h5;cases h5;rw[zbt]at h7;refine⟨?_,λg hg=>?_⟩
   ·rw[zbf,h4];cases t<;>first | (have:=hg.2;cases this;done) | skip
    refine⟨(h7.weaken hl).mono (q:=true) (.inl rfl) (zlz hk hd) λi hi=>?_,λh=>by cases h⟩;have:i=0:=by simp only[Ty.size]at hi;omega
    subst this;rw[h7.2.2.1];rfl
   ·cases hg;exact⟨ha,h3,⟨_,hm,λh=>by cases h⟩,⟨_,hc⟩,λh=>by cases h⟩
  ·cases hx
def io_sound(h:InvOf P c σ a S){u:Ty}{m:Md}{o:Operand}{z:ArgR (.ptr u)}(hx:argIo u m (zar σ o)=some z)(hk:okG gs=true){i:Nat}(hi:∀g,z.g=some g->(i,g)∈gs) :
  SR P (.ptr u) (S.callee gs) m (i,[]) z.x (a.eval o)/\∀g,z.g=some g->GvOK S σ a g (a.eval o):=by
 unfold argIo at hx;split at hx;case h_2=>cases hx
 rename_i p hp;split at hx;case h_2=>cases hx
 rename_i ρ hπ;have hj:p.π=ρ.reverse++[0]:=by rw[<-List.reverse_reverse p.π,hπ];simp
 split at hx;case h_2=>cases hx
 rename_i e k y hm hg;split at hx;case isFalse=>cases hx
 rename_i hc;obtain⟨hl,hq⟩:=hc;subst hl;simp only[xac]at hx;obtain⟨x,h1,rfl⟩:=hx;have:=TV.to_some h1;subst this;have he:=hi _ rfl;obtain⟨hr,_,_,ho,q,off,b,h2,h3,h4⟩:=h.place hp;have hd:okP S ρ.reverse p.t (p.r,[]):=zpd (ρ:=[0]) (by rw[<-hj];exact ho);obtain⟨u',y',l,cs',h5,h6,h7,h8⟩:=Rel.at (h.slot hr).1 hm hd;rw[hg]at h5;cases h5;rw[zbt]at h7;have hn:=h7;obtain⟨h9,g,cur,e',hf,hs,hu,ht⟩:=hn;have ha:=zez hg h6 (show zbo [0] (.ptr u)=some (some [],0)from by simp[zbo]);rw[<-hj,h2]at ha;have hh:q=ρ.reverse/\off=0:=by obtain⟨l1,l2⟩:=l;cases l1<;>(simp[addL]at ha;exact⟨ha.1,ha.2⟩)
 rw[hh.1,hf]at h3;have hb:g=b:=by simpa[hvB]using h3
 have hv:a.eval o=S.hv (p.r,ρ.reverse):=by rw[h4,hf,hh.2,hb]
 refine⟨?_,λg' hg'=>?_⟩
 ·refine⟨h7.mono (q:=true) (.inl rfl) (zlz hk he) λi hi=>?_,λh=>by cases h⟩;have:i=0:=by simp only[Ty.size]at hi;omega
  subst this;rw[h9,hv];rfl
 ·cases hg';exact⟨hr,hd,⟨_,hm,λ_=>rfl⟩,⟨_,hg⟩,λ_=>.inl ⟨hv,.inl ⟨u,rfl⟩,e,k,rfl⟩⟩
def ioS_sound(h:InvOf P c σ a S){u:Ty}{m:Md}{o:Operand}{z:ArgR (.slice u)}(hx:argIoS u m (zar σ o)=some z)(hk:okG gs=true){i:Nat}(hi:∀g,z.g=some g->(i,g)∈gs) :
  SR P (.slice u) (S.callee gs) m (i,[]) z.x (a.eval o)/\∀g,z.g=some g->GvOK S σ a g (a.eval o):=by
 unfold argIoS at hx;split at hx;case h_2=>cases hx
 rename_i p hp;split at hx;case h_2=>cases hx
 rename_i e k y hm hg;split at hx;case isFalse=>cases hx
 rename_i hc;obtain⟨hd,he⟩:=hc;subst hd;simp only[xac]at hx;obtain⟨x,h1,rfl⟩:=hx;have:=TV.to_some h1;subst this;have ha:=hi _ rfl;obtain⟨hr,_,hb,hv⟩:=h.splace hp;obtain⟨u',y',l,cs',h5,h6,h7,h8⟩:=Rel.at (h.slot hr).1 hm hb;rw[hg]at h5;cases h5;rw[zbt]at h7;refine⟨?_,λg' hg'=>?_⟩
 ·refine⟨h7.mono (q:=true) (.inl rfl) (zlz hk ha) λi hi=>?_,λh=>by cases h⟩;have:i=0:=by simp only[Ty.size]at hi;omega
  subst this;rw[h7.2.2.1,hv];rfl
 ·cases hg';exact⟨hr,hb,⟨_,hm,λ_=>rfl⟩,⟨_,hg⟩,λ_=>.inl ⟨hv,.inr ⟨u,rfl⟩,e,k,rfl⟩⟩
def ioA_sound(h:InvOf P c σ a S){n:TypeId}{u b:Ty}{m:Md}{o:Operand}{z:ArgR (.alt n u b)}(hx:argIoA (.alt n u b) m (zar σ o)=some z)(hk:okG gs=true){i:Nat}(hi:∀g,z.g=some g->(i,g)∈gs) :
  SR P (.alt n u b) (S.callee gs) m (i,[]) z.x (a.eval o)/\∀g,z.g=some g->GvOK S σ a g (a.eval o):=by
 unfold argIoA at hx;cases o with
 |const v=>simp only[zar]at hx;cases hx
 |func f=>simp only[zar]at hx;cases hx
 |global g=>simp only[zar]at hx;cases hx
 |tmp s=>
  simp only[zar]at hx;split at hx;case h_3=>cases hx
  case h_2=>
   rename_i r s' he;have hr:zdj σ (σ s).e=σ r:=by rw[he];rfl
   rw[hr]at hx;split at hx;case h_2=>cases hx
   rename_i t' k x ha;split at hx;case isFalse=>cases hx
   rename_i hc;obtain⟨hb,rfl,rfl⟩:=hc;simp only[xac]at hx;obtain⟨y,h1,rfl⟩:=hx;have:=TV.to_some h1;cases this;have hm:=hi _ rfl;have hs:=h.slot ha;obtain⟨_,h2⟩:=(h.ent s).view he;have hd:a.eval (.tmp s)=tmv a r:=by rw[zbf];exact(h2 _ _ _ ha hb).2.1 rfl
   rw[hd];refine⟨⟨hs.1.mono (q:=true) (.inl rfl) (zlz hk hm) λ_ _=>rfl,hs.2⟩,λg hg=>?_⟩;cases hg;exact⟨ha,trivial,⟨_,rfl,λ_=>rfl⟩,⟨_,rfl⟩,λ_=>.inr ⟨rfl,rfl,rfl,rfl,rfl⟩⟩
  rename_i t' k x he;split at hx;case isFalse=>cases hx
  rename_i hc;obtain⟨rfl,rfl⟩:=hc;simp only[xac]at hx;obtain⟨y,h1,rfl⟩:=hx;have:=TV.to_some h1;cases this;have hm:=hi _ rfl;have hs:=h.slot he;refine⟨⟨hs.1.mono (q:=true) (.inl rfl) (zlz hk hm) λ_ _=>rfl,hs.2⟩,λg hg=>?_⟩;cases hg;exact⟨he,trivial,⟨_,rfl,λ_=>rfl⟩,⟨_,rfl⟩,λ_=>.inr ⟨rfl,rfl,rfl,rfl,rfl⟩⟩
def Rel.flat{S S':St}:∀{t:Ty} {p p':Place} {x:t.den} {cs:Cs},t.flat=true->Rel P t S .sh p x cs->Rel P t S' .sh p' x cs:=by
 intro t;induction t with
 |int k=>intro p p' x cs hf h;exact h
 |bool=>intro p p' x cs hf h;exact h
 |str=>intro p p' x cs hf h;exact h
 |unit=>intro p p' x cs hf h;trivial
 |nilI=>intro p p' x cs hf h;exact h
 |pair a b iha ihb=>intro p p' x cs hf h;simp only[Ty.flat,xal]at hf;exact⟨iha hf.1 h.1,ihb hf.2 h.2⟩
 |arr n t ih=>intro p p' x cs hf h;exact⟨h.1,λi hi=>ih hf (h.2 i hi)⟩
 |alt tid a b iha ihb=>
  intro p p' x cs hf h;simp only[Ty.flat,xal]at hf;cases x with
  |inl y=>obtain⟨v,h1,h2,h3⟩:=h;exact⟨v,h1,iha hf.1 h2,h3⟩
  |inr z=>exact⟨h.1,ihb hf.2 h.2⟩
 |slice t ih=>intro p p' x cs hf h;cases hf
 |ptr t ih=>intro p p' x cs hf h;cases hf
 |fn1=>intro p p' x cs hf h;cases hf
 |fn2=>intro p p' x cs hf h;cases hf
def refBw(h:InvOf P c σ a S){r:Nat}{π:List Nat}{s:Nat}{v:Value}(hv:RefOK S σ r π s v){tr:Ty}{mr k:Md}{xr:tr.den}{y:TV}(hr:(σ r).e=.v tr mr xr)(hg:zri (σ r) tr π s=true)(hm:zbr π tr mr=some k)
  (hp:zcc π tr xr=some y) (hl:zkh y.t k=true) (hn:byR gs r=none) (p:Place):SR P (.ptr y.t) (S.callee gs) .bw p y.x v:=by
 obtain⟨q,o,b,h1,h2,h3,h4⟩:=hv.2 tr mr xr hr (zrh.1 hg);obtain⟨u,y',l,cs',h6,h7,h8,h9⟩:=Rel.at (h.slot hr).1 hm h2;rw[h1]at h7;cases h7;obtain⟨b',ha,hb,hc,cur,e,hd⟩:=h9;rw[zbt]at h8 ha hb;rw[h3]at ha;cases ha;rw[hp]at h6;cases h6;rw[h4];subst hc;exact ptrBlk hl (.inr hn) h8 (λ_=>.inr ⟨rfl,.inr ⟨_,hb,zha hn⟩⟩) p
def caps_sound(h:InvOf P c σ a S):∀{cs:List Cap} {es:List TM} {us:List Value},zol σ cs=some es->us.length=cs.length->(∀(k:Nat) (x:Cap),cs[k]?=some x->∃u,us[k]?=some u/\CapOK P S σ u x)->NoG gs (zda cs) ->
  us.length=es.length/\∀(k:Nat) (e:TM),es[k]?=some e->∃u,us[k]?=some u/\SR P (.ptr e.t) (S.callee gs) .bw (0,[]) e.x u:=by
 intro cs;induction cs with
 |nil=>intro es us hc hl _ _;cases hc;exact⟨hl,λk e hk=>by simp at hk⟩
 |cons x cs ih=>
  intro es us hc hl hu hn;unfold zol at hc;split at hc;case h_2=>cases hc
  rename_i e es' h1 h2;cases hc;cases us with
  |nil=>cases hl
  |cons u us=>
   have ha:NoG gs (zda cs):=λr hr=>hn r (by cases x<;>simp[zda,hr]);obtain⟨h3,h4⟩:=ih h2 (by simpa using hl) (λk x hk=>hu (k+1) x hk) ha;refine⟨by simp[h3],λk e' hk=>?_⟩;cases k with
   |succ k=>exact h4 k e' hk
   |zero=>
    cases hk;obtain⟨u',h5,h6⟩:=hu 0 x rfl;cases h5;refine⟨u,rfl,?_⟩;cases x with
    |ref r π s=>
     simp only[capTM]at h1;split at h1;case h_2=>cases h1
     rename_i tr mr xr he;split at h1;case isFalse=>cases h1
     rename_i hg;split at h1;case h_2=>cases h1
     rename_i k y hm hp;split at h1;case isFalse=>cases h1
     rename_i hl;cases h1;exact refBw h h6 he hg hm hp hl (hn r (by simp[zda])) _
    |rb r π s=>
     simp only[capTM]at h1;split at h1;case h_2=>cases h1
     rename_i tr mr xr he;split at h1;case isFalse=>cases h1
     rename_i hg;split at h1;case h_2=>cases h1
     rename_i k y hm hp;split at h1;case isFalse=>cases h1
     rename_i hl;cases h1;obtain⟨b,v,g1,g2,g3,g4⟩:=h6;have hb:=refBw h (gs:=gs) g4 he hg hm hp hl (hn r (by simp[zda])) (px (0,[]) 0);refine⟨⟨b,0,by rw[g1];simp[zab,Ty.agg],λ_=>.inl g2,?_⟩,λh=>by cases h⟩;refine hb.1.cong λj hj=>?_;have hd:j=0:=by have:j<1:=hj;omega
     subst hd;exact g3
    |val e0=>
     simp only[capTM]at h1;split at h1;·rename_i ut um ux;cases h1;exact lendSR (gs:=gs) h6 (zdm (.inr rfl) _) (.inl rfl)
     ·cases h1
def clo_sound(h:InvOf P c σ a S){o:Operand}{f:Nat}{es:List TM}(hx:zix σ o=some (f,es))(hn:NoG gs (zar σ o).roots) :
  ∃us:List Value,a.eval o=.func (.func f) #[] us.toArray/\us.length=es.length/\∀(k:Nat) (e:TM),es[k]?=some e->∃u,us[k]?=some u/\SR P (.ptr e.t) (S.callee gs) .bw (0,[]) e.x u:=by
 cases o with
 |const v=>cases hx
 |global g=>cases hx
 |func f=>cases hx;exact⟨[],rfl,rfl,λk e hk=>by simp at hk⟩
 |tmp t=>
  simp only[zix]at hx;split at hx;case h_2=>cases hx
  rename_i f' caps he;simp only[xac,xaw]at hx;obtain⟨es',h1,rfl,rfl⟩:=hx;have hs:=h.slots t;unfold SlotOK at hs;rw[he]at hs;obtain⟨us,h2,h3,h4⟩:=hs;obtain⟨h5,h6⟩:=caps_sound h (gs:=gs) h1 h3 h4 (by simpa[zar,Opd.roots,he]using hn);exact⟨us,by rw[zbf,h2],h5,h6⟩
def zlg:∀{ps:List (Ty×PM)} {es:List TM} {cs:zek (zft ps)},zcx ps es=some cs->zkg ps cs=es.map λe=>⟨.ptr e.t,.bw,e.x⟩
 | [],[],_,_=>rfl
 |(.ptr u,.bw)::ps,e::es,cs,h=>by
  simp only[zcx]at h;split at h;case h_2=>cases h
  rename_i x xs h1 h2;cases h;have:=TV.to_some h1;obtain⟨et,em,ex⟩:=e;cases this;simp only[zkg,xdo,zlg h2];rfl
 | [],_::_,_,h=>by simp[zcx]at h
 |x::ps,[],cs,h=>by obtain⟨t,m⟩:=x;cases t<;>cases m<;>simp[zcx]at h
 |(.ptr u,.sh)::ps,e::es,cs,h=>by simp[zcx]at h
 |(.ptr u,.give _)::ps,e::es,cs,h=>by simp[zcx]at h
 |(.ptr u,.io _)::ps,e::es,cs,h=>by simp[zcx]at h
 |(.int _,_)::ps,e::es,cs,h=>by simp[zcx]at h
 |(.bool,_)::ps,e::es,cs,h=>by simp[zcx]at h
 |(.str,_)::ps,e::es,cs,h=>by simp[zcx]at h
 |(.unit,_)::ps,e::es,cs,h=>by simp[zcx]at h
 |(.pair _ _,_)::ps,e::es,cs,h=>by simp[zcx]at h
 |(.arr _ _,_)::ps,e::es,cs,h=>by simp[zcx]at h
 |(.slice _,_)::ps,e::es,cs,h=>by simp[zcx]at h
 |(.fn1 _ _,_)::ps,e::es,cs,h=>by simp[zcx]at h
 |(.fn2 _ _ _,_)::ps,e::es,cs,h=>by simp[zcx]at h
 |(.alt _ _ _,_)::ps,e::es,cs,h=>by simp[zcx]at h
 |(.nilI,_)::ps,e::es,cs,h=>by simp[zcx]at h
def zwy{r:Ty}{o:List (Ty×Md)}(ho:o=[]){y:Option (Ret ([r]++tys o))}{z:r.den}(h:castR rfl ho y=some z):∃y',y=some y'/\(zsa [r] (tys o) (Ret.vals _ y')).1.1=z:=by subst ho;have h':y=some z:=h;exact⟨z,h',rfl⟩
def St.WF.bare{S:St}(h:S.WF):S.bare.WF:=⟨λb hb=>⟨rfl,(h.shared b hb).2⟩,λb hb=>⟨rfl,(h.borrowed b hb).2⟩,λb p hb=>by cases hb⟩
def Frm.ext{S S':St}(h:Frm S.bare S'):Ext S.w S'.w:=⟨h.os,h.tape,h.output,h.size,λk hk=>h.kept k hk rfl⟩
def zwz{S':St}{es:List TM}{us:List Value}(hu:∀(k:Nat) (e:TM),es[k]?=some e->∃u,us[k]?=some u/\SR P (.ptr e.t) S .bw (0,[]) e.x u)(hf:Fut .bw S S'){k:Nat}{e:TM}(hk:(es.map λe=>(⟨.ptr e.t,.bw,e.x⟩:TM))[k]?=some e)(p:Place) :
  ∃u,us[k]?=some u/\SR P e.t S'.bare e.m p e.x u:=by
 simp only[xci,xac]at hk;obtain⟨e0,h1,rfl⟩:=hk;obtain⟨u,h2,h3⟩:=hu k e0 h1;have h4:Rel P (.ptr e0.t) S' .bw p e0.x (zab (.ptr e0.t) u):=h3.1.fut (.inr rfl) hf λ_ _=>rfl;exact⟨u,h2,Rel.free h4 rfl zjz λ_ _=>rfl,h3.2⟩
def fn1_sound(h:InvOf P c σ a S){A R:Ty}{o:Operand}{g:A.den->Option R.den}(hx:fnVal1 FT A R (zix σ o)=some g)(hn:NoG gs (zar σ o).roots)(p:Place):SR P (.fn1 A R) (S.callee gs) .bw p g (a.eval o):=by
 unfold fnVal1 at hx;split at hx;case h_2=>cases hx
 rename_i f es hq;split at hx;case h_2=>cases hx
 rename_i f' a' ps r' den ok he;have hf:=findF_f he;split at hx;case isFalse=>cases hx
 rename_i hc;split at hx;case h_2=>cases hx
 rename_i cs hj;cases hx;obtain⟨rfl,rfl,ho,hl⟩:=hc;simp only at hf;subst hf;obtain⟨us,h1,h2,h3⟩:=clo_sound h (gs:=gs) hq hn;refine⟨⟨f',us.toArray,by simp[zab,Ty.agg,h1],ok.1,λS' x y hfut hwf hg v hv hagg=>?_⟩,λh=>by cases h⟩;obtain⟨y',h4,h5⟩:=zwy ho hg;have hp:=zlg hj;have ha:=ok.2 (x,cs) y' h4 S'.bare hwf.bare (v::us) (by simp only[zkg,xbd,hp,xao,h2]) (λi e hi=>by
  cases i with
  |zero=>simp only[zkg,xet,xaq]at hi;subst hi;exact⟨v,rfl,⟨hv.free rfl zjz λ_ _=>rfl,hagg⟩⟩
  |succ i=>simp only[zkg,xfc,hp]at hi;exact zwz h3 hfut hi _)
 have hd:#[v]++us.toArray=(v::us).toArray:=by simp
 rw[hd];refine Calls.mono ha λe w' hR=>?_;obtain⟨u,S4,rfl,rfl,hk,hb,_⟩:=hR;refine⟨u,rfl,?_,?_,Frm.ext hk⟩;·have hr:SR P _ S4 .sh (0,[0]) _ u:=hb;have hh:=hr.1;simp only at hh;rw[h5]at hh;exact Rel.flat hl hh
 ·exact(show SR P _ S4 .sh (0,[0]) _ u from hb).2
def fn2_sound(h:InvOf P c σ a S){A B R:Ty}{o:Operand}{g:A.den->B.den->Option R.den}(hx:fnVal2 FT A B R (zix σ o)=some g)(hn:NoG gs (zar σ o).roots)(p:Place):SR P (.fn2 A B R) (S.callee gs) .bw p g (a.eval o):=by
 unfold fnVal2 at hx;split at hx;case h_2=>cases hx
 rename_i f es hq;split at hx;case h_2=>cases hx
 rename_i f' a' b' ps r' den ok he;have hf:=findF_f he;split at hx;case isFalse=>cases hx
 rename_i hc;split at hx;case h_2=>cases hx
 rename_i cs hj;cases hx;obtain⟨rfl,rfl,rfl,ho,hl⟩:=hc;simp only at hf;subst hf;obtain⟨us,h1,h2,h3⟩:=clo_sound h (gs:=gs) hq hn;refine⟨⟨f',us.toArray,by simp[zab,Ty.agg,h1],ok.1,λS' x x2 y hfut hwf hg v v2 hv hagg hv2 hagg2=>?_⟩,λh=>by cases h⟩;obtain⟨y',h4,h5⟩:=zwy ho hg;have hp:=zlg hj;have ha:=ok.2 (x,x2,cs) y' h4 S'.bare hwf.bare (v::v2::us) (by simp only[zkg,xbd,hp,xao,h2]) (λi e hi=>by
  cases i with
  |zero=>simp only[zkg,xet,xaq]at hi;subst hi;exact⟨v,rfl,⟨hv.free rfl zjz λ_ _=>rfl,hagg⟩⟩
  |succ i=>
   cases i with
   |zero=>simp only[zkg,xfc,xet,xaq]at hi;subst hi;exact⟨v2,rfl,⟨hv2.free rfl zjz λ_ _=>rfl,hagg2⟩⟩
   |succ i=>simp only[zkg,xfc,hp]at hi;exact zwz h3 hfut hi _)
 have hd:#[v,v2]++us.toArray=(v::v2::us).toArray:=by simp
 rw[hd];refine Calls.mono ha λe w' hR=>?_;obtain⟨u,S4,rfl,rfl,hk,hb,_⟩:=hR;refine⟨u,rfl,?_,?_,Frm.ext hk⟩;·have hr:SR P _ S4 .sh (0,[0]) _ u:=hb;have hh:=hr.1;simp only at hh;rw[h5]at hh;exact Rel.flat hl hh
 ·exact(show SR P _ S4 .sh (0,[0]) _ u from hb).2
def argV_sound(h:InvOf P c σ a S){t:Ty}{pm:PM}{o:Operand}{z:ArgR t}(hx:argV FT t pm (zar σ o) (zix σ o)=some z)(hn:NoG gs z.lr)(hk:okG gs=true){i:Nat}(hi:∀g,z.g=some g->(i,g)∈gs)(hj:∀g,(i,g)∈gs->z.g=some g) :
  SR P t (S.callee gs) pm.md (i,[]) z.x (a.eval o)/\∀g,z.g=some g->GvOK S σ a g (a.eval o):=by
 have ha:∀{z:ArgR t},zzm t (zar σ o)=some z->NoG gs z.lr->SR P t (S.callee gs) .bw (i,[]) z.x (a.eval o)/\∀g,z.g=some g->GvOK S σ a g (a.eval o):=λhx hn=>by obtain⟨h1,h2⟩:=zrp h hx hn (i,[]);exact⟨h2,λg hg=>by rw[h1]at hg;cases hg⟩
 cases pm with
 |bw=>
  cases t with
  |fn1 A R=>
   simp only[argV]at hx;split at hx;·rename_i x hb;cases hx;exact ha hb hn
   ·simp only[xac]at hx;obtain⟨g,h1,rfl⟩:=hx;exact⟨fn1_sound h h1 hn _,λg hg=>by cases hg⟩
  |fn2 A B R=>
   simp only[argV]at hx;split at hx;·rename_i x hb;cases hx;exact ha hb hn
   ·simp only[xac]at hx;obtain⟨g,h1,rfl⟩:=hx;exact⟨fn2_sound h h1 hn _,λg hg=>by cases hg⟩
  |ptr u=>
   obtain⟨h1,h2⟩:=ptr_sound h hx hn (i,[]);exact⟨h2,λg hg=>by rw[h1]at hg;cases hg⟩
  |_=>exact ha hx hn
 |sh=>
  simp only[argV,argSh]at hx;split at hx;case h_2=>cases hx
  rename_i m x hv;split at hx;case isFalse=>cases hx
  rename_i hl;cases hx;obtain⟨p,h1⟩:=h.val hv;exact⟨shareSR h1 hl,λg hg=>by cases hg⟩
 |give m=>exact give_sound h hx hk hi hj
 |io m=>
  cases t with
  |ptr u=>exact io_sound h hx hk hi
  |slice u=>exact ioS_sound h hx hk hi
  |alt n u b=>exact ioA_sound h hx hk hi
  |_=>cases hx
def argsV_ge:∀{ps:List (Ty×PM)} {os:List (Opd×Option (Nat×List TM))} {i:Nat} {xs:zek (zft ps)} {gs0:List (Nat×Gv)} {lr:List Nat},zqt FT i ps os=some (xs,gs0,lr)->∀e∈gs0,i<=e.1
 | [],[],i,xs,gs0,lr,hx=>by simp only[zqt,xaq,xaw]at hx;obtain⟨_,rfl,_⟩:=hx;exact λe he=>by cases he
 | [],o::os,i,xs,gs0,lr,hx=>by simp[zqt]at hx
 |(t,pm)::ps,[],i,xs,gs0,lr,hx=>by simp[zqt]at hx
 |(t,pm)::ps,(o,q)::os,i,xs,gs0,lr,hx=>by
  simp only[zqt]at hx;split at hx;case h_2=>cases hx
  rename_i z xs' gs' lr' h1 h2;simp only[xaq,xaw]at hx;obtain⟨rfl,ha,rfl⟩:=hx;have ih:=argsV_ge h2;intro e he;rw[<-ha]at he;split at he
  ·rcases xar.1 he with rfl|he
   ·exact xag _
   ·have:=ih e he;omega
  ·have:=ih e he;omega
def zul(h:InvOf P c σ a S)(hk:okG gs=true):∀{ps:List (Ty×PM)} {os:List Operand} {i:Nat} {xs:zek (zft ps)} {gs0:List (Nat×Gv)} {lr:List Nat},zqt FT i ps (os.map λo=>(zar σ o,zix σ o))=some (xs,gs0,lr)->NoG gs lr->(∀e∈gs0,e∈gs)->(∀k g,(k,g)∈gs->i<=k->(k,g)∈gs0) ->
  os.length=(zkg ps xs).length/\(∀(j:Nat) (e:TM),(zkg ps xs)[j]?=some e->∃o,os[j]?=some o/\SR P e.t (S.callee gs) e.m (i+j,[]) e.x (a.eval o)) /\
   ∀(k:Nat) (g:Gv),(k,g)∈gs0->∃j o,k=i+j/\os[j]?=some o/\GvOK S σ a g (a.eval o)
 | [],[],i,xs,gs0,lr,hx,_,_,_=>by simp only[zqt,xfa,xaq,xaw]at hx;obtain⟨_,rfl,_⟩:=hx;exact⟨rfl,λj e hj=>by simp[zkg]at hj,λk g hg=>by cases hg⟩
 | [],o::os,i,xs,gs0,lr,hx,_,_,_=>by simp[zqt]at hx
 |(t,pm)::ps,[],i,xs,gs0,lr,hx,_,_,_=>by simp[zqt]at hx
 |(t,pm)::ps,o::os,i,xs,gs0,lr,hx,hn,hs,hs2=>by
  simp only[zqt,xdo]at hx;split at hx;case h_2=>cases hx
  rename_i z xs' gs' lr' h1 h2;simp only[xaq,xaw]at hx;obtain⟨rfl,hb,rfl⟩:=hx;have hc:∀e∈gs',e∈gs0:=λe he=>by
   rw[<-hb];split;·exact xan _ he
   ·exact he
  have ha:∀k g,(k,g)∈gs0->(z.g=some g/\k=i)\/(k,g)∈gs':=λk g hg=>by
   rw[<-hb]at hg;split at hg
   ·rename_i g0 hd;rcases xar.1 hg with he|he
    ·cases he;exact .inl ⟨hd,rfl⟩
    ·exact .inr he
   ·exact .inr hg
  obtain⟨h3,h4,h5⟩:=zul h hk h2 (λr hr=>hn r (xic _ hr)) (λe he=>hs e (hc e he)) λk g hg hk'=>by
   rcases ha k g (hs2 k g hg (by omega))with⟨_,rfl⟩|he
   ·omega
   ·exact he
  obtain⟨h6,h7⟩:=argV_sound h h1 (λr hr=>hn r (xdq _ hr)) hk (i:=i) (λg hg=>hs _ (by rw[<-hb,hg];simp)) λg hg=>by
   rcases ha i g (hs2 i g hg (xag _))with⟨he,_⟩|he
   ·exact he
   ·have:=argsV_ge h2 _ he;simp only at this;omega
  refine⟨by simp[zkg,h3],λj e hj=>?_,λk g hg=>?_⟩
  ·cases j with
   |zero=>simp only[zkg,xet,xaq]at hj;subst hj;exact⟨o,rfl,h6⟩
   |succ j=>simp only[zkg,xfc]at hj;obtain⟨o',h8,h9⟩:=h4 j e hj;exact⟨o',h8,by rw[show i+(j+1)=i+1+j by omega];exact h9⟩
  ·rw[<-hb]at hg;have:(z.g=some g/\k=i)\/(k,g)∈gs':=by
    split at hg
    ·rename_i g0 hd;rcases xar.1 hg with he|he
     ·cases he;exact .inl ⟨hd,rfl⟩
     ·exact .inr he
    ·exact .inr hg
   rcases this with⟨he,rfl⟩|he
   ·exact⟨0,o,rfl,rfl,h7 g he⟩
   ·obtain⟨j,o',h8,h9,hf⟩:=h5 k g he;exact⟨j+1,o',by omega,h9,hf⟩
end
def outAt:List (Nat×TM)->Nat->Option TM
 | [],_=>none
 |(k,e)::r,i=>if i=k then some e else outAt r i
def outAt_mem{l:List (Nat×TM)}{i:Nat}{e:TM}(h:outAt l i=some e):(i,e)∈l:=by
 induction l with
 |nil=>cases h
 |cons x l ih=>
  obtain⟨k,e'⟩:=x;simp only[outAt]at h;split at h;·rename_i he;cases h;subst he;simp
  ·exact xan _ (ih h)
def giveE(g:Gv)(out:Option TM):Option (Ent×Nat):=
 if g.io then match out with
  |some e=>if g.u.isAlt=true then(if g.π=[]/\e.t=g.t/\e.m=g.m then some (.v e.t e.m e.x,0)else none)else if e.t=g.u/\e.m=g.k then match zkf g.π g.t g.x ⟨e.t,e.x⟩,zfl g.π g.t g.m e.m with
   |some x,some m=>some (.v g.t m x,1)
   |_,_=>none else none
  |none=>none else match g.π with
  | []=>some (.dead,0)
  | π=>(zfl π g.t g.m .dead).map λm=>(.v g.t m g.x,1)
def giveU:List (Nat×Gv)->List (Nat×TM)->Option Ups
 | [],_=>some []
 |(k,g)::gs,outs=>match giveE g (outAt outs k),giveU gs outs with
  |some (e,n),some us=>some ((g.r,e,n)::us)
  |_,_=>none
def resE(rs:List TM):Ent:=
 match rs with
 | [e]=>.v e.t e.m e.x
 |rs=>.tup rs
structure CallO where
 R:Type
 m:Option R
 us:R->Option Ups
def nobwS(s:Sig):Bool:=s.rs.all (·.2.nobw)&&(zgc s.ps).all (·.2.nobw)
def callE(sg:Sig)(den:Arr (zft sg.ps) (Option (Ret sg.res)))(xs:zek (zft sg.ps))(gs:List (Nat×Gv))(d:Nat):CallO:=
 ⟨Ret sg.res,app _ den xs,λy=>(giveU gs (sg.outTM y)).map λus=>us++[(d,resE (sg.resTM y),0)]⟩
def callG{P:Program}(FT:List (TgE P))(d:Nat)(sg:Sig)(den:Arr (zft sg.ps) (Option (Ret sg.res)))(os:List (Opd×Option (Nat×List TM))):Option CallO:=
 match zqt FT 0 sg.ps os with
 |some (xs,gs,lr)=>if okG gs&&(byR gs d).isNone&&lr.all (λr=>(byR gs r).isNone)&&nobwS sg then some (callE sg den xs gs d)else none
 |none=>none
def callU{P:Program}(FT:List (TgE P))(d f:Nat)(os:List (Opd×Option (Nat×List TM))):Option CallO:=
 match findF FT f with
 |some E=>callG FT d E.sg E.den os
 |none=>none
def callM{P:Program}(FT:List (TgE P))(d:Nat)(nm:String)(os:List (Opd×Option (Nat×List TM))):Option CallO:=
 match findM FT nm with
 |some E=>callG FT d E.sg E.den os
 |none=>none
def zfg:∀{us:Ups} {σ:Env} {t:Nat},(∀u∈us,u.1≠t)->upd us σ t=σ t
 | [],_,_,_=>rfl
 |(s,e,k)::us,σ,t,h=>by show upd us (zdv σ s e k) t=_;rw[zfg λu hu=>h u (xan _ hu)];exact zao σ e k (Ne.symm (h _ (xcz ..)))
def upd_at:∀{us:Ups} {σ:Env} {t:Nat} {e:Ent} {k:Nat},(us.map (·.1)).Nodup->(t,e,k)∈us->upd us σ t=bump k (σ t) e
 |(s,e',k')::us,σ,t,e,k,hd,hm=>by
  simp only[xdo,xfb]at hd;show upd us (zdv σ s e' k') t=_;rcases xar.1 hm with he|he
  ·cases he;rw[zfg λu hu hut=>hd.1 (by rw[<-hut];exact xep hu),zah]
  ·have hne:t≠s:=λhts=>hd.1 (by rw[<-hts];exact xep (f:=(·.1)) he);rw[upd_at hd.2 he,zao σ e' k' hne]
def zwj:∀{gs:List (Nat×Gv)} {outs:List (Nat×TM)} {us:Ups},giveU gs outs=some us ->
  us.map (·.1)=gs.map (·.2.r)/\∀(k:Nat) (g:Gv),(k,g)∈gs->∃e n,giveE g (outAt outs k)=some (e,n)/\(g.r,e,n)∈us
 | [],outs,us,h=>by cases h;exact⟨rfl,λk g hg=>by cases hg⟩
 |(k,g)::gs,outs,us,h=>by
  unfold giveU at h;split at h;case h_2=>cases h
  rename_i e n us' h1 h2;cases h;obtain⟨h3,h4⟩:=zwj h2;refine⟨by simp[h3],λk' g' hg=>?_⟩;rcases xar.1 hg with he|he
  ·cases he;exact⟨e,n,h1,by simp⟩
  ·obtain⟨e',n',h5,h6⟩:=h4 k' g' he;exact⟨e',n',h5,xan _ h6⟩
def okG_nodup{gs:List (Nat×Gv)}(h:okG gs=true):(gs.map (·.2.r)).Nodup:=by
 induction gs with
 |nil=>simp
 |cons x gs ih=>
  obtain⟨i,g⟩:=x;simp only[okG,xal,xfk]at h;simp only[xdo,xfb];refine⟨λhm=>?_,ih h.2⟩;obtain⟨e,he,ha⟩:=xdx.1 hm;exact zjx h.1.1 e he ha
def fromC(gs:List (Nat×Gv))(n d:Nat):Place->Option Place
 |(0,q)=>if n=1 then match q with | 0::ρ=>some (d,ρ) | _=>none else some (d,q)
 |(k+1,ρ)=>match byI gs k with
  |some g=>if g.io then some (pa (g.r,g.π) ρ)else none
  |none=>none
def St.after(S S':St)(gs:List (Nat×Gv))(n d:Nat):St where
 w:=S'.w
 F:=S'.F
 B:=S.B
 own b:=match S'.own b with
  |some z=>fromC gs n d z
  |none=>match S.own b with
   |some z=>match toC gs z with | none=>some z | some _=>none
   |none=>none
 hv z:=if z.1=d then S'.hv (0,if n=1 then 0::z.2 else z.2)else match byR gs z.1 with
  |some (k,g)=>if g.io then(match cut g.π z.2 with | some ρ=>S'.hv (k+1,ρ) | none=>S.hv z)else S.hv z
  |none=>S.hv z
section
variable {P:Program} {c:Ctx} {σ:Env} {a:Act} {S S':St} {gs:List (Nat×Gv)} {FT:List (TgE P)} {n d:Nat}
def after_old{b:Nat}(hf:Frm (S.callee gs) S'){z:Place}(hb:S.own b=some z)(hn:toC gs z=none):(S.after S' gs n d).own b=some z:=by have hl:S'.own b=none:=hf.lent b (.inr ⟨z,hb,hn⟩);simp only[St.after,hl,hb,hn]
def zgy(h:InvOf P c σ a S)(hf:Frm (S.callee gs) S'){b:Nat}(hb:S.F b\/S.B b\/∃z,S.own b=some z/\toC gs z=none):S'.w.heap[b]?=S.w.heap[b]?:=by
 refine hf.kept b (h.wlt (hb.imp id (·.imp id λ⟨z,hz,_⟩=>⟨z,hz⟩))) ?_;rcases hb with hb|hb|⟨z,hz,hn⟩
 ·exact zjw (h.shared b hb).1
 ·exact zjw (h.WF.borrowed b hb).1
 ·simp[St.callee,hz,hn]
def afterTr0(hn:n=1):Tr false S' (S.after S' gs n d) (0,[0]) (d,[]) where
 F _ h:=h
 sF _ _:=rfl
 B h:=by cases h
 sB h:=by cases h
 hv r:=by simp[St.after,pa,hn]
 own b r hb:=⟨by simp only[St.after,hb];simp[pa,fromC,hn],rfl⟩
def afterTr(hn:n≠1)(k:Nat):Tr false S' (S.after S' gs n d) (0,[k]) (d,[k]) where
 F _ h:=h
 sF _ _:=rfl
 B h:=by cases h
 sB h:=by cases h
 hv r:=by simp[St.after,pa,hn]
 own b r hb:=⟨by simp only[St.after,hb];simp[pa,fromC,hn],rfl⟩
def afterTrG(hk:okG gs=true)(hd:byR gs d=none){k:Nat}{g:Gv}(hm:(k,g)∈gs)(hio:g.io=true):Tr false S' (S.after S' gs n d) (k+1,[]) (g.r,g.π) where
 F _ h:=h
 sF _ _:=rfl
 B h:=by cases h
 sB h:=by cases h
 hv r:=by have ha:g.r≠d:=zjx hd _ hm;simp only[St.after,pa,if_neg ha,zpv hk hm,hio,cut_app,if_true,xdp]
 own b r hb:=⟨by simp only[St.after,hb];simp[pa,fromC,byI_mem hk hm,hio],rfl⟩
def after_hv{z:Place}(hd:z.1≠d)(hc:toC gs z=none):(S.after S' gs n d).hv z=S.hv z:=by
 simp only[St.after,if_neg hd];unfold toC at hc;split
 ·rename_i k g hb;rw[hb]at hc;simp only[xgt]at hc;split;·rw[hc]
  ·rfl
 ·rfl
def zzn{z:Place}(hd:z.1≠d)(hk:∀k g,byR gs z.1=some (k,g)->g.io=false):(S.after S' gs n d).hv z=S.hv z:=by
 simp only[St.after,if_neg hd];split;·rename_i k g hb;rw[hk k g hb];rfl
 ·rfl
def afterFr(h:InvOf P c σ a S)(hf:Frm (S.callee gs) S')(hk:okG gs=true)(hd:byR gs d=none){k:Nat}{g:Gv}(hm:(k,g)∈gs):Fr S (S.after S' gs n d) (g.r,[]) g.π none where
 F b hb:=hf.F b hb
 sF b hb:=zgy h hf (.inl hb)
 B b hb:=.inr hb
 sB b hb:=zgy h hf (.inr (.inl hb))
 hv r hr:=by
  rw[zbt];refine after_hv (zjx hd _ hm) ?_;unfold toC;simp only[zpv hk hm,xgt];cases hc:cut g.π r with
  |none=>rfl
  |some ρ=>exact absurd ⟨ρ,(zzg hc).symm⟩ hr
 own b r hr hb:=by
  rw[zbt]at hb ⊢;have hc:toC gs (g.r,r)=none:=by
   unfold toC;simp only[zpv hk hm,xgt];cases hc:cut g.π r with
   |none=>rfl
   |some ρ=>exact absurd ⟨ρ,(zzg hc).symm⟩ hr
  exact⟨after_old hf hb hc,λ_=>zgy h hf (.inr (.inr ⟨_,hb,hc⟩))⟩
end
def zls:∀{π:List Nat} {t:Ty} {q:List Nat} {o:Nat},zbo π t=some (some q,o)->q.length<π.length
 | [],_,_,_,hl=>by simp[zbo]at hl
 |i::π,.pair a b,q,o,hl=>by
  match i with
  | 0=>
   simp only[zbo,xac]at hl
   obtain⟨⟨q',o'⟩,h1,h2⟩:=hl
   cases q' with
   |none=>simp at h2
   |some q'=>have:=zls (π:=π) (t:=a) h1;simp at h2;rw[<-h2.1];simpa using this
  | 1=>
   simp only[zbo,xac]at hl
   obtain⟨⟨q',o'⟩,h1,h2⟩:=hl
   cases q' with
   |none=>simp at h2
   |some q'=>have:=zls (π:=π) (t:=b) h1;simp at h2;rw[<-h2.1];simpa using this
  |i+2=>simp[zbo]at hl
 |i::π,.arr n t,q,o,hl=>by
  rw[zej]at hl;simp only[xac]at hl;obtain⟨⟨q',o'⟩,h1,h2⟩:=hl;cases q' with
  |none=>simp at h2
  |some q'=>have:=zls h1;simp at h2;rw[<-h2.1];simpa using this
 |i::π,.slice t,q,o,hl=>by
  rw[zec]at hl;simp only[xac]at hl;obtain⟨⟨q',o'⟩,h1,h2⟩:=hl;cases q' with
  |none=>simp at h2;rw[h2.1];simp
  |some q'=>have:=zls h1;simp at h2;rw[<-h2.1];simpa using this
 |i::π,.ptr t,q,o,hl=>by
  match i with
  | 0=>
   simp only[zbo,xac]at hl
   obtain⟨⟨q',o'⟩,h1,h2⟩:=hl
   cases q' with
   |none=>simp at h2;rw[h2.1];simp
   |some q'=>have:=zls (π:=π) (t:=t) h1;simp at h2;rw[<-h2.1];simpa using this
  |i+1=>simp[zbo]at hl
 |_::_,.int _,_,_,hl=>by simp[zbo]at hl
 |_::_,.bool,_,_,hl=>by simp[zbo]at hl
 |_::_,.str,_,_,hl=>by simp[zbo]at hl
 |_::_,.unit,_,_,hl=>by simp[zbo]at hl
 |_::_,.fn1 _ _,_,_,hl=>by simp[zbo]at hl
 |_::_,.fn2 _ _ _,_,_,hl=>by simp[zbo]at hl
 |_::_,.alt _ _ _,_,_,hl=>by simp[zbo]at hl
 |_::_,.nilI,_,_,hl=>by simp[zbo]at hl
def locP_nopre{π:List Nat}{t:Ty}{q:List Nat}{o:Nat}(h:zbo π t=some (some q,o)):¬π <+: q:=λhp=>by have:=hp.length_le;have:=zls h;omega
section
variable {P:Program} {c:Ctx} {σ σ':Env} {a:Act} {S S':St} {gs:List (Nat×Gv)} {FT:List (TgE P)} {n d:Nat}
def partAfter(h:InvOf P c σ a S)(hf:Frm (S.callee gs) S')(hk:okG gs=true)(hd:byR gs d=none){i:Nat}{g:Gv}(hm:(i,g)∈gs)(hr:(σ g.r).e=.v g.t g.m g.x){k k' m':Md}{u:Ty}{y':u.den}{x':g.t.den}(hmo:zbr g.π g.t g.m=some k)(hok:okP S g.π g.t (g.r,[]))
  (hset:zfl g.π g.t g.m k'=some m') (hsp:zkf g.π g.t g.x ⟨u,y'⟩=some x')
  (hrel:∀(s:Ty) (y:s.den) (cs':Cs),zcc g.π g.t g.x=some ⟨s,y⟩->Rel P s S k (g.r,g.π) y cs'->Rel P u (S.after S' gs n d) k' (g.r,g.π) y' cs'):SR P g.t (S.after S' gs n d) m' (g.r,[]) x' (tmv a g.r):=by
 have he:=h.slot hr;obtain⟨s,y,l,cs',h1,h2,h3,h4⟩:=Rel.at he.1 hmo hok;rw[zbt]at h3;have hc:=hrel s y cs' h1 h3;have ha:Fr S (S.after S' gs n d) (g.r,[]) g.π none:=afterFr h hf hk hd hm;refine⟨he.1.updAt h2 hset hsp hok ?_,he.2⟩;obtain⟨q,o⟩:=l;cases q with
 |none=>
  refine⟨ha,?_⟩;rw[zbt];have hg:cs'=λi=>zab g.t (tmv a g.r) (o+i):=h4;rw[<-hg];exact hc
 |some q=>
  obtain⟨b,h5,h6,h7,cur,e,h8⟩:=h4;have hb:=(ha.own b q (locP_nopre h2) h6).2 (by simp);refine⟨b,cur,cur,e,h5,h6,h8,hb.trans h8,rfl,λ_ _=>rfl,⟨ha.F,ha.sF,ha.B,ha.sB,ha.hv,λb' r' h9 h10=>⟨(ha.own b' r' h9 h10).1,λ_=>(ha.own b' r' h9 h10).2 (by simp)⟩⟩,?_⟩;rw[zbt,<-zlh h8,<-h7];exact hc
def giveSlot(h:InvOf P c σ a S)(hf:Frm (S.callee gs) S')(hk:okG gs=true)(hd:byR gs d=none){i:Nat}{g:Gv}(hm:(i,g)∈gs){v:Value}(hg:GvOK S σ a g v){out:Option TM}{e:Ent}{j:Nat}(hx:giveE g out=some (e,j))
  (ho:∀e,out=some e->e.m.nobw=true/\SR P e.t S' e.m (i+1,[]) e.x v) {tm:Nat->Value} (htm:tm g.r=tmv a g.r) (hs:σ' g.r=bump j (σ g.r) e) :
  SlotOK P (S.after S' gs n d) σ' tm g.r/\Chg S (S.after S' gs n d) σ σ' g.r:=by
 obtain⟨hr,h4,⟨k,hy,h8⟩,⟨y,hp⟩,jc⟩:=hg;have h0:g.r≠d:=zjx hd _ hm;unfold giveE at hx;split at hx
 ·rename_i hi;rcases jc hi with⟨hv,hw,e1,k1,hk1⟩|⟨hπ,hu,hkm,halt,hv⟩
  rotate_left
  ·split at hx;case h_2=>cases hx
   rename_i e0;rw[hu,if_pos halt]at hx;split at hx;case isFalse=>cases hx
   cases hx;obtain⟨hj,hh⟩:=ho e0 rfl;refine⟨?_,?_⟩;·refine .v (t:=e0.t) (m:=e0.m) (x:=e0.x) (by rw[hs,zom]) ?_;rw[htm,<-hv];have:=SR.mono (q:=false) (S':=S.after S' gs n d) hh (.inr hj) (afterTrG hk hd hm hi);rw[hπ]at this;exact this
   ·exact⟨by rw[hs];exact xag _,.inl (by rw[hs];exact xbw _)⟩
  have h6:g.u.isAlt=false:=by rcases hw with⟨w,e⟩|⟨w,e⟩<;>rw[e]<;>rfl
  have ja:=h8 hi;subst ja;split at hx;case h_2=>cases hx
  rename_i e0;rw[h6,if_neg (by simp)]at hx;split at hx;case isFalse=>cases hx
  rename_i hc;split at hx;case h_2=>cases hx
  rename_i x' m' h3 ha;cases hx;obtain⟨hj,hh⟩:=ho e0 rfl;obtain⟨et,em,ex⟩:=e0;simp only at hc h3 ha hj hh;obtain⟨hz,h7⟩:=hc;have he:(∃w,et=.ptr w)\/∃w,et=.slice w:=by rw[hz];exact hw
  have hq:∃y:et.den,zcc g.π g.t g.x=some ⟨et,y⟩:=by rw[hz];exact⟨y,hp⟩
  rw[h7]at hj hh ha;have hn:et.agg=false:=by rcases he with⟨w,rfl⟩|⟨w,rfl⟩<;>rfl
  have jd:et.size=1:=by rcases he with⟨w,rfl⟩|⟨w,rfl⟩<;>rfl
  have hl:∀{S0:St} {p0:Place} {x0:et.den} {cs0:Cs},Rel P et S0 g.k p0 x0 cs0->cs0 0=some (S0.hv p0):=λ{S0 p0 x0 cs0} h=>by
   rw[hk1]at h;rcases he with⟨w,rfl⟩|⟨w,rfl⟩
   ·exact h.1
   ·exact h.2.2.1
  have h9:v=S'.hv (i+1,[]):=by have:=hl hh.1;simpa[zab,hn]using this
  have jb:=hk1;refine⟨.v (by rw[hs,zom]) ?_,.bump (k:=1) (h.gens _) hr hs (λ_=>?_) λ_ h=>absurd rfl h⟩
  ·rw[htm];refine partAfter h hf hk hd hm hr hy h4 ha h3 λs y1 cs' h1 h2=>?_;obtain⟨y2,ht⟩:=hq;rw[ht]at h1;cases h1;refine hh.1.mono (q:=false) (.inr hj) (afterTrG hk hd hm hi) λi hi=>?_;have:i=0:=by omega
   subst this;rw[hl h2,<-hv];simp[zab,hn]
  ·show(S.after S' gs n d).hv (g.r,[])=_;simp only[St.after,if_neg h0,zpv hk hm,hi,if_true];cases hc:cut g.π []with
   |none=>rfl
   |some ρ=>
    have:=zzg hc;have hπ:g.π=[]/\ρ=[]:=by have:=this.symm;simpa using this
    simp only[hπ.2];rw[<-h9,hv,hπ.1]
 ·rename_i hi;have h5:g.io=false:=by simpa using hi
  split at hx
  ·cases hx;refine⟨?_,?_⟩;·unfold SlotOK;rw[hs,zom];trivial
   ·exact⟨by rw[hs];exact xag _,.inl (by rw[hs];exact xbw _)⟩
  ·simp only[xac,xaw]at hx;obtain⟨m',ha,rfl,rfl⟩:=hx;refine⟨.v (by rw[hs,zom]) ?_,.bump (k:=1) (h.gens _) hr hs (λ_=>?_) λ_ h=>absurd rfl h⟩;·rw[htm];refine partAfter h hf hk hd hm hr hy h4 ha (zgb hp) λs y1 cs' h1 h2=>?_;rw[hp]at h1;cases h1;exact(h2.weaken (zyp _ k)).dead_any λ_ _=>rfl
   ·refine zzn h0 λk g' hb=>?_;rw[zpv hk hm]at hb;cases hb;exact h5
def resSlot(hf:Frm (S.callee gs) S'){rs:List TM}{v:Value}(hres:ResOK P S' rs v)(hnb:∀e∈rs,e.m.nobw=true){tm:Nat->Value}(htm:tm d=v)(hs:(σ' d).e=resE rs):SlotOK P (S.after S' gs rs.length d) σ' tm d:=by
 unfold SlotOK;rw[hs,htm];have ha:∀rs:List TM,rs.length≠1->(∃us,v=.tuple us/\us.size=rs.length/\∀(k:Nat) (e:TM),rs[k]?=some e->∃u,us[k]?=some u/\SR P e.t S' e.m (0,[k]) e.x u)->(∀e∈rs,e.m.nobw=true) ->
   ∃us,v=.tuple us/\us.size=rs.length/\∀(k:Nat) (e:TM),rs[k]?=some e->∃u,us[k]?=some u/\SR P e.t (S.after S' gs rs.length d) e.m (d,[k]) e.x u:=λrs hl ⟨us,h1,h2,h3⟩ hnb=>⟨us,h1,h2,λk e hk=>by
  obtain⟨u,h4,h5⟩:=h3 k e hk;exact⟨u,h4,h5.mono (q:=false) (.inr (hnb e (xgh hk))) (afterTr hl k)⟩⟩
 match rs,hres,hnb with
 | [],hres,hnb=>exact ha [] (by simp) hres hnb
 | [e],hres,hnb=>exact SR.mono (q:=false) hres (.inr (hnb e (by simp))) (afterTr0 rfl)
 |e::e'::rs,hres,hnb=>exact ha (e::e'::rs) (by simp) hres hnb
def InvOf.called(h:InvOf P c σ a S)(hk:okG gs=true)(hd:byR gs d=none)(hN:d<c.N)(hf:Frm (S.callee gs) S'){rs:List TM}{v:Value}(hres:ResOK P S' rs v)(hnb:∀e∈rs,e.m.nobw=true){vs:List Value}{outs:List (Nat×TM)}
  (ho:∀(k:Nat) (e:TM),(k,e)∈outs->e.m.nobw=true/\∃u,vs[k]?=some u/\SR P e.t S' e.m (k+1,[]) e.x u) (hgv:∀(k:Nat) (g:Gv),(k,g)∈gs->∃u,vs[k]?=some u/\GvOK S σ a g u) {us:Ups} (hus:giveU gs outs=some us) :
  InvOf P c (upd (us++[(d,resE rs,0)]) σ) (a.put (some d) v) (S.after S' gs rs.length d):=by
 obtain⟨hh,hl⟩:=zwj hus;have h6:d∉us.map (·.1):=by rw[hh];intro hm;obtain⟨e,he,hw⟩:=xdx.1 hm;exact zjx hd e he hw
 have h4:((us++[(d,resE rs,0)]:Ups).map (·.1)).Nodup:=by rw[xcc,xdh];refine⟨by rw[hh];exact okG_nodup hk,by simp,λx hx y hy hxy=>?_⟩;simp at hy;exact h6 (by rw[<-hy,<-hxy];exact hx)
 have hq:upd (us++[(d,resE rs,0)]) σ d=bump 0 (σ d) (resE rs):=upd_at h4 (by simp);have hp:∀t,t≠d->byR gs t=none->upd (us++[(d,resE rs,0)]) σ t=σ t:=λt ha hb=>zfg λu hu hut=>by
  rcases xbp.1 hu with hu|hu
  ·have:t∈gs.map (·.2.r):=by rw[<-hh,<-hut];exact xep hu
   obtain⟨e,he,hw⟩:=xdx.1 this;exact zjx hb e he hw
  ·simp at hu;rw[hu]at hut;exact ha hut.symm
 have h0:tmv (a.put (some d) v) d=v:=zak (by rw[h.size];exact hN);have hi:∀t,t≠d->∀e,byR gs t=some e->SlotOK P (S.after S' gs rs.length d) (upd (us++[(d,resE rs,0)]) σ) (tmv (a.put (some d) v)) t/\Chg S (S.after S' gs rs.length d) σ (upd (us++[(d,resE rs,0)]) σ) t:=λt ha e he=>by obtain⟨k,g⟩:=e;obtain⟨hm,hr⟩:=byR_some he;simp only at hr;subst hr;obtain⟨x,j,hx,hv⟩:=hl k g hm;obtain⟨u,hu,hg⟩:=hgv k g hm;refine giveSlot h hf hk hd hm hg hx (λe he=>?_) (zbn ha) (upd_at h4 (xdq _ hv));obtain⟨h1,u',h2,h3⟩:=ho k e (outAt_mem he);rw[hu]at h2;cases h2;exact⟨h1,h3⟩
 have hj:∀b,(S.callee gs).own b≠none->b<S.w.heap.size/\(c.w0.heap.size<=b\/c.O b):=λb hb=>by obtain⟨z,hz⟩:=xhf.1 hb;obtain⟨y,hy,_⟩:=zxa hz;exact h.owned b y hy
 refine h.rebuild (λt=>t=d\/byR gs t≠none) (λr _=>if hrd:r=d then .inl (by rw[hrd,hq];exact xbw _)else .inr (zbn hrd)) (by simpa[Act.put]using h.defers) (by simpa[Act.put]using h.size) (λt ht=>?_) (λt ht=>?_) (λt ht=>?_) hf.F (λb hb=>zgy h hf (.inl hb)) rfl (λb hb=>zgy h hf (.inr (.inl hb)))
  (λt ht q=>?_) (λt ht b q hb=>?_) (λb hb=>?_) (λb hb=>?_) (λb p hb=>?_) hf.os hf.tape hf.output hf.size (λb hb hO=>?_)
 ·have ha:t≠d:=λe=>ht (.inl e);have hn:byR gs t=none:=xgf λe=>ht (.inr e);exact⟨hp t ha hn,zbn ha⟩
 ·by_cases ha:t=d;·subst ha;exact⟨by rw[hq];exact xag _,.inl (by rw[hq];exact xbw _)⟩
  ·obtain⟨e,he⟩:=xhf.1 (ht.resolve_left ha);exact(hi t ha e he).2
 ·by_cases ha:t=d;·subst ha;exact resSlot hf hres hnb h0 (by rw[hq,zom])
  ·obtain⟨e,he⟩:=xhf.1 (ht.resolve_left ha);exact(hi t ha e he).1
 ·have ha:t≠d:=λe=>ht (.inl e);have hn:byR gs t=none:=xgf λe=>ht (.inr e);exact after_hv ha (zha hn)
 ·have hn:byR gs t=none:=xgf λe=>ht (.inr e);have hc:toC gs (t,q)=none:=zha hn;exact⟨after_old hf hb hc,zgy h hf (.inr (.inr ⟨_,hb,hc⟩))⟩
 ·obtain⟨h1,h2,h3⟩:=hf.shared b hb;refine⟨?_,h2,?_⟩
  ·show(S.after S' gs rs.length d).own b=none;cases hs:S.own b with
   |none=>simp only[St.after,h1,hs]
   |some z=>
    cases hz:toC gs z with
    |some y=>simp only[St.after,h1,hs,hz]
    |none=>
     exfalso;rcases h3 with h3|h3|h3
     ·rw[(h.shared b h3).1]at hs;cases hs
     ·have:=(h.owned b z hs).1;have h7:S.w.heap.size<=b:=h3;omega
     ·exact h3 (by simp[St.callee,hs,hz])
  ·rcases h3 with h3|h3|h3
   ·exact(h.shared b h3).2.2
   ·exact .inr (.inl (xay h.grown h3))
   ·exact .inr (hj b h3).2
 ·have h1:=(h.borrowed b hb).1;have h2:S'.own b=none:=hf.lent b (.inl (by rw[h.lent];exact hb));show(S.after S' gs rs.length d).own b=none;simp only[St.after,h2,h1]
 ·have h5:(S.after S' gs rs.length d).own b=some p:=hb;cases hs':S'.own b with
  |some z=>
   obtain⟨h1,h2⟩:=hf.owned b z hs';refine⟨h1,?_⟩;rcases h2 with h2|h2
   ·exact .inl (xay h.grown h2)
   ·exact(hj b h2).2
  |none=>
   cases hs:S.own b with
   |none=>simp only[St.after,hs',hs]at h5;cases h5
   |some z=>exact⟨xav (h.owned b z hs).1 hf.size,(h.owned b z hs).2⟩
 ·refine hf.kept b (xav hb h.grown) (xgf λhne=>?_);rcases(hj b hne).2 with h1|h1
  ·omega
  ·exact hO h1
end
def one(d:Nat)(q:Option (Bool×Ent)):Option (Bool×Ups):=q.map λq=>(q.1,[(d,q.2,0)])
def sure(q:Option Ups):Option (Bool×Ups):=q.map λus=>(true,us)
def nilU(T:Tab)(fl ty d:Nat)(o:Opd):Option Ups:=
 match o with
 | .con (.slice none 0 0)=>match tl T ty with
  |some (i,.slice u)=>match i.k with
   | .slice e=>if 0<u.size then some [(d,.v (.slice u) (.own e (if fl=3 then .bw else .sh)) [],0)]else none
   |_=>none
  |_=>none
 | .con (.pointer none)=>some [(d,.dead,0)]
 |_=>none
def twinU(d:Nat)(o:Opd):Option Ups:=
 match o with
 | .slot s c _=>match c.e with
  | .v (.alt _ _ _) _ _=>some [(d,.view s [] c.h,0)]
  |_=>none
 |_=>none
def downE(o:Opd):Option Ent:=
 match o.place with
 |some p=>match zcc p.π p.t p.x with
  |some ⟨.pair _ _,_⟩=>some (.ref p.r (p.π++[0]) (zke p.c p.t (p.π++[0])))
  |_=>none
 |none=>match o.ro with
  |some ⟨.pair a _,m,x⟩=>some (.v (.ptr a) m x.1)
  |_=>none
def keepE(T:Tab)(s f:Nat)(o:Opd):Option Ent:=
 match tl T s with
 |some (i,ts)=>match i.k with
  | .struct offs=>match offs[f]? with
   |some (0,sz)=>if sz=0 then none else match o.place with
    |some p=>match zcc p.π p.t p.x with
     |some y=>if y.t=ts then some (.ref p.r p.π (zke p.c p.t p.π))else none
     |none=>none
    |none=>none
   |_=>none
  |_=>none
 |none=>none
def capE(o:Opd):Option Cap:=
 match o.rb with
 |some (r,π,s)=>some (.rb r π s)
 |none=>match o.ro with
 |some e=>some (.val ⟨.ptr e.t,.bw,e.x⟩)
 |none=>match o.place with
  |some p=>some (.ref p.r p.π (zke p.c p.t p.π))
  |none=>none
def capsE(l:Operand->Opd):List Operand->Option (List Cap)
 | []=>some []
 |x::xs=>match capE (l x),capsE l xs with
  |some c,some cs=>some (c::cs)
  |_,_=>none
def injE:(t:Ty)->(xt:TypeId)->(u:Ty)->u.den->Option t.den
 | .alt tid a b,xt,u,x=>if tid=xt then(TV.to ⟨u,x⟩ a).map .inl else if b.size=1 then(injE b xt u x).map .inr else none
 | .int _,_,_,_=>none
 | .bool,_,_,_=>none
 | .str,_,_,_=>none
 | .unit,_,_,_=>none
 | .pair _ _,_,_,_=>none
 | .arr _ _,_,_,_=>none
 | .slice _,_,_,_=>none
 | .ptr _,_,_,_=>none
 | .fn1 _ _,_,_,_=>none
 | .fn2 _ _ _,_,_,_=>none
 | .nilI,_,_,_=>none
def ifcE(T:Tab)(t xt:TypeId)(o:Opd):Option (Bool×Ent):=
 match tl T t,tl T xt with
 |some (_,tt),some (i,u)=>match i.k with
  | .struct _=>match o.val u with
   |some (m,x)=>if leM u m .sh then(injE tt xt u x).map λz=>(true,.v tt .sh z)else none
   |none=>none
  |_=>none
 |_,_=>none
def injP:Ty->TypeId->Option (List Nat)
 | .alt tid _ b,xt=>if tid=xt then some [0]else(injP b xt).map λρ=>1::ρ
 | .int _,_=>none
 | .bool,_=>none
 | .str,_=>none
 | .unit,_=>none
 | .pair _ _,_=>none
 | .arr _ _,_=>none
 | .slice _,_=>none
 | .ptr _,_=>none
 | .fn1 _ _,_=>none
 | .fn2 _ _ _,_=>none
 | .nilI,_=>none
def decM:Nat->Nat->Md×Nat
 | 0,_=>(.dead,0)
 |f+1,n=>match n%512 with
  | 0=>(.sh,n/512)
  | 1=>(.bw,n/512)
  | 3=>let q:=decM f (n/512/512);(.own (n/512%512) q.1,q.2)
  | 4=>let q:=decM f (n/512);let r:=decM f q.2;(.pr q.1 r.1,r.2)
  |_=>(.dead,n/512)
def atP:List Nat->Md->Md
 | [],m=>m
 | 0::_,m=>m.l
 |_::ρ,m=>atP ρ m.r
def atP_dead:∀ρ:List Nat,atP ρ .dead=.dead
 | []=>rfl
 | 0::_=>rfl
 |(_+1)::ρ=>atP_dead ρ
def ifcM(T:Tab)(M:Md)(t xt d:Nat)(o:Opd):Option Ups:=
 match o with
 | .slot s cc _=>match cc.e with
  | .v (.ptr u) (.own e k) x=>match tl T t,tl T xt with
   |some (_,tt),some (i,.ptr u')=>match i.k with
    | .other=>if u'=u/\s≠d then match injP tt xt,injE tt xt (.ptr u) x with
     |some ρ,some z=>if atP ρ M=.own e k then some [(s,.dead,0),(d,.v tt M z,0)]else none
     |_,_=>none else none
    |_=>none
   |_,_=>none
  |_=>none
 |_=>none
def zir:(t:Ty)->t.den->Bool
 | .alt _ _ b,x=>match x with
  | .inl _=>false
  | .inr z=>zir b z
 | .int _,_=>true
 | .bool,_=>true
 | .str,_=>true
 | .unit,_=>true
 | .pair _ _,_=>true
 | .arr _ _,_=>true
 | .slice _,_=>true
 | .ptr _,_=>true
 | .fn1 _ _,_=>true
 | .fn2 _ _ _,_=>true
 | .nilI,_=>true
def isI:Ty->Bool
 | .alt _ _ b=>isI b
 | .nilI=>true
 |_=>false
def isnilE(T:Tab)(op:BinOp)(t:TypeId)(o:Opd):Option (Bool×Ent):=
 match tl T t with
 |some (i,tt)=>match i.k with
  | .iface=>if isI tt then match o.val tt with
   |some (m,x)=>if m=.sh\/m=.bw then(match op with
    | .eql=>some (true,.v .bool .sh (zir tt x))
    | .neq=>some (true,.v .bool .sh (!zir tt x))
    |_=>none)else none
   |none=>none else none
  |_=>none
 |none=>none
def mthE(nm:String)(o:Opd):Option (Bool×Ent):=
 match o with
 | .slot _ c _=>match c.e with
  | .v t .sh x=>if isI t&&leM t .sh .bw then some (true,.mth nm ⟨t,.bw,x⟩)else none
  |_=>none
 |_=>none
def cvtE(T:Tab)(s t:TypeId)(o:Opd):Option Ent:=
 match tl T s,tl T t with
 |some (_,.slice (.int .u8)),some (_,.str)=>match o.val (.slice (.int .u8))with
  |some (m,xs)=>if m≠ .dead/\(elm m=.sh\/elm m=.bw)then some (.v .str .sh xs)else none
  |none=>none
 |_,_=>none
def clearU(T:Tab)(t:Nat)(o:Opd):Option Ups:=
 match tl T t,o with
 |some (i,.slice (.int k)),.slot _ c root=>match i.k with
  | .slice e=>match tl T e with
   |some (j,_)=>match cval (.int k) j.zero,c.e with
    |some z,.tail r s lo=>match root.e with
     | .v (.slice (.int k')) (.own e' M) xs=>if k'=k/\root.h=s/\leM (.int k) .sh M=true then some [(r,.v (.slice (.int k')) (.own e' M) ((xs:List Int).take lo++List.replicate ((xs:List Int).length-lo) (z:Int)),0)]else none
     |_=>none
    |_,_=>none
   |none=>none
  |_=>none
 |_,_=>none
def rboxU(d:Nat)(o:Opd):Option Ups:=
 match o.place with
 |some p=>if p.r=d then none else some [(d,.rbox p.r p.π (zke p.c p.t p.π),0)]
 |none=>none
noncomputable def zlm (T:Tab) (fl:Nat) (o:Oper) (l:Operand->Opd):Option (Bool×Ups):=
 match o.dst with
 |none=>match o.op with
  | .store t x y=>sure (storeU T t (l x) (l y))
  | .call {callee:=.builtin .clear,args:=⟨[x]⟩,argTypes:=⟨[t]⟩}=>sure (clearU T t (l x))
  |_=>none
 |some d=>match o.op with
  | .assign x=>if fl≥2 then sure (nilU T fl o.type d (l x))else sure (asgU T o.type d (l x))
  | .fieldAddr s x f=>if fl=12 then one d ((keepE T s f (l x)).map λe=>(true,e))else one d (zfj T o l)
  | .move x=>if fl=11 then one d ((downE (l x)).map λe=>(true,e))else if fl=9 then sure (twinU d (l x))else if fl≥2 then sure (nilU T fl o.type d (l x))else if fl=1 then sure (asgU T o.type d (l x))else one d (zfj T o l)
  | .load t x=>if fl=1 then sure (loadM T d t (l x))else one d (zfj T o l)
  | .alloc t=>if 4<=fl then sure (allocN T fl d t)else sure (allocU T d t)
  | .box t x=>if fl=13 then sure (rboxU d (l x))else sure (boxX T d t (l x))
  | .call {callee:=.builtin .append,args:=⟨[x,y]⟩,argTypes:=⟨[t,u]⟩}=>if t=u then appU T o.type d t (l x) (l y)else none
  | .makeSlice t x y=>makeU T d t (l x) (l y)
  | .buildSlice t n ps=>sure (litU T fl d t n ps.toList l)
  | .build t ps=>if 4<=fl then sure (zxb T fl d t ps.toList l)else one d ((buildE T t ps.toList l).map λe=>(true,e))
  | .slice t x lo hi none=>sliceU T o.type d t (l x) (lo.map l) (hi.map l)
  | .extract x i=>sure (extU d i (l x))
  | .makeFunc (.func f) ⟨[]⟩ ⟨xs⟩=>one d ((capsE l xs).map λcs=>(true,.clo f cs))
  | .makeFunc (.method nm) ⟨[x]⟩ ⟨[]⟩=>one d (mthE nm (l x))
  | .makeInterface xt x=>if 512<=fl then sure (ifcM T (decM 200 fl).1 o.type xt d (l x))else one d (ifcE T o.type xt (l x))
  | .binOp op t x (.const .nilIface) _=>one d (isnilE T op t (l x))
  | .convert s t x=>match cvtE T s t (l x)with
   |some e=>one d (some (true,e))
   |none=>one d (zfj T o l)
  |_=>one d (zfj T o l)
def within(N:Nat)(o:Oper):Bool:=match o.dst with | some d=>decide (d<N) | none=>true
section
variable {P:Program} {c:Ctx} {σ:Env} {a:Act} {S:St} {T:Tab}
def rbox_sound(h:InvOf P c σ a S){d t:Nat}(hd:d<c.N){x:Operand}{us:Ups}(hx:rboxU d (zar σ x)=some us) :
  ∃v w',(Instr.box t (a.eval x)).run P S.w=.ok v w'/\Inv P c (upd us σ) (a.put (some d) v) w':=by
 unfold rboxU at hx;split at hx;case h_2=>cases hx
 rename_i p hp;split at hx;·cases hx
 rename_i hg;cases hx;obtain⟨hr,hc,hπ,hh,q,off,b,h2,h3,h4⟩:=h.place hp;have he:RefOK S σ p.r p.π (zke p.c p.t p.π) (a.eval x):=by rw[hc,h4];exact h.refTo hr h2 hh h3
 let b0:=S.w.heap.size;let S':St:={S with w:=S.w.alloc (.cells (a.eval x).cells t),F:=λb=>S.F b\/b=b0};have ha:Ext S.w S'.w:=Ext.alloc _ _;have hf:S'.w.heap[b0]?=some (.cells (a.eval x).cells t (0,0)):=heap_alloc_new S.w _;refine⟨.pointer (some ⟨b0,0,none⟩),S'.w,by simp[Instr.box,newVar,newRow];rfl,S',rfl,?_⟩;refine h.rebuild (S':=S') (λt=>t=d) (λr _=>zhc (λ_=>xag _) r) (by simpa[Act.put]using h.defers) (by simpa[Act.put]using h.size) (λt ht=>⟨zao σ _ 0 ht,zbn ht⟩)
  (λr hr=>?_) (λt ht=>?_) (λb hb=>.inl hb) (λb hb=>ha.block b (h.wlt (.inl hb))) rfl (λb hb=>ha.block b (h.wlt (.inr (.inl hb)))) (λ_ _ _=>rfl)
  (λt _ b q hb=>⟨hb,ha.block b (h.owned b _ hb).1⟩) (λb hb=>?_) (λb hb=>(h.borrowed b hb).1) (λb p hb=>⟨xav (h.owned b p hb).1 ha.size,(h.owned b p hb).2⟩) ha.os ha.tape ha.output ha.size
  (λb hb hO=>ha.block b (xav hb h.grown))
 ·subst hr;exact⟨by show _<=_;rw[show upd [(r,Ent.rbox p.r p.π (zke p.c p.t p.π),0)] σ=zdv σ r (.rbox p.r p.π (zke p.c p.t p.π)) 0 from rfl,zah];exact xag _,.inl (by show _<_;rw[show upd [(r,Ent.rbox p.r p.π (zke p.c p.t p.π),0)] σ=zdv σ r (.rbox p.r p.π (zke p.c p.t p.π)) 0 from rfl,zah];exact xbw _)⟩
 ·subst ht;show SlotOK P S' (zdv σ t (.rbox p.r p.π (zke p.c p.t p.π)) 0) _ t;unfold SlotOK;rw[zbs,zak (by rw[h.size];exact hd)];refine⟨b0,a.eval x,rfl,.inr rfl,?_,he.keep (.refl (h.gens _) (zao σ _ _ hg) λ_=>rfl)⟩;show blk S'.w b0 0 0=_;rw[zlh (o:=0) hf,h4];rfl
 ·rcases hb with hb|hb
  ·have:=h.shared b hb;exact⟨this.1,xav this.2.1 ha.size,this.2.2⟩
  ·subst hb;exact⟨zyh h,by show _<(S.w.alloc _).heap.size;simp[b0],.inr (.inl h.grown)⟩
def down_sound(h:InvOf P c σ a S){o:Operand}{e:Ent}(hx:downE (zar σ o)=some e):zik P S σ (tmv a) e (a.eval o):=by
 unfold downE at hx;split at hx
 ·rename_i p hp;split at hx;case h_2=>cases hx
  rename_i A B y hg;cases hx;obtain⟨h1,h2,h3,h4,q,off',b,h5,h6,h7⟩:=h.place hp;rw[h2,h7];have hl:zbo [0] (.pair A B)=some (none,0):=by simp[zbo]
  refine h.refTo (q:=q) h1 ?_ (zie hg h4 (by simp[okP])) h6;rw[zez hg h5 hl];rfl
 ·split at hx;case h_2=>cases hx
  rename_i A B m x hb;cases hx;obtain⟨hm,b,off',h7,hG,p,h8⟩:=h.ro hb;simp only at hm hG h8;have hA:Rel P A S m (px p 0) x.1 (blk S.w b off'):=by rcases hm with hm|hm<;>(subst hm;exact h8.1)
  have hc:zab (.ptr A) (.pointer (some ⟨b,off',none⟩)) 0=some (.pointer (some ⟨b,off',none⟩)):=by simp[zab,Ty.agg]
  have ha:∃b0 o0,zab (.ptr A) (.pointer (some ⟨b,off',none⟩)) 0=some (.pointer (some ⟨b0,o0,none⟩))/\(A.size≠0->S.G m b0)/\Rel P A S m (px (px p 0) 0) x.1 (blk S.w b0 o0):=⟨b,_,hc,λhne=>hG (by simp only[Ty.size];omega),by
   rcases hm with hm|hm
   ·rw[hm]at hA ⊢;exact hA.fut (.inl rfl) ((Fut2.refl S).sh _) λ_ _=>rfl
   ·rw[hm]at hA ⊢;exact hA.fut (.inr rfl) ((Fut2.refl S).sh _) λ_ _=>rfl⟩
  rw[h7];refine⟨by rcases hm with hm|hm<;>rw[hm]<;>rfl,px p 0,?_,λh=>by cases h⟩;rcases hm with hm|hm<;>rw[hm]at ha⊢ <;>exact ha
def keep_sound(h:InvOf P c σ a S)(hT:TabOK P T){s f:Nat}{o:Operand}{e:Ent}(hx:keepE T s f (zar σ o)=some e):∃v,(Instr.fieldAt s (a.eval o) f).run P S.w=.ok v S.w/\zik P S σ (tmv a) e v:=by
 unfold keepE at hx;split at hx;case h_2=>cases hx
 rename_i i ts ht;split at hx;case h_2=>cases hx
 rename_i offs hk;split at hx;case h_2=>cases hx
 rename_i sz ha;split at hx;·cases hx
 rename_i hb;split at hx;case h_2=>cases hx
 rename_i p hp;split at hx;case h_2=>cases hx
 rename_i y hg;split at hx;case isFalse=>cases hx
 rename_i hy;cases hx;obtain⟨hc,_,_,_⟩:=hT.kind ht;obtain⟨h1,h2,h3,h4,q,off',b,h5,h6,h7⟩:=h.place hp;refine⟨_,by rw[h7];exact zmf hc hk ha hb b off' S.w,?_⟩;rw[h2];exact h.refTo (q:=q) h1 h5 h4 h6
def twin_sound(h:InvOf P c σ a S){d:Nat}(hd:d<c.N){o:Operand}{us:Ups}(hx:twinU d (zar σ o)=some us):InvOf P c (upd us σ) (a.put (some d) (a.eval o)) S:=by
 unfold twinU at hx;cases o with
 |const v=>simp[zar]at hx
 |func f=>simp[zar]at hx
 |global g=>simp[zar]at hx
 |tmp s=>
  simp only[zar]at hx;split at hx;case h_2=>cases hx
  rename_i n u b m x he;cases hx;exact h.putview hd ⟨xag _,λt' m' x' hr' _=>by rw[he]at hr';cases hr';exact⟨trivial,λ_=>zbf a s,λh'=>by cases h'⟩⟩
def nil_sound(h:InvOf P c σ a S){fl ty d:Nat}(hd:d<c.N){o:Operand}{us:Ups}(hx:nilU T fl ty d (zar σ o)=some us):∃S1,S1.w=S.w/\InvOf P c (upd us σ) (a.put (some d) (a.eval o)) S1:=by
 unfold nilU at hx;split at hx;rotate_left;·cases hx;refine⟨S,rfl,h.put (.refl _) rfl rfl hd (λ_ _ _=>rfl) (λ_=>.inl rfl) ?_⟩;unfold SlotOK;rw[zbs];trivial
 ·cases hx
 rename_i ho;split at hx;case h_2=>cases hx
 rename_i i u ht;split at hx;case h_2=>cases hx
 rename_i e hk;split at hx;case isFalse=>cases hx
 rename_i ha;cases hx;have hv:a.eval o=.slice none 0 0:=by
  cases o with
  |const v=>simp only[zar,Opd.con.injEq]at ho;subst ho;rfl
  |tmp t=>simp[zar]at ho
  |func f=>simp[zar]at ho
  |global g=>simp[zar]at ho
 rw[hv];refine⟨{S with hv:=λz=>if z=(d,[])then .slice none 0 0 else S.hv z},rfl,?_⟩;refine h.put (S':={S with hv:=λz=>if z=(d,[])then .slice none 0 0 else S.hv z}) (.refl _) rfl rfl hd (λt ht q=>?_) (λ_=>.inl rfl) (.v (zbs σ d _ 0) ?_);·exact if_neg λhe=>ht (by cases he;rfl)
 ·rw[zak (by rw[h.size];exact hd)];refine⟨⟨xbx _,ha,?_,.inl ⟨if_pos rfl,rfl⟩⟩,λh=>by cases h⟩;show zab (.slice u) (.slice none 0 0) 0=some (if(d,[])=(d,[])then _ else _);rw[if_pos rfl];rfl
def cap_sound(h:InvOf P c σ a S){o:Operand}{x:Cap}(hx:capE (zar σ o)=some x):CapOK P S σ (a.eval o) x:=by
 unfold capE at hx;split at hx
 ·rename_i r π s ha;cases hx;cases o with
  |const v=>simp[zar,Opd.rb]at ha
  |func f=>simp[zar,Opd.rb]at ha
  |global g=>simp[zar,Opd.rb]at ha
  |tmp q=>
   simp only[zar,Opd.rb]at ha;split at ha;case h_2=>cases ha
   rename_i r' π' s' he;cases ha;have hs:=h.slots q;unfold SlotOK at hs;rw[he]at hs;rw[zbf];exact hs
 split at hx
 ·rename_i e he;cases hx;obtain⟨h1,b,off,h2,h3,p,h4⟩:=h.ro he;refine⟨?_,λh=>by cases h⟩;rw[h2];refine⟨b,off,by simp[zab,Ty.agg],λhs=>?_,?_⟩
  ·rcases h3 hs with h5|h5
   ·exact .inl h5
   ·exact .inr ⟨rfl,h5.2⟩
  ·have hl:=zdm h1 e.t;rcases h1 with h1|h1
   ·rw[h1]at h4 hl;exact(h4.weaken (leM_sh (.inr rfl) _)).fut (.inr rfl) ((Fut2.refl S).sh _) λ_ _=>rfl
   ·rw[h1]at h4;exact h4.fut (.inr rfl) ((Fut2.refl S).sh _) λ_ _=>rfl
 ·split at hx;case h_2=>cases hx
  rename_i p hp;cases hx;obtain⟨hr,hc,hπ,hb,q,off,b,h2,h3,h4⟩:=h.place hp;show RefOK S σ p.r p.π _ _;rw[hc,h4];exact h.refTo hr h2 hb h3
def caps_fit(h:InvOf P c σ a S):∀{xs:List Operand} {cs:List Cap},capsE (zar σ) xs=some cs->(xs.map a.eval).length=cs.length/\∀(k:Nat) (x:Cap),cs[k]?=some x->∃u,(xs.map a.eval)[k]?=some u/\CapOK P S σ u x
 | [],cs,hx=>by cases hx;exact⟨rfl,λk x hk=>by simp at hk⟩
 |o::xs,cs,hx=>by
  simp only[capsE]at hx;split at hx;case h_2=>cases hx
  rename_i x cs' h1 h2;cases hx;obtain⟨h3,h4⟩:=caps_fit h h2;refine⟨by simpa using h3,λk y hk=>?_⟩;cases k with
  |zero=>cases hk;exact⟨_,rfl,cap_sound h h1⟩
  |succ k=>exact h4 k y hk
def inj_sound{S:St}{xt:TypeId}{u:Ty}{x:u.den}{v:Value}:∀{t:Ty} {z:t.den} {p:Place},injE t xt u x=some z->(∀p,SR P u S .sh p x v)->t.agg=false/\Rel P t S .sh p z (λi=>if i=0 then some (.iface xt v)else none):=by
 intro t;induction t with
 |alt tid A B iha ihb=>
  intro z p hz hv;unfold injE at hz;split at hz;·rename_i he;subst he;simp only[xac]at hz;obtain⟨y,h1,rfl⟩:=hz;have:=TV.to_some h1;cases this;refine⟨rfl,v,rfl,(hv _).1,(hv p).2⟩
  ·split at hz;case isFalse=>cases hz
   rename_i hs;simp only[xac]at hz;obtain⟨y,h1,rfl⟩:=hz;exact⟨rfl,hs,(ihb h1 hv).2⟩
 |_=>intro z p hz _;simp[injE]at hz
def ifc_sound(h:InvOf P c σ a S)(hT:TabOK P T){t xt:TypeId}{o:Operand}{e:Ent}{ob:Bool}(hx:ifcE T t xt (zar σ o)=some (ob,e)) :
  (Instr.makeInterface xt (a.eval o)).run P S.w=.ok (.iface xt (a.eval o)) S.w/\zik P S σ (tmv a) e (.iface xt (a.eval o)):=by
 unfold ifcE at hx;split at hx;case h_2=>cases hx
 rename_i i0 tt i u h1 h2;split at hx;case h_2=>cases hx
 rename_i offs hk;split at hx;case h_2=>cases hx
 rename_i m x hv;split at hx;case isFalse=>cases hx
 rename_i hl;simp only[xac,xaw]at hx;obtain⟨z,h3,_,rfl⟩:=hx;obtain⟨j,d,hi,hd,_,_,_,ha⟩:=zbj (hT _ _ _ h2).1;rw[hk]at ha;refine⟨?_,rfl,(0,[]),?_⟩;·unfold Instr.makeInterface;rw[Sem.run_bind,run_underlying hd S.w];cases d<;>simp[tyK]at ha<;>rfl
 ·obtain⟨p,hp⟩:=h.val hv;have hs:=inj_sound (P:=P) (S:=S) (xt:=xt) (v:=a.eval o) (p:=(0,[])) h3 λp'=>⟨(hp.1.weaken hl).fut (.inl rfl) ((Fut2.refl S).sh _) λ_ _=>rfl,hp.2⟩;refine⟨?_,λh=>by rw[hs.1]at h;cases h⟩;unfold zab;rw[hs.1];exact hs.2
def injM_sound{S:St}{xt:TypeId}{u:Ty}{x:u.den}{v:Value}:∀{t:Ty} {m:Md} {z:t.den} {ρ:List Nat} {p:Place},atP ρ m≠ .dead->injE t xt u x=some z->injP t xt=some ρ->SR P u S (atP ρ m) (pa p ρ) x v->t.agg=false/\Rel P t S m p z (λi=>if i=0 then some (.iface xt v)else none):=by
 intro t;induction t with
 |alt tid a b iha ihb=>
  intro m z ρ p hM hz hρ hs;have hm:m≠ .dead:=λe=>hM (by rw[e,atP_dead]);unfold injE at hz;unfold injP at hρ;by_cases he:tid=xt;·rw[if_pos he]at hz hρ;subst he;cases hρ;simp only[xac]at hz;obtain⟨y,h1,rfl⟩:=hz;have:=TV.to_some h1;cases this;refine⟨rfl,?_⟩;rw[Rel.alt_inl hm];exact⟨v,by simp,hs.1,hs.2⟩
  ·rw[if_neg he]at hz hρ;split at hz;case isFalse=>cases hz
   rename_i hb;simp only[xac]at hz hρ;obtain⟨y,h1,rfl⟩:=hz;obtain⟨ρ',h2,rfl⟩:=hρ;obtain⟨_,h3⟩:=ihb (m:=m.r) (p:=px p 1) hM h1 h2 (by rw[zcp];exact hs);refine⟨rfl,?_⟩;rw[Rel.alt_inr hm];exact⟨hb,h3⟩
 |_=>intro m z ρ p hM hz;simp[injE]at hz
def ifcm_sound(h:InvOf P c σ a S)(hT:TabOK P T){M:Md}{t xt d:Nat}(hd:d<c.N){o:Operand}{us:Ups}(hx:ifcM T M t xt d (zar σ o)=some us) :
  (Instr.makeInterface xt (a.eval o)).run P S.w=.ok (.iface xt (a.eval o)) S.w/\∃S1,S1.w=S.w/\InvOf P c (upd us σ) (a.put (some d) (.iface xt (a.eval o))) S1:=by
 unfold ifcM at hx;cases o with
 |const v=>simp only[zar]at hx;cases hx
 |func f=>simp only[zar]at hx;cases hx
 |global g=>simp only[zar]at hx;cases hx
 |tmp s=>
  simp only[zar]at hx;split at hx;case h_2=>cases hx
  rename_i u e k x he;split at hx;case h_2=>cases hx
  rename_i i0 tt i u' h1 h2;split at hx;case h_2=>cases hx
  rename_i hk;split at hx;case isFalse=>cases hx
  rename_i hc;obtain⟨rfl,hf⟩:=hc;split at hx;case h_2=>cases hx
  rename_i ρ z h3 h4;split at hx;case isFalse=>cases hx
  rename_i hM;cases hx;obtain⟨j,dd,hi,hb,_,_,_,ha⟩:=zbj (hT _ _ _ h2).1;rw[hk]at ha;rw[zbf];refine⟨?_,mv S (s,[]) (d,ρ),rfl,?_⟩;·unfold Instr.makeInterface;rw[Sem.run_bind,run_underlying hb S.w];cases dd<;>simp[tyK]at ha<;>rfl
  ·have hs:=h.slot he;obtain⟨g1,g2⟩:=injM_sound (P:=P) (S:=mv S (s,[]) (d,ρ)) (m:=M) (v:=tmv a s) (p:=(d,[])) (by rw[hM];simp) h4 h3 (by rw[zbt,hM];exact hs.mono (.inl rfl) (mv_tr S _ _))
   refine h.moveIf hf hd ⟨?_,λhg=>by rw[g1]at hg;cases hg⟩;unfold zab;rw[g1];exact g2
def isNil_sound{S:St}:∀{t:Ty} {x:t.den} {m:Md} {p:Place} {cs:Cs},isI t=true->m=.sh\/m=.bw->Rel P t S m p x cs->if zir t x then cs 0=some .nilIface else∃tid v,cs 0=some (.iface tid v):=by
 intro t;induction t with
 |alt tid A B iha ihb=>
  intro x m p cs hi hM h;have hm:m≠ .dead:=by rcases hM with rfl|rfl<;>simp
  have hr:m.r=m:=by rcases hM with rfl|rfl<;>rfl
  cases x with
  |inl y=>rw[Rel.alt_inl hm]at h;obtain⟨v,h1,_⟩:=h;simp only[zir];exact⟨_,_,h1⟩
  |inr z=>rw[Rel.alt_inr hm,hr]at h;exact ihb hi hM h.2
 |nilI=>intro x m p cs hi hm h;simp only[zir,if_true];rcases hm with rfl|rfl<;>exact h
 |_=>intro x m p cs hi;simp[isI]at hi
def eqGuard_nil(o:BinOp)(t:TypeId)(x:Operand)(w:World):(eqGuard o t x (.const .nilIface) .nilIface .nilIface).run P w=.ok () w:=by cases o<;>cases x<;>rfl
def zzb(o:BinOp)(t:TypeId)(x:Operand)(tid:TypeId)(v:Value)(w:World):(eqGuard o t x (.const .nilIface) (.iface tid v) .nilIface).run P w=.ok () w:=by cases o<;>rfl
def isnil_sound(h:InvOf P c σ a S)(hT:TabOK P T){op:BinOp}{t:TypeId}{x:Operand}{e:Ent}{ob:Bool}(hx:isnilE T op t (zar σ x)=some (ob,e)) :
  ∃v,(do eqGuard op t x (.const .nilIface) (a.eval x) .nilIface;Go.binOp op t (a.eval x) .nilIface:Sem Value).run P S.w=.ok v S.w/\zik P S σ (tmv a) e v:=by
 unfold isnilE at hx;split at hx;case h_2=>cases hx
 rename_i i tt h1;split at hx;case h_2=>cases hx
 rename_i hk;split at hx;case isFalse=>cases hx
 rename_i hI;split at hx;case h_2=>cases hx
 rename_i m y hv;split at hx;case isFalse=>cases hx
 rename_i hm;obtain⟨j,d,hi,hd,_,_,_,ha⟩:=zbj (hT _ _ _ h1).1;rw[hk]at ha;have he:∃ms,d=.interface ms:=by cases d<;>simp[tyK]at ha;exact⟨_,rfl⟩
 obtain⟨ms,rfl⟩:=he;obtain⟨p,hp⟩:=h.val hv;have hf:tt.agg=false:=by cases tt<;>simp[isI]at hI<;>rfl
 have h2:=isNil_sound hI hm hp.1;have h3:zab tt (a.eval x) 0=some (a.eval x):=by unfold zab;rw[hf];rfl
 rw[h3]at h2;have hc:∀b:Bool,zik P S σ (tmv a) (.v .bool .sh b) (.bool b):=λb=>⟨rfl,(0,[]),SR.of_bool b⟩;have key:∃b:Bool,b=zir tt y/\(Op.equal t (a.eval x) .nilIface).run P S.w=.ok b S.w/\∀o,(eqGuard o t x (.const .nilIface) (a.eval x) .nilIface).run P S.w=.ok () S.w:=by
  cases hn:zir tt y with
  |true=>
   rw[hn]at h2;simp only[if_true,xaq]at h2;rw[h2];refine⟨true,rfl,?_,λo=>?_⟩;·exact(show∀n,(Op.equalIn (n+1) t _ _).run P S.w=_ from λn=>by unfold Op.equalIn;rw[Sem.run_bind,run_underlying hd S.w];rfl) 9999
   ·exact eqGuard_nil _ _ _ _
  |false=>
   rw[hn]at h2;simp only[xbb,xcg,xaq]at h2;obtain⟨tid,v,h2⟩:=h2;rw[h2];refine⟨false,rfl,?_,λo=>?_⟩;·exact(show∀n,(Op.equalIn (n+1) t _ _).run P S.w=_ from λn=>by unfold Op.equalIn;rw[Sem.run_bind,run_underlying hd S.w];rfl) 9999
   ·exact zzb _ _ _ _ _ _
 obtain⟨b,hb,h4,h5⟩:=key;have h6:∃tid v,a.eval x=.iface tid v\/a.eval x=.nilIface:=by
  split at h2;·exact⟨0,.nilIface,.inr (by simpa using h2)⟩
  ·obtain⟨tid,v,h2⟩:=h2;exact⟨tid,v,.inl (by simpa using h2)⟩
 split at hx;·cases hx;refine⟨.bool b,?_,by rw[<-hb];exact hc b⟩;rw[Sem.run_bind,h5];simp only[Result.andThen_ok];obtain⟨tid,v,h6|h6⟩:=h6<;>(rw[h6]at h4 ⊢;simp[Go.binOp,h4])
 ·cases hx;refine⟨.bool (!b),?_,by rw[<-hb];exact hc _⟩;rw[Sem.run_bind,h5];simp only[Result.andThen_ok];obtain⟨tid,v,h6|h6⟩:=h6<;>(rw[h6]at h4 ⊢;simp[Go.binOp,h4])
 ·cases hx
def mth_sound(h:InvOf P c σ a S){nm:String}{o:Operand}{e:Ent}{ob:Bool}(hx:mthE nm (zar σ o)=some (ob,e)):zik P S σ (tmv a) e (.func (.method nm) #[a.eval o] #[]):=by
 unfold mthE at hx;split at hx;case h_2=>cases hx
 rename_i t cc rt ho;split at hx;case h_2=>cases hx
 rename_i ty x hc;split at hx;case isFalse=>cases hx
 rename_i hl;simp only[xal]at hl;cases hx;cases o with
 |tmp s=>simp only[zar,Opd.slot.injEq]at ho;obtain⟨rfl,rfl,_⟩:=ho;have hs:=h.slot hc;refine⟨a.eval (.tmp s),rfl,?_⟩;rw[zbf];exact⟨(hs.1.weaken hl.2).fut (.inr rfl) ((Fut2.refl S).sh _) λ_ _=>rfl,hs.2⟩
 |const v=>simp[zar]at ho
 |func f=>simp[zar]at ho
 |global g=>simp[zar]at ho
def u8_range{n:Int}(h:IntKind.u8.wrap n=n):0<=n/\n<256:=by have:=zmi .u8 h;simp only[IntKind.min,IntKind.max,IntKind.bits,IntKind.signed]at this;simp at this;omega
def str_nums{xs:List Int}(h:∀x∈xs,0<=x/\x<256):(strOfNums xs).data.toList.map (λc=>(c.toNat:Int))=xs:=by
 rw[strOfNums_data,List.map_map];conv=>rhs;rw[<-List.map_id xs]
 refine xfx λx hx=>?_;have:=h x hx;show((UInt8.ofNat x.toNat).toNat:Int)=x;rw[UInt8.toNat_ofNat'];omega
def cvt_sound(h:InvOf P c σ a S)(hT:TabOK P T){s t:TypeId}{o:Operand}{e:Ent}(hx:cvtE T s t (zar σ o)=some e):∃v,(convert s t (a.eval o)).run P S.w=.ok v S.w/\zik P S σ (tmv a) e v:=by
 unfold cvtE at hx;split at hx;case h_2=>cases hx
 rename_i i1 i2 ht hr;split at hx;case h_2=>cases hx
 rename_i m xs hv;split at hx;case isFalse=>cases hx
 rename_i hm;cases hx;obtain⟨hw,hk⟩:=hm;obtain⟨hz,_,_,he⟩:=hT.kind ht;obtain⟨_,d1,_,hj,_,_,_,hy⟩:=zbj hz;obtain⟨e0,i0,hu,hp,_⟩:=zdx he;have:=zfz (hy.trans (xbr some hu));subst this;obtain⟨hg,_,_,hc⟩:=hT.kind hp;obtain⟨_,d0,_,hn,_,_,_,hq⟩:=zbj hg;have:=tyK_int (hq.trans (xbr some (zwh hc)));subst this;obtain⟨hf,_,_,hd⟩:=hT.kind hr;obtain⟨_,d2,_,hh,_,_,_,ho⟩:=zbj hf;have:=zos (ho.trans (xbr some (zph hd)));subst this;obtain⟨p,hs⟩:=h.val hv;have hl:=hs.1.1;have fin:∀b:ByteArray,b.data.toList.map (λc=>(c.toNat:Int))=xs->zik P S σ (tmv a) (.v .str .sh xs) (.string b):=λb hb=>
  ⟨rfl,(0,[]),⟨b,by simp[zab,Ty.agg],hb,hl⟩,λh=>by cases h⟩
 rcases rows_of hs hw with⟨hX,rfl⟩|⟨ad,hX,rfl⟩|⟨b,off,cap,hX,_,hel⟩
 ·exact⟨_,by rw[hX];exact run_convert_bytes_nil S.w s e0 hj hn 0 0 t hh,fin _ rfl⟩
 ·refine⟨.string ByteArray.empty,?_,fin _ rfl⟩;rw[hX,run_convert_bytes_string S.w s t e0 _ 0 0 hj hn hh];simp[Conv.bytesToString,loadCells,loadCellsFrom]
 ·have ha:∀i,i<xs.length->S.w.cell? ⟨b,off+i,none⟩=some (.int .u8 (xs.getD i 0))/\IntKind.u8.wrap (xs.getD i 0)=xs.getD i 0:=λi hi=>by
   obtain⟨q,h1⟩:=hel i hi;have e1:xs.getD i 0=xs[i]:=by rw[xad,xaj hi];rfl
   have h2:blk S.w b (off+i*Ty.size (.int .u8)) 0=some (.int .u8 xs[i])/\IntKind.u8.wrap xs[i]=xs[i]:=by rcases hk with hk|hk<;>rw[hk]at h1<;>exact h1
   rw[e1];refine⟨?_,h2.2⟩;have h3:=h2.1;unfold blk at h3;simpa[Ty.size]using h3
  refine⟨_,by rw[hX];exact run_convert_bytes_arg S.w s e0 hj hn b off _ cap xs rfl (λi hi=>(ha i hi).1) t hh,fin _ (str_nums λx hx=>?_)⟩;obtain⟨i,hi,rfl⟩:=xdi hx;have:=(ha i hi).2;rw[xad,xaj hi]at this;exact u8_range this
def zgr{d:Nat}{q:Option (Bool×Ent)}{ob:Bool}{us:Ups}(h:one d q=some (ob,us)):∃e,q=some (ob,e)/\us=[(d,e,0)]:=by simp only[one,xac,xaw]at h;obtain⟨⟨ob',e⟩,h1,rfl,rfl⟩:=h;exact⟨e,h1,rfl⟩
def zcn{q:Option Ups}{ob:Bool}{us:Ups}(h:sure q=some (ob,us)):q=some us:=by simp only[sure,xac,xaw]at h;obtain⟨us',h1,_,rfl⟩:=h;exact h1
def zni(h:InvOf P c σ a S)(hT:TabOK P T){o:Oper}{d:Nat}(hdst:o.dst=some d)(hd:d<c.N){ob:Bool}{us:Ups}(hx:one d (zfj T o (zar σ))=some (ob,us))(hob:ob=true):Does P o a S.w (Inv P c (upd us σ)):=by obtain⟨e,h1,rfl⟩:=zgr hx;obtain⟨v,h2,h3⟩:=step1_sound h hT h1 hob;exact⟨S.w,.inl ⟨v,h2,S,rfl,by rw[hdst];exact h.putE hd h3⟩⟩
def clear_sound(h:InvOf P c σ a S)(hT:TabOK P T){t ty:Nat}{o:Operand}{us:Ups}(hx:clearU T t (zar σ o)=some us) :
  ∃v w',(Builtin.clear_ #[t] ty #[a.eval o]).run P S.w=.ok v w'/\Inv P c (upd us σ) a w':=by
 unfold clearU at hx;split at hx;case h_2=>cases hx
 rename_i i k s0 c0 root ht ho;cases o with
 |const v=>simp[zar]at ho
 |func f=>simp[zar]at ho
 |global g=>simp[zar]at ho
 |tmp q=>
  simp only[zar,Opd.slot.injEq]at ho;obtain⟨rfl,rfl,rfl⟩:=ho;split at hx;case h_2=>cases hx
  rename_i e jf;split at hx;case h_2=>cases hx
  rename_i j jt jb;split at hx;case h_2=>cases hx
  rename_i z r s lo hz he;have je:zdj σ (σ q).e=σ r:=by rw[he];rfl
  rw[je]at hx;split at hx;case h_2=>cases hx
  rename_i k' e' M xs ha;split at hx;case isFalse=>cases hx
  rename_i hh;obtain⟨rfl,hl,jh⟩:=hh;cases hx;obtain⟨jl,_,_,h6⟩:=hT.kind ht;obtain⟨_,d1,_,hp,_,_,_,jk⟩:=zbj jl;have:=zfz (jk.trans (xbr some jf));subst this;obtain⟨hq,_,_,_⟩:=hT.kind jb;obtain⟨j',d',hd,jn,ja,_,_,_⟩:=zbj hq;have jj:=zdd (P:=P) (S:=S) (p:=(0,[])) hz;obtain⟨jd,jg⟩:=jj.int_inv (by simp);have hn:=h.slot ha;have hy:=h.hdr ha;have h9:r<a.tmps.size:=by
   rcases xeo r a.tmps.size with h'|h'
   ·exact h'
   ·exfalso;have:tmv a r=undef:=by unfold tmv;rw[xfe,xfz h'];rfl
    rw[hy]at this;rcases hn.1.2.2.2 with⟨q1,_⟩|⟨g,cap,cur,q1,_⟩<;>rw[q1]at this<;>cases this
  have hs:=h.slots q;unfold SlotOK at hs;rw[he]at hs;obtain⟨_,hs⟩:=hs;obtain⟨u,hu,hc⟩:=hs _ _ _ ha hl;cases hu;have h5:r<c.N:=by rw[<-h.size];exact h9
  have h4:∀(w':World),InvOf P c (zdv σ r (.v (.slice (.int k')) (.own e' M) ((xs:List Int).take lo++List.replicate ((xs:List Int).length-lo) (z:Int))) 0) (a.put (some r) (S.hv (r,[])))=InvOf P c (zdv σ r (.v (.slice (.int k')) (.own e' M) ((xs:List Int).take lo++List.replicate ((xs:List Int).length-lo) (z:Int))) 0) a:=λ_=>by rw[<-hy,zya]
  rcases hn.1.2.2.2 with⟨q1,q2⟩|⟨g,cap,cur,q1,q2,q3,q4,q5,q6,q7⟩
  ·rcases hc with⟨A,A',c1,c2,h1,h2⟩|⟨g,n,c1,c2,h1,_⟩
   ·rw[q1]at h2;cases h2;refine⟨.tuple #[],S.w,?_,?_⟩;·rw[zbf,h1];cases A<;>simp[Builtin.clear_,run_underlying hp]
    ·obtain⟨S',e1,_,_,e2⟩:=h.regrow h5 ha (zs:=(xs:List Int).take 0++List.replicate ((xs:List Int).length-0) (z:Int)) (w':=S.w) (v':=.slice none 0 0) ⟨rfl,rfl,rfl,xag _,λ_ _ _=>rfl⟩ (λb hb=>by cases hb) (cs:=[]) (by rw[q2];exact World.ownsRow_nil _ _ _ _) (by rw[q2];exact xbx _) (λS' _ _ _ i hi=>by rw[q2]at hi;simp at hi);rw[<-q1,h4 S.w]at e2;exact⟨S',e1,e2⟩
   ·rw[q1]at h1;cases h1
  ·have jo:lo<=(xs:List Int).length:=by
    rcases hc with⟨_,_,_,_,_,h2⟩|⟨_,n,_,_,h2,h3,_⟩
    ·rw[q1]at h2;cases h2;exact xag _
    ·rw[q1]at h2;cases h2;omega
   have h8:cur.size=cap:=by simpa[Ty.size]using q6
   have hg:((xs:List Int).take lo++List.replicate ((xs:List Int).length-lo) (z:Int)).length=(xs:List Int).length:=by rw[xbo,xax,xbq];omega
   have key:∀(w':World) (cur':Array Value),w'.heap[g]?=some (.cells cur' e' (0,0))->cur'.size=cur.size->S.w.grownBy w' (some g)->(∀i,i<lo->cur'[i]?=cur[i]?)->(∀i,lo<=i->i<(xs:List Int).length->cur'[i]?=some (.int k' z)) ->
     Inv P c (zdv σ r (.v (.slice (.int k')) (.own e' M) ((xs:List Int).take lo++List.replicate ((xs:List Int).length-lo) (z:Int))) 0) a w':=λw' cur' k1 k2 k3 k4 k5=>by
    obtain⟨S',e1,_,_,e2⟩:=h.regrow h5 ha (zs:=(xs:List Int).take lo++List.replicate ((xs:List Int).length-lo) (z:Int)) (w':=w') (v':=.slice (some ⟨g,0,none⟩) (xs:List Int).length cap) (by rw[q1];exact k3) (λb hb=>.inl (by rw[q1];exact hb)) (cs:=cur'.toList.take (xs:List Int).length)
     ⟨by rw[xax,hg];have jm:cur'.toList.length=cur'.size:=xcj;simp only[Ty.size,xea];omega,.inr ⟨g,cap,cur',by rw[hg],xbx _,k1,by rw[hg];exact q4,q5,by rw[k2,h8];simp[Ty.size],by rw[hg];simp[Ty.size]⟩⟩ (by rw[hg];exact hn.1.1) (λS' hw' htr hf i hi=>by
      have hd:i<(xs:List Int).length:=by rw[hg]at hi;exact hi
      by_cases hil:i<lo
      ·have hr:((xs:List Int).take lo++List.replicate ((xs:List Int).length-lo) (z:Int))[i]=(xs:List Int)[i]:=by rw[List.getElem_append_left (by rw[xax];omega),xgj]
       rw[hr];have h0:=q7 i hd;refine h0.mono (q:=true) (.inl rfl) ((htr [i]).resolve_right (by simp)) λj hj=>?_;have ji:j=0:=by simp only[Ty.size]at hj;omega
       subst ji;simp only[Ty.size,xea,xdl];rw[xdv,if_pos hd,xbe,k4 i hil]
      ·have hr:((xs:List Int).take lo++List.replicate ((xs:List Int).length-lo) (z:Int))[i]=z:=by rw[List.getElem_append_right (by rw[xax];omega),xjm]
       rw[hr];have h0:Rel P (.int k') S' .sh (r,[i]) z (λj=>(cur'.toList.take (xs:List Int).length)[i*Ty.size (.int k')+j]?):=by refine⟨?_,jg⟩;simp only[Ty.size,xea,xdl];rw[xdv,if_pos hd,xbe,k5 i (by omega) hd]
       exact h0.weaken jh)
    rw[<-q1,h4 w']at e2;exact⟨S',e1,e2⟩
   rcases hc with⟨A,A',c1,c2,h1,h2⟩|⟨g',n,c1,c2,h1,h2,h3⟩
   ·rw[q1]at h2;cases h2;refine⟨.tuple #[],S.w,?_,?_⟩;·rw[zbf,h1];cases A<;>simp[Builtin.clear_,run_underlying hp]
    ·exact key S.w cur q3 rfl ⟨rfl,rfl,rfl,xag _,λ_ _ _=>rfl⟩ (λ_ _=>rfl) λi h1 h2=>absurd h2 (by omega)
   ·rw[q1]at h1;cases h1;have jc:(xs:List Int).length-lo≠0:=by omega
    have h7:(Builtin.zeroCells j.zero.cells ((xs:List Int).length-lo)).toList=List.replicate ((xs:List Int).length-lo) (.int k' z):=by
     rw[jd];apply xhk;·simp[Builtin.zeroCells,Value.cells]
     ·intro i h1 h2;simp[Builtin.zeroCells,Value.cells,Nat.mod_one]
    have hw:=run_storeCells_at P g lo e' (List.replicate ((xs:List Int).length-lo) (.int k' z)) 0 cur S.w q3 (by rw[xbq];omega) (λv hv=>by rw[xem hv];rfl);simp only[xdl,xbq]at hw;refine⟨.tuple #[],_,?_,key _ (cur.toList.take lo++List.replicate ((xs:List Int).length-lo) (Value.int k' z)++cur.toList.drop (lo+((xs:List Int).length-lo))).toArray (setRow_heap S.w g cur _ e' _ q3) ?_ ⟨rfl,rfl,rfl,by simp,λk _ hk=>setRow_other S.w g k _ (λe=>hk (by rw[e]))⟩ ?_ ?_⟩
    ·rw[zbf,h3];have e1:lo*Ty.size (.int k')=lo:=by simp[Ty.size]
     rw[e1];obtain⟨m,hm⟩:∃m,(xs:List Int).length-lo=m+1:=⟨(xs:List Int).length-lo-1,by omega⟩;rw[hm]at hw h7 ⊢;simp[Builtin.clear_,run_underlying hp,zeroValue,typeInfo,hd,ja,h7,hw]
    ·simp only[xeh,xbo,xax,xeq,xbq,xcj];omega
    ·intro i hi;rw[List.getElem?_toArray,xbv,xfl (by rw[xax,xcj];omega),xdv,if_pos hi,xbe]
    ·intro i hi hd;rw[List.getElem?_toArray,xbv,xde (by rw[xax,xcj];omega),xfl (by rw[xbq,xax,xcj];omega),xhv,if_pos (by rw[xax,xcj];omega)]
def step_does(h:InvOf P c σ a S)(hT:TabOK P T){fl:Nat}{o:Oper}{ob:Bool}{us:Ups}(hN:within c.N o=true)(hx:zlm T fl o (zar σ)=some (ob,us))(hob:ob=true):Does P o a S.w (Inv P c (upd us σ)):=by
 obtain⟨dst,op,type,pos,after,guard⟩:=o;unfold zlm at hx;simp only at hx;cases dst with
 |none=>
  simp only at hx;split at hx;case h_3=>cases hx
  ·rename_i t x y;obtain⟨w',h1,h2⟩:=store_sound h hT (zcn hx);refine⟨w',.inr ⟨?_,h2⟩⟩;simp only[execOp,Sem.run_bind,h1,Result.andThen_ok,Sem.run_pure]
  ·rename_i x t;obtain⟨v,w',h1,h2⟩:=clear_sound (ty:=type) h hT (zcn hx);refine⟨w',.inl ⟨v,?_,h2⟩⟩;simp[execOp,resolve,invoke,builtin,h1]
 |some d=>
  have hd:d<c.N:=by simpa[within]using hN
  simp only at hx;split at hx
  ·rename_i x;split at hx;·obtain⟨S1,h1,h2⟩:=nil_sound h hd (zcn hx);exact⟨S.w,.inl ⟨_,rfl,S1,h1,h2⟩⟩
   ·obtain⟨S1,h1,_,_,h2⟩:=zuj h hd (zcn hx);exact⟨S.w,.inl ⟨_,rfl,S1,h1,h2⟩⟩
  ·rename_i t x f;split at hx;·obtain⟨e,h1,rfl⟩:=zgr hx;simp only[xac,xaw]at h1;obtain⟨e',h2,_,rfl⟩:=h1;obtain⟨v,h3,h4⟩:=keep_sound h hT h2;refine⟨S.w,.inl ⟨v,?_,S,rfl,h.putE hd h4⟩⟩;simp only[execOp,Sem.run_bind,h3,Result.andThen_ok,Sem.run_pure]
   ·exact zni h hT rfl hd hx hob
  ·rename_i x;split at hx;·obtain⟨e,h1,rfl⟩:=zgr hx;simp only[xac,xaw]at h1;obtain⟨e',h2,_,rfl⟩:=h1;exact⟨S.w,.inl ⟨_,rfl,S,rfl,h.putE hd (down_sound h h2)⟩⟩
   split at hx;·exact⟨S.w,.inl ⟨_,rfl,S,rfl,twin_sound h hd (zcn hx)⟩⟩
   split at hx;·obtain⟨S1,h1,h2⟩:=nil_sound h hd (zcn hx);exact⟨S.w,.inl ⟨_,rfl,S1,h1,h2⟩⟩
   ·split at hx;·obtain⟨S1,h1,_,_,h2⟩:=zuj h hd (zcn hx);exact⟨S.w,.inl ⟨_,rfl,S1,h1,h2⟩⟩
    ·exact zni h hT rfl hd hx hob
  ·rename_i t x;split at hx;·obtain⟨v,h1,h2⟩:=loadM_sound h hT hd (zcn hx);refine⟨S.w,.inl ⟨v,?_,h2⟩⟩;simp only[execOp,Sem.run_bind,h1,Result.andThen_ok,Sem.run_pure]
   ·exact zni h hT rfl hd hx hob
  ·rename_i t;split at hx;·obtain⟨v,w',h1,h2⟩:=allocN_sound h hT hd (zcn hx);refine⟨w',.inl ⟨v,?_,h2⟩⟩;simp only[execOp,Sem.run_bind,h1,Result.andThen_ok,Sem.run_pure]
   ·obtain⟨v,w',h1,h2⟩:=alloc_sound h hT hd (zcn hx);refine⟨w',.inl ⟨v,?_,h2⟩⟩;simp only[execOp,Sem.run_bind,h1,Result.andThen_ok,Sem.run_pure]
  ·rename_i t x;split at hx;·obtain⟨v,w',h1,h2⟩:=rbox_sound (t:=t) h hd (zcn hx);refine⟨w',.inl ⟨v,?_,h2⟩⟩;simp only[execOp,Sem.run_bind,h1,Result.andThen_ok,Sem.run_pure]
   ·obtain⟨v,w',h1,h2⟩:=boxX_sound h hd (zcn hx);refine⟨w',.inl ⟨v,?_,h2⟩⟩;simp only[execOp,Sem.run_bind,h1,Result.andThen_ok,Sem.run_pure]
  ·rename_i x y t u;split at hx;·rename_i ha;subst ha;obtain⟨v,w',h1,h2⟩:=app_sound (rt:=type) h hT hd hx hob;refine⟨w',.inl ⟨v,?_,h2⟩⟩;simp[execOp,resolve,invoke,builtin,h1]
   ·cases hx
  ·rename_i t x y;obtain⟨v,w',h1,h2⟩:=make_sound h hT hd hx hob;refine⟨w',.inl ⟨v,?_,h2⟩⟩;simp only[execOp,Sem.run_bind,h1,Result.andThen_ok,Sem.run_pure]
  ·rename_i t n ps;obtain⟨v,w',h1,h2⟩:=lit_sound h hT hd (zcn hx);refine⟨w',.inl ⟨v,?_,h2⟩⟩;simp only[execOp,Sem.run_bind,h1,Result.andThen_ok,Sem.run_pure]
  ·rename_i t ps;split at hx;·obtain⟨v,h1,h2⟩:=buildN_sound h hT hd (zcn hx);refine⟨S.w,.inl ⟨v,?_,h2⟩⟩;simp only[execOp,Sem.run_bind,h1,Result.andThen_ok,Sem.run_pure]
   ·obtain⟨e,h1,rfl⟩:=zgr hx;simp only[xac,xaw]at h1;obtain⟨e',h2,_,rfl⟩:=h1;obtain⟨v,h3,h4⟩:=build_sound h hT h2;refine⟨S.w,.inl ⟨v,?_,S,rfl,h.putE hd h4⟩⟩;simp only[execOp,Sem.run_bind,h3,Result.andThen_ok,Sem.run_pure]
  ·rename_i t x lo hi;obtain⟨v,h1,h2⟩:=slice_sound h hT hd hx hob;refine⟨S.w,.inl ⟨v,?_,h2⟩⟩;simp only[execOp,Sem.run_bind,xil,h1,Result.andThen_ok,Sem.run_pure]
  ·rename_i x i;obtain⟨v,h1,h2⟩:=ext_sound h hd (zcn hx);refine⟨S.w,.inl ⟨v,?_,h2⟩⟩;simp only[execOp,Sem.run_bind,h1,Result.andThen_ok,Sem.run_pure]
  ·rename_i f xs;obtain⟨e,h1,rfl⟩:=zgr hx;simp only[xac,xaw]at h1;obtain⟨cs,h2,_,rfl⟩:=h1;obtain⟨h3,h4⟩:=caps_fit h h2;refine⟨S.w,.inl ⟨.func (.func f) #[] (xs.map a.eval).toArray,?_,S,rfl,h.putE hd ⟨xs.map a.eval,rfl,h3,h4⟩⟩⟩;simp[execOp,Instr.makeFunc]
  ·rename_i nm x;obtain⟨e,h1,rfl⟩:=zgr hx;refine⟨S.w,.inl ⟨.func (.method nm) #[a.eval x] #[],?_,S,rfl,h.putE hd (mth_sound h h1)⟩⟩;simp[execOp,Instr.makeFunc]
  ·split at hx;·obtain⟨h2,S1,h3,h4⟩:=ifcm_sound h hT hd (zcn hx);refine⟨S.w,.inl ⟨_,?_,S1,h3,h4⟩⟩;simp only[execOp,Sem.run_bind,h2,Result.andThen_ok,Sem.run_pure]
   obtain⟨e,h1,rfl⟩:=zgr hx;obtain⟨h2,h3⟩:=ifc_sound h hT h1;refine⟨S.w,.inl ⟨_,?_,S,rfl,h.putE hd h3⟩⟩;simp only[execOp,Sem.run_bind,h2,Result.andThen_ok,Sem.run_pure]
  ·rename_i bo t x u;obtain⟨e,h1,rfl⟩:=zgr hx;obtain⟨v,h2,h3⟩:=isnil_sound h hT h1;refine⟨S.w,.inl ⟨v,?_,S,rfl,h.putE hd h3⟩⟩;have h4:a.eval (.const .nilIface)=.nilIface:=rfl;simp only[execOp,h4];rw[Sem.run_bind,h2];rfl
  ·rename_i s t x;split at hx;·rename_i e he;obtain⟨e',h1,rfl⟩:=zgr hx;simp only[xaq,xaw]at h1;obtain⟨_,rfl⟩:=h1;obtain⟨v,h2,h3⟩:=cvt_sound h hT he;refine⟨S.w,.inl ⟨v,?_,S,rfl,h.putE hd h3⟩⟩;simp only[execOp,Sem.run_bind,h2,Result.andThen_ok,Sem.run_pure]
   ·exact zni h hT rfl hd hx hob
  ·exact zni h hT rfl hd hx hob
end
end Go.X
