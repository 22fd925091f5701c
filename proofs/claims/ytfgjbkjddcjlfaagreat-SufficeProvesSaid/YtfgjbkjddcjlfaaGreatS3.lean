/- Part 3 of what stands below the statement. -/
import Derived.Laws.BytesArg
import Derived.Test.YtfgjbkjddcjlfaaGreatS2
set_option linter.defProp false
set_option linter.unusedSimpArgs false
set_option linter.unusedVariables false
namespace Go.X
open Go Go.RowKit
inductive PM where
 |bw | sh | give (m:Md) | io (m:Md)
 deriving DecidableEq
def PM.md:PM→Md
 | .bw=>.bw
 | .sh=>.sh
 | .give m=>m
 | .io m=>m
structure Sig where
 ps:List (Ty×PM)
 rs:List (Ty×Md)
@[reducible] def zfo:List (Ty×PM)→List (Ty×Md)
 | []=>[]
 |(t,.io m)::r=>(t,m)::zfo r
 |(_,.bw)::r=>zfo r
 |(_,.sh)::r=>zfo r
 |(_,.give _)::r=>zfo r
@[reducible] def Vals:List Ty→Type
 | []=>Unit
 |t::ts=>t.den×Vals ts
@[reducible] def Arr:List Ty→Type→Type
 | [],r=>r
 |t::ts,r=>t.den→Arr ts r
def app{r:Type}:(ts:List Ty)→Arr ts r→Vals ts→r
 | [],f,_=>f
 |_::ts,f,x=>app ts (f x.1) x.2
@[reducible] def Ret:List Ty→Type
 | []=>Unit
 | [t]=>t.den
 |t::s::ts=>t.den×Ret (s::ts)
def Ret.vals:(ts:List Ty)→Ret ts→Vals ts
 | [],_=>()
 | [_],x=>(x,())
 |_::s::ts,x=>(x.1,Ret.vals (s::ts) x.2)
@[reducible] def tys:List (Ty×Md)→List Ty
 | []=>[]
 |p::r=>p.1::tys r
@[reducible] def ptys:List (Ty×PM)→List Ty
 | []=>[]
 |p::r=>p.1::ptys r
@[reducible] def Sig.res(s:Sig):List Ty:=tys s.rs++tys (zfo s.ps)
def tms:(l:List (Ty×Md))→Vals (tys l)→List TM
 | [],_=>[]
 |(t,m)::l,x=>⟨t,m,x.1⟩::tms l x.2
def ptms:(l:List (Ty×PM))→Vals (ptys l)→List TM
 | [],_=>[]
 |(t,m)::l,x=>⟨t,m.md,x.1⟩::ptms l x.2
def zqz:(a b:List Ty)→Vals (a++b)→Vals a×Vals b
 | [],_,x=>((),x)
 |_::a,b,x=>((x.1,(zqz a b x.2).1),(zqz a b x.2).2)
def outTM:Nat→(l:List (Ty×PM))→Vals (tys (zfo l))→List (Nat×TM)
 |_,[],_=>[]
 |k,(t,.io m)::r,x=>(k,⟨t,m,x.1⟩)::outTM (k+1) r x.2
 |k,(_,.bw)::r,x=>outTM (k+1) r x
 |k,(_,.sh)::r,x=>outTM (k+1) r x
 |k,(_,.give _)::r,x=>outTM (k+1) r x
def Sig.resTM(s:Sig)(y:Ret s.res):List TM:=tms s.rs (zqz _ _ (Ret.vals _ y)).1
def Sig.outTM(s:Sig)(y:Ret s.res):List (Nat×TM):=Go.X.outTM 0 s.ps (zqz _ _ (Ret.vals _ y)).2
structure Frm(S S':St):Prop where
 F:∀b,S.F b→S'.F b
 B:S'.B=S.B
 shared:∀b,S'.F b→S'.own b=none∧b<S'.w.heap.size∧(S.F b∨S.w.heap.size≤b∨S.own b≠none)
 lent:∀b,S.B b→S'.own b=none
 owned:∀b p,S'.own b=some p→b<S'.w.heap.size∧(S.w.heap.size≤b∨S.own b≠none)
 os:S'.w.os=S.w.os
 tape:S'.w.tape=S.w.tape
 output:S'.w.output=S.w.output
 size:S.w.heap.size≤S'.w.heap.size
 kept:∀b,b<S.w.heap.size→S.own b=none→S'.w.heap[b]?=S.w.heap[b]?
def zxb(P:Program)(S:St)(rs:List TM)(v:Value):Prop:=
 match rs with
 | [e]=>SR P e.t S e.m (0,[0]) e.x v
 |rs=>∃us,v=.tuple us∧us.size=rs.length∧∀(k:Nat) (e:TM),rs[k]?=some e→∃u,us[k]?=some u∧SR P e.t S e.m (0,[k]) e.x u
def Sim(P:Program)(f:FuncId)(sg:Sig)(den:Arr (ptys sg.ps) (Option (Ret sg.res))):Prop:=
 zcf P f∧∀(xs:Vals (ptys sg.ps)) (y:Ret sg.res),app _ den xs=some y→∀(S:St),S.WF→∀(vs:List Value),vs.length=(ptms sg.ps xs).length →
  (∀(i:Nat) (e:TM),(ptms sg.ps xs)[i]?=some e→∃v,vs[i]?=some v∧SR P e.t S e.m (i,[]) e.x v) →
  Calls P f vs.toArray S.w fun e w'=>∃v S',e=.returned v∧S'.w=w'∧Frm S S'∧zxb P S' (sg.resTM y) v ∧
   ∀(k:Nat) (e:TM),(k,e)∈sg.outTM y→∃u,vs[k]?=some u∧SR P e.t S' e.m (k+1,[]) e.x u
structure FnE(P:Program) where
 f:FuncId
 sg:Sig
 den:Arr (ptys sg.ps) (Option (Ret sg.res))
 ok:Sim P f sg den
def MSim(P:Program)(nm:String)(sg:Sig)(den:Arr (ptys sg.ps) (Option (Ret sg.res))):Prop:=
 ∀(xs:Vals (ptys sg.ps)) (y:Ret sg.res),app _ den xs=some y→∀(S:St),S.WF→∀(vs:List Value),vs.length=(ptms sg.ps xs).length →
  (∀(i:Nat) (e:TM),(ptms sg.ps xs)[i]?=some e→∃v,vs[i]?=some v∧SR P e.t S e.m (i,[]) e.x v) →
  ∃f us,(∀w,(invoke (.fn (.method nm) #[]) vs.toArray).run P w=.ok (.enter f us) w) ∧
  Calls P f us S.w fun e w'=>∃v S',e=.returned v∧S'.w=w'∧Frm S S'∧zxb P S' (sg.resTM y) v ∧
   ∀(k:Nat) (e:TM),(k,e)∈sg.outTM y→∃u,vs[k]?=some u∧SR P e.t S' e.m (k+1,[]) e.x u
def AheadI(P:Program)(nm:String):Ty→Prop
 | .alt tid _ b=>(∀v w,(nilAhead (P.types.size+Made.depth) tid v nm).run P w=.ok (some false) w)∧AheadI P nm b
 | .nilI=>True
 |_=>False
structure MeE(P:Program) where
 nm:String
 t:Ty
 ahead:AheadI P nm t
 sg:Sig
 den:Arr (ptys sg.ps) (Option (Ret sg.res))
 ok:MSim P nm sg den
def zdq(xs:List Int):List Int:=xs.mergeSort fun x y=>decide (x≤y)
structure SqE(P:Program) where
 fv:FuncId
 g:FuncId
 fs:FuncId
 e:TypeId
 entV:zcf P fv
 entS:zcf P fs
 vals:∀(w:World) (A:Option Addr) (len cap:Nat),Calls P fv #[.slice A len cap] w fun x w'=>∃Bs,x=.returned (.func (.func g) #[] #[.pointer (some ⟨Bs,0,none⟩)])∧Ext w w'∧w.heap.size≤Bs∧Bs<w'.heap.size ∧
  w'.cell? ⟨Bs,0,none⟩=some (.slice A len cap)
 sorts:∀(w:World) (Bs Bo:Nat) (A:Option Addr) (cap:Nat) (xs:List Int),xs.length≤4294967296→Bs<w.heap.size→w.cell? ⟨Bs,Bo,none⟩=some (.slice A xs.length cap) →
  (xs=[]∨∃b o,A=some ⟨b,o,none⟩∧b<w.heap.size∧∀(i:Nat) (h:i<xs.length),w.cell? ⟨b,o+i,none⟩=some (.int .i64 xs[i])) →
  Calls P fs #[.func (.func g) #[] #[.pointer (some ⟨Bs,Bo,none⟩)]] w fun x w'=>∃v,x=.returned v∧Ext w w'∧((v=.slice none 0 0∧xs=[])∨∃gb k cur,v=.slice (some ⟨gb,0,none⟩) xs.length k∧w.heap.size≤gb ∧
   w'.heap[gb]?=some (.cells cur e (0,0))∧xs.length≤k∧k≤maxLen∧cur.size=k∧∀(i:Nat) (h:i<(zdq xs).length),cur[i]?=some (.int .i64 (zdq xs)[i]))
structure PreE(P:Program) where
 f:FuncId
 k:IntKind
 g:List Int→Nat
 ent:zcf P f
 spec:∀(w:World) (A:Option Addr) (cap:Nat) (xs:List Int),xs.length≤4294967296→xs.length≤cap→(∀n∈xs,k.wrap n=n) →
  ((xs=[]∧cap=0)∨∃b o,A=some ⟨b,o,none⟩∧∀(i:Nat) (h:i<xs.length),w.cell? ⟨b,o+i,none⟩=some (.int k xs[i])) →
  Calls P f #[.slice A xs.length cap] w fun e w'=>w'=w∧g xs≤xs.length∧((e=.returned (.slice none 0 0)∧g xs=0)∨e=.returned (.slice A (g xs) cap))
inductive TgE(P:Program) where
 |fn (e:FnE P) | me (e:MeE P) | sq (e:SqE P) | pre (e:PreE P)
def zwq{P:Program}:List (TgE P)→FuncId→Option (FnE P)
 | [],_=>none
 | .fn e::r,f=>if f=e.f then some e else zwq r f
 | .me _::r,f=>zwq r f
 | .sq _::r,f=>zwq r f
 | .pre _::r,f=>zwq r f
def findM{P:Program}:List (TgE P)→String→Option (MeE P)
 | [],_=>none
 | .fn _::r,f=>findM r f
 | .me e::r,f=>if f=e.nm then some e else findM r f
 | .sq _::r,f=>findM r f
 | .pre _::r,f=>findM r f
def findS{P:Program}:List (TgE P)→Option (SqE P)
 | []=>none
 | .fn _::r=>findS r
 | .me _::r=>findS r
 | .pre _::r=>findS r
 | .sq e::_=>some e
def findP{P:Program}:List (TgE P)→FuncId→Option (PreE P)
 | [],_=>none
 | .fn _::r,f=>findP r f
 | .me _::r,f=>findP r f
 | .sq _::r,f=>findP r f
 | .pre e::r,f=>if f=e.f then some e else findP r f
def findP_f{P:Program}{l:List (TgE P)}{f:FuncId}{e:PreE P}(h:findP l f=some e):e.f=f:=by
 induction l with
 |nil=>cases h
 |cons x l ih=>
  cases x with
  |me e=>exact ih h
  |sq e=>exact ih h
  |fn e=>exact ih h
  |pre e=>
   unfold findP at h
   split at h
   ·rename_i hf;cases h;exact hf.symm
   ·exact ih h
def findF_f{P:Program}{l:List (TgE P)}{f:FuncId}{e:FnE P}(h:zwq l f=some e):e.f=f:=by
 induction l with
 |nil=>cases h
 |cons x l ih=>
  cases x with
  |me e=>exact ih h
  |sq e=>exact ih h
  |pre e=>exact ih h
  |fn e=>
   unfold zwq at h
   split at h
   ·rename_i hf;cases h;exact hf.symm
   ·exact ih h
def findM_nm{P:Program}{l:List (TgE P)}{f:String}{e:MeE P}(h:findM l f=some e):e.nm=f:=by
 induction l with
 |nil=>cases h
 |cons x l ih=>
  cases x with
  |fn e=>exact ih h
  |sq e=>exact ih h
  |pre e=>exact ih h
  |me e=>
   unfold findM at h
   split at h
   ·rename_i hf;cases h;exact hf.symm
   ·exact ih h
def capTM(σ:Env):Cap→Option TM
 | .ref r π s=>match(σ r).e with
  | .v tr mr xr=>if genB (σ r) tr π s then match zbe π tr mr,getP π tr xr with
   |some k,some y=>if live y.t k then some ⟨y.t,.bw,y.x⟩else none
   |_,_=>none else none
  |_=>none
 | .val e=>match e with
  |⟨.ptr u,_,x⟩=>some ⟨u,.bw,x⟩
  |_=>none
def zpi(σ:Env):List Cap→Option (List TM)
 | []=>some []
 |c::r=>match capTM σ c,zpi σ r with
  |some e,some es=>some (e::es)
  |_,_=>none
def zia(σ:Env):Operand→Option (Nat×List TM)
 | .func f=>some (f,[])
 | .tmp t=>match(σ t).e with
  | .clo f caps=>(zpi σ caps).map fun es=>(f,es)
  |_=>none
 |_=>none
def zek:List Cap→List Nat
 | []=>[]
 | .ref r _ _::c=>r::zek c
 | .val _::c=>zek c
def zcn:(ps:List (Ty×PM))→List TM→Option (Vals (ptys ps))
 | [],[]=>some ()
 |(.ptr u,.bw)::ps,e::es=>match(TV.to ⟨e.t,e.x⟩ u),zcn ps es with
  |some x,some xs=>some ((x,xs):u.den×Vals (ptys ps))
  |_,_=>none
 |_,_=>none
def castR{r' r:Ty}{o:List (Ty×Md)}(h:r'=r)(ho:o=[])(y:Option (Ret ([r']++tys o))):Option r.den:=by
 subst h;subst ho;exact y
def fnVal1{P:Program}(FT:List (TgE P))(a r:Ty)(q:Option (Nat×List TM)):Option (a.den→Option r.den):=
 match q with
 |some (f,es)=>match zwq FT f with
  |some ⟨_,⟨(a',.bw)::ps,[(r',.sh)]⟩,den,_⟩=>
   if h:a'=a∧r'=r∧zfo ps=[]∧r.flat=true then
    match zcn ps es with
    |some cs=>some fun x=>castR h.2.1 h.2.2.1 (app (ptys ps) (den (h.1▸x)) cs:Option (Ret ([r']++tys (zfo ps))))
    |none=>none
   else none
  |_=>none
 |none=>none
def fnVal2{P:Program}(FT:List (TgE P))(a b r:Ty)(q:Option (Nat×List TM)):Option (a.den→b.den→Option r.den):=
 match q with
 |some (f,es)=>match zwq FT f with
  |some ⟨_,⟨(a',.bw)::(b',.bw)::ps,[(r',.sh)]⟩,den,_⟩=>
   if h:a'=a∧b'=b∧r'=r∧zfo ps=[]∧r.flat=true then
    match zcn ps es with
    |some cs=>some fun x y=>castR h.2.2.1 h.2.2.2.1 (app (ptys ps) (den (h.1▸x) (h.2.1▸y)) cs:Option (Ret ([r']++tys (zfo ps))))
    |none=>none
   else none
  |_=>none
 |none=>none
structure Gv where
 r:Nat
 π:List Nat
 t:Ty
 m:Md
 x:t.den
 u:Ty
 k:Md
 io:Bool
structure ArgR(t:Ty) where
 x:t.den
 g:Option Gv
 lr:List Nat
def Opd.roots(o:Opd):List Nat:=
 match o with
 | .slot s c _=>match c.e with
  | .v _ m _=>if m.noown then []else [s]
  | .view r _ _=>[r]
  | .tail r _ _=>[r]
  | .ref r _ _=>[r]
  | .clo _ caps=>zek caps
  |_=>[]
 |_=>[]
def zwy(t:Ty)(o:Opd):Option (ArgR t):=
 match o.val t with
 |some (m,x)=>if live t m then some ⟨x,none,o.roots⟩else none
 |none=>none
def argPtr(u:Ty)(o:Opd):Option (ArgR (.ptr u)):=
 match o.ro with
 |some e=>(TV.to ⟨e.t,e.x⟩ u).map fun x=>⟨x,none,[]⟩
 |none=>match o.place with
  |some p=>match zbe p.π p.t p.m,getP p.π p.t p.x with
   |some k,some y=>if live y.t k then(y.to u).map fun x=>⟨x,none,o.roots⟩else none
   |_,_=>none
  |none=>none
def argSh(t:Ty)(o:Opd):Option (ArgR t):=
 match o.val t with
 |some (m,x)=>if leM t m .sh then some ⟨x,none,[]⟩else none
 |none=>none
def argNil(t:Ty)(m:Md):Option (ArgR t):=
 match t,m with
 | .slice u,.own _ _=>if 0<u.size then some ⟨[],none,[]⟩else none
 |_,_=>none
def argGive(t:Ty)(m:Md)(o:Opd):Option (ArgR t):=
 match o with
 | .con (.slice none 0 0)=>argNil t m
 | .slot s cc root=>match cc.e with
  | .v t' k x=>if leM t' k m then(TV.to ⟨t',x⟩ t).map fun z=>⟨z,some ⟨s,[],t',k,x,t',m,false⟩,[]⟩else none
  | .view r π s'=>match root.e with
   | .v tr mr xr=>if root.h=s'∧t.isSlice=true then match zbe π tr mr,getP π tr xr with
    |some (.own e k),some y=>if leM y.t (.own e k) m then(y.to t).map fun z=>⟨z,some ⟨r,π,tr,mr,xr,y.t,m,false⟩,[]⟩else none
    |_,_=>none else none
   |_=>none
  |_=>none
 |_=>none
def argIo(u:Ty)(m:Md)(o:Opd):Option (ArgR (.ptr u)):=
 match o.place with
 |some p=>match p.π.reverse with
  | 0::ρ=>match zbe ρ.reverse p.t p.m,getP ρ.reverse p.t p.x with
   |some (.own e k),some y=>if m=.own e k∧y.t=.ptr u then(y.to (.ptr u)).map fun z=>⟨z,some ⟨p.r,ρ.reverse,p.t,p.m,p.x,.ptr u,m,true⟩,[]⟩else none
   |_,_=>none
  |_=>none
 |none=>none
def argIoS(u:Ty)(m:Md)(o:Opd):Option (ArgR (.slice u)):=
 match o.splace with
 |some p=>match zbe p.π p.t p.m,getP p.π p.t p.x with
  |some (.own e k),some y=>if m=.own e k∧y.t=.slice u then(y.to (.slice u)).map fun z=>⟨z,some ⟨p.r,p.π,p.t,p.m,p.x,.slice u,m,true⟩,[]⟩else none
  |_,_=>none
 |none=>none
def argV{P:Program}(FT:List (TgE P))(t:Ty)(pm:PM)(o:Opd)(q:Option (Nat×List TM)):Option (ArgR t):=
 match pm with
 | .bw=>match t with
  | .fn1 a r=>match zwy (.fn1 a r) o with
   |some x=>some x
   |none=>(fnVal1 FT a r q).map fun g=>⟨g,none,o.roots⟩
  | .fn2 a b r=>match zwy (.fn2 a b r) o with
   |some x=>some x
   |none=>(fnVal2 FT a b r q).map fun g=>⟨g,none,o.roots⟩
  | .ptr u=>argPtr u o
  |t=>zwy t o
 | .sh=>argSh t o
 | .give m=>argGive t m o
 | .io m=>match t with
  | .ptr u=>argIo u m o
  | .slice u=>argIoS u m o
  |_=>none
def zpq{P:Program}(FT:List (TgE P)):Nat→(ps:List (Ty×PM))→List (Opd×Option (Nat×List TM))→Option (Vals (ptys ps)×List (Nat×Gv)×List Nat)
 |_,[],[]=>some ((),[],[])
 |i,(t,pm)::ps,(o,q)::os=>match argV FT t pm o q,zpq FT (i+1) ps os with
  |some z,some (xs,gs,lr)=>some ((z.x,xs),(match z.g with | some g=>(i,g)::gs | none=>gs),z.lr++lr)
  |_,_=>none
 |_,_,_=>none
def byR:List (Nat×Gv)→Nat→Option (Nat×Gv)
 | [],_=>none
 |(i,g)::gs,r=>if r=g.r then some (i,g)else byR gs r
def byI:List (Nat×Gv)→Nat→Option Gv
 | [],_=>none
 |(i,g)::gs,j=>if j=i then some g else byI gs j
def okG:List (Nat×Gv)→Bool
 | []=>true
 |(i,g)::gs=>(byR gs g.r).isNone&&(byI gs i).isNone&&okG gs
def cut:List Nat→List Nat→Option (List Nat)
 | [],q=>some q
 |x::π,y::q=>if x=y then cut π q else none
 |_::_,[]=>none
def cut_app(π ρ:List Nat):cut π (π++ρ)=some ρ:=by
 induction π with
 |nil=>rfl
 |cons x π ih=>simp[cut,ih]
def zww{π q ρ:List Nat}(h:cut π q=some ρ):q=π++ρ:=by
 induction π generalizing q with
 |nil=>cases h;rfl
 |cons x π ih=>cases q with
  |nil=>cases h
  |cons y q=>
   simp only[cut]at h
   split at h
   ·rename_i he;subst he;rw[ih h];rfl
   ·cases h
def toC(gs:List (Nat×Gv))(z:Place):Option Place:=
 match byR gs z.1 with
 |some (i,g)=>(cut g.π z.2).map fun ρ=>(i,ρ)
 |none=>none
def byR_some{gs:List (Nat×Gv)}{r:Nat}{e:Nat×Gv}(h:byR gs r=some e):e∈gs∧e.2.r=r:=by
 induction gs with
 |nil=>cases h
 |cons x gs ih=>
  obtain⟨i,g⟩:=x
  simp only[byR]at h
  split at h
  ·rename_i he;cases h;exact⟨by simp,he.symm⟩
  ·exact⟨xap _ (ih h).1,(ih h).2⟩
def byI_some{gs:List (Nat×Gv)}{i:Nat}{g:Gv}(h:byI gs i=some g):(i,g)∈gs:=by
 induction gs with
 |nil=>cases h
 |cons x gs ih=>
  obtain⟨j,g'⟩:=x
  simp only[byI]at h
  split at h
  ·rename_i he;cases h;subst he;simp
  ·exact xap _ (ih h)
def zjd{gs:List (Nat×Gv)}{r:Nat}(h:byR gs r=none):∀e∈gs,e.2.r≠r:=by
 induction gs with
 |nil=>simp
 |cons x gs ih=>
  obtain⟨i,g⟩:=x
  simp only[byR]at h
  split at h
  ·cases h
  ·rename_i hne
   intro e he
   rcases xbd.1 he with rfl|he
   ·exact fun h=>hne h.symm
   ·exact ih h e he
def byI_none{gs:List (Nat×Gv)}{i:Nat}(h:byI gs i=none):∀e∈gs,e.1≠i:=by
 induction gs with
 |nil=>simp
 |cons x gs ih=>
  obtain⟨j,g⟩:=x
  simp only[byI]at h
  split at h
  ·cases h
  ·rename_i hne
   intro e he
   rcases xbd.1 he with rfl|he
   ·exact fun h=>hne h.symm
   ·exact ih h e he
def zol{gs:List (Nat×Gv)}(h:okG gs=true){i:Nat}{g:Gv}(hm:(i,g)∈gs):byR gs g.r=some (i,g):=by
 induction gs with
 |nil=>cases hm
 |cons x gs ih=>
  obtain⟨j,g'⟩:=x
  simp only[okG,xan,xev]at h
  simp only[byR]
  rcases xbd.1 hm with he|he
  ·cases he;rw[if_pos rfl]
  ·rw[if_neg (zjd h.1.1 _ he),ih h.2 he]
def byI_mem{gs:List (Nat×Gv)}(h:okG gs=true){i:Nat}{g:Gv}(hm:(i,g)∈gs):byI gs i=some g:=by
 induction gs with
 |nil=>cases hm
 |cons x gs ih=>
  obtain⟨j,g'⟩:=x
  simp only[okG,xan,xev]at h
  simp only[byI]
  rcases xbd.1 hm with he|he
  ·cases he;rw[if_pos rfl]
  ·rw[if_neg (byI_none h.1.2 _ he),ih h.2 he]
def toC_mem{gs:List (Nat×Gv)}(h:okG gs=true){i:Nat}{g:Gv}(hm:(i,g)∈gs)(ρ:List Nat):toC gs (pa (g.r,g.π) ρ)=some (i,ρ):=by
 unfold toC
 simp only[pa,zol h hm,cut_app,xcn]
def zgn{gs:List (Nat×Gv)}{z:Place}(h:byR gs z.1=none):toC gs z=none:=by
 unfold toC;rw[h]
def St.callee(S:St)(gs:List (Nat×Gv)):St where
 w:=S.w
 F:=S.F
 B b:=S.B b∨∃z,S.own b=some z∧toC gs z=none
 own b:=(S.own b).bind (toC gs)
 hv z:=match byI gs z.1 with
  |some g=>S.hv (pa (g.r,g.π) z.2)
  |none=>.slice none 0 0
section
variable {P:Program} {c:Ctx} {σ:Env} {a:Act} {S:St} {gs:List (Nat×Gv)}
def zux{b:Nat}{z:Place}(h:(S.callee gs).own b=some z):∃y,S.own b=some y∧toC gs y=some z:=by
 simp only[St.callee,xcb]at h
 exact h
def zjc{b:Nat}(h:S.own b=none):(S.callee gs).own b=none:=by simp[St.callee,h]
def InvOf.calleeWF(h:InvOf P c σ a S):(S.callee gs).WF where
 shared b hb:=⟨zjc (h.shared b hb).1,(h.shared b hb).2.1⟩
 borrowed b hb:=by
  rcases hb with hb|⟨z,hz,hn⟩
  ·exact⟨zjc (h.WF.borrowed b hb).1,(h.WF.borrowed b hb).2⟩
  ·exact⟨by simp[St.callee,hz,hn],(h.owned b z hz).1⟩
 owned b p hb:=by
  obtain⟨y,hy,_⟩:=zux hb
  exact(h.owned b y hy).1
def calleeFut2:Fut2 S (S.callee gs):=⟨fun _ h=>⟨h,rfl⟩,fun _ h=>⟨.inr (.inl h),rfl⟩⟩
def zqg(hg:okG gs=true){i:Nat}{g:Gv}(hm:(i,g)∈gs):Tr true S (S.callee gs) (g.r,g.π) (i,[]) where
 F _ h:=h
 sF _ _:=rfl
 B _ b hb:=.inr (.inl hb)
 sB _ _ _:=rfl
 hv r:=by simp[St.callee,pa,byI_mem hg hm]
 own b r hb:=⟨by simp only[St.callee,hb,xaa];rw[toC_mem hg hm];simp[pa],rfl⟩
def St.bare(S:St):St:={S with own:=fun _=>none}
def znb:Fut2 S S.bare:=⟨fun _ h=>⟨h,rfl⟩,fun _ h=>⟨.inr h,rfl⟩⟩
def lendS{t:Ty}{m:Md}{p p':Place}{x:t.den}{cs:Cs}(h:Rel P t S m p x cs)(hl:live t m=true)(hr:m.noown=true∨byR gs p.1=none):Rel P t (S.callee gs) .bw p' x cs:=by
 rcases hr with hr|hr
 ·have h1:Rel P t S.bare m p x cs:=h.free hr znb fun _ _=>rfl
  exact h1.share (q:=true) (.inr rfl) (.inl rfl) hl ⟨fun b hb=>⟨hb,rfl⟩,fun _ b hb=>⟨.inr ⟨rfl,.inl hb⟩,rfl⟩,fun b r hb=>by cases hb⟩
 ·exact h.share (q:=true) (.inr rfl) (.inl rfl) hl ⟨fun b hb=>⟨hb,rfl⟩,fun _ b hb=>⟨.inr ⟨rfl,.inl hb⟩,rfl⟩,fun b r hb=>⟨.inr ⟨rfl,.inr ⟨_,hb,zgn hr⟩⟩,rfl⟩⟩
def lendSR{t:Ty}{m:Md}{p p':Place}{x:t.den}{v:Value}(h:SR P t S m p x v)(hl:live t m=true)(hr:m.noown=true∨byR gs p.1=none):SR P t (S.callee gs) .bw p' x v:=⟨lendS h.1 hl hr,h.2⟩
def shareSR{t:Ty}{m:Md}{p p':Place}{x:t.den}{v:Value}(h:SR P t S m p x v)(hl:leM t m .sh=true):SR P t (S.callee gs) .sh p' x v:=⟨(h.1.weaken hl).fut (.inl rfl) (calleeFut2.sh _) fun _ _=>rfl,h.2⟩
def InvOf.valAt(h:InvOf P c σ a S){o:Operand}{t:Ty}{m:Md}{x:t.den}(hv:(look σ o).val t=some (m,x)):∃p,SR P t S m p x (a.eval o)∧(m.noown=true∨p.1∈(look σ o).roots):=by
 cases o with
 |const v=>
  simp only[look,Opd.val,xad,xba]at hv
  obtain⟨y,h1,rfl,rfl⟩:=hv
  exact⟨(0,[]),zcx h1,.inl rfl⟩
 |func f=>simp[look,Opd.val]at hv
 |global g=>simp[look,Opd.val]at hv
 |tmp s=>
  simp only[look,Opd.val]at hv
  split at hv
  ·rename_i t' m' x' he
   simp only[xad,xba]at hv
   obtain⟨y,h1,rfl,rfl⟩:=hv
   have:=TV.to_some h1
   cases this
   refine⟨_,h.slot he,?_⟩
   simp only[look,Opd.roots,he]
   cases hm:m'.noown with
   |true=>exact .inl rfl
   |false=>exact .inr (by simp)
  ·rename_i r π s' he
   have hr:zdl σ (σ s).e=σ r:=by rw[he];rfl
   rw[hr]at hv
   split at hv
   ·rename_i tr mr xr hroot
    split at hv
    ·rename_i hg
     split at hv
     ·rename_i e k y hm hgp
      simp only[xad,xba]at hv
      obtain⟨z,h1,rfl,rfl⟩:=hv
      have:=TV.to_some h1
      subst this
      obtain⟨_,h2⟩:=(h.ent s).view he
      obtain⟨h3,h4⟩:=h2 tr mr xr hroot hg.1
      obtain⟨u,y,l,cs',h5,h6,h7,h8⟩:=Rel.at (h.slot hroot).1 hm h3
      rw[hgp]at h5
      cases h5
      rw[zbh]at h7
      refine⟨(r,π),?_,.inr (by simp[look,Opd.roots,he])⟩
      rw[zbb,h4]
      cases t<;>first | (have:=hg.2;cases this;done) | skip
      refine⟨h7.mono (q:=true) (.inl rfl) ⟨fun _ h=>h,fun _ _=>rfl,fun _ _ h=>.inr h,fun _ _ _=>rfl,fun _=>rfl,fun _ _ h=>⟨h,rfl⟩⟩ fun i hi=>?_,fun h=>by cases h⟩
      have:i=0:=by simp only[Ty.size]at hi;omega
      subst this
      rw[h7.2.2.1]
      rfl
     ·cases hv
    ·cases hv
   ·cases hv
  ·cases hv
def InvOf.place_root(h:InvOf P c σ a S){o:Operand}{p:Pl}(hp:(look σ o).place=some p)(hn:p.m.noown=false):p.r∈(look σ o).roots:=by
 cases o with
 |const v=>simp[look,Opd.place]at hp
 |func f=>simp[look,Opd.place]at hp
 |global g=>simp[look,Opd.place]at hp
 |tmp t=>
  simp only[look,Opd.place]at hp
  split at hp
  ·rename_i u e m x he
   cases hp
   simp[look,Opd.roots,he,Md.noown]
  ·rename_i r π s he
   have hr:zdl σ (σ t).e=σ r:=by rw[he];rfl
   rw[hr]at hp
   split at hp
   ·split at hp
    ·cases hp
     simp[look,Opd.roots,he]
    ·cases hp
   ·cases hp
  ·cases hp
def zqb:∀{π:List Nat} {t:Ty} {m k:Md} {q:List Nat} {o:Nat},locP π t=some (some q,o)→zbe π t m=some k→m.noown=false
 | [],_,_,_,_,_,hl,_=>by simp[locP]at hl
 |i::π,.pair a b,m,k,q,o,hl,h=>by
  match i with
  | 0=>
   simp only[locP,xad]at hl
   obtain⟨⟨q',o'⟩,h1,h2⟩:=hl
   cases q' with
   |none=>simp at h2
   |some q'=>
    cases hn:m.noown with
    |false=>rfl
    |true=>exact absurd (Md.noown_l hn) (by rw[zqb (π:=π) (t:=a) h1 h];simp)
  | 1=>
   simp only[locP,xad]at hl
   obtain⟨⟨q',o'⟩,h1,h2⟩:=hl
   cases q' with
   |none=>simp at h2
   |some q'=>
    cases hn:m.noown with
    |false=>rfl
    |true=>exact absurd (Md.noown_r hn) (by rw[zqb (π:=π) (t:=b) h1 h];simp)
  |i+2=>simp[zbe]at h
 |i::π,.arr n t,m,k,q,o,hl,h=>by
  have h':zbe π t m=some k:=by cases i<;>(try rename_i j;cases j)<;>exact h
  rw[zej]at hl
  simp only[xad]at hl
  obtain⟨⟨q',o'⟩,h1,h2⟩:=hl
  cases q' with
  |none=>simp at h2
  |some q'=>exact zqb h1 h'
 |i::π,.slice t,m,k,q,o,hl,h=>by
  cases m<;>first | rfl | (cases i<;>(try rename_i j;cases j)<;>simp[zbe]at h)
 |i::π,.ptr t,m,k,q,o,hl,h=>by
  cases m<;>first | rfl | (cases i<;>(try rename_i j;cases j)<;>simp[zbe]at h)
 |_::_,.int _,_,_,_,_,_,h=>by simp[zbe]at h
 |_::_,.bool,_,_,_,_,_,h=>by simp[zbe]at h
 |_::_,.str,_,_,_,_,_,h=>by simp[zbe]at h
 |_::_,.unit,_,_,_,_,_,h=>by simp[zbe]at h
 |_::_,.fn1 _ _,_,_,_,_,_,h=>by simp[zbe]at h
 |_::_,.fn2 _ _ _,_,_,_,_,_,h=>by simp[zbe]at h
 |_::_,.alt _ _ _,_,_,_,_,_,h=>by simp[zbe]at h
 |_::_,.nilI,_,_,_,_,_,h=>by simp[zbe]at h
def NoG(gs:List (Nat×Gv))(l:List Nat):Prop:=∀r∈l,byR gs r=none
def zqh(h:InvOf P c σ a S){t:Ty}{o:Operand}{z:ArgR t}(hx:zwy t (look σ o)=some z)(hn:NoG gs z.lr)(p:Place):z.g=none∧SR P t (S.callee gs) .bw p z.x (a.eval o):=by
 unfold zwy at hx
 split at hx
 case h_2=>cases hx
 rename_i m x hv
 split at hx
 case isFalse=>cases hx
 rename_i hl
 cases hx
 obtain⟨p0,h1,h2⟩:=h.valAt hv
 exact⟨rfl,lendSR h1 hl (h2.imp id (hn _))⟩
def ptrBlk{u:Ty}{k:Md}{p:Place}{y:u.den}{b off:Nat}(hl:live u k=true)(hr:k.noown=true∨byR gs p.1=none)(h:Rel P u S k p y (blk S.w b off))(hb:u.size≠0→(S.callee gs).G .bw b)(p':Place) :
  SR P (.ptr u) (S.callee gs) .bw p' y (.pointer (some ⟨b,off,none⟩)):=
 ⟨⟨b,off,by simp[zab,Ty.agg],hb,lendS h hl hr⟩,fun h=>by cases h⟩
def ptr_sound(h:InvOf P c σ a S){u:Ty}{o:Operand}{z:ArgR (.ptr u)}(hx:argPtr u (look σ o)=some z)(hn:NoG gs z.lr)(p:Place):z.g=none∧SR P (.ptr u) (S.callee gs) .bw p z.x (a.eval o):=by
 unfold argPtr at hx
 split at hx
 ·rename_i e he
  simp only[xad]at hx
  obtain⟨x,h1,rfl⟩:=hx
  have:=TV.to_some h1
  obtain⟨et,em,ex⟩:=e
  cases this
  obtain⟨h2,b,off,h3,h4,p0,h5⟩:=h.ro he
  refine⟨rfl,?_⟩
  rw[h3]
  simp only at h2 h4 h5
  refine ptrBlk (k:=em) (zdd h2 _) (.inl (by rcases h2 with rfl|rfl<;>rfl)) h5 (fun hs=>?_) p
  rcases h4 hs with h6|h6
  ·exact .inl h6
  ·exact .inr ⟨rfl,.inl h6.2⟩
 ·split at hx
  case h_2=>cases hx
  rename_i p0 hp
  split at hx
  case h_2=>cases hx
  rename_i k y hm hg
  split at hx
  case isFalse=>cases hx
  rename_i hl
  simp only[xad]at hx
  obtain⟨x,h1,rfl⟩:=hx
  have:=TV.to_some h1
  subst this
  obtain⟨u',y',q,off,b,cur,e,h2,h3,h4,h5,h6,h7,h8⟩:=h.partAt hp hm
  rw[hg]at h2
  cases h2
  have hroot:byR gs p0.r=none:=hn _ (h.place_root hp (by
   cases hno:p0.m.noown with
   |false=>rfl
   |true=>
    exfalso
    have hcr:=zqb h3 hm
    rw[hno]at hcr
    cases hcr))
  refine⟨rfl,?_⟩
  rw[h7]
  exact ptrBlk hl (.inr hroot) h8 (fun _=>.inr ⟨rfl,.inr ⟨_,h5,zgn hroot⟩⟩) p
end
def znz{S:St}:∀{π ρ:List Nat} {t:Ty} {p:Place},okP S (π++ρ) t p→okP S π t p
 | [],_,_,_,_=>trivial
 |i::π,ρ,.pair a b,p,h=>by
  match i with
  | 0=>exact znz (π:=π) (ρ:=ρ) (t:=a) h
  | 1=>exact znz (π:=π) (ρ:=ρ) (t:=b) h
  |i+2=>exact h.elim
 |i::π,ρ,.arr n t,p,h=>by
  rw[xca,zew]at h
  rw[zew]
  exact⟨h.1,znz h.2⟩
 |i::π,ρ,.slice t,p,h=>by
  rw[xca,zfp]at h
  rw[zfp]
  exact⟨h.1,znz h.2⟩
 |i::π,ρ,.ptr t,p,h=>by
  match i with
  | 0=>exact znz (π:=π) (ρ:=ρ) (t:=t) h
  |i+1=>simp[okP]at h
 |_::_,_,.int _,_,h=>by simp[okP]at h
 |_::_,_,.bool,_,h=>by simp[okP]at h
 |_::_,_,.str,_,h=>by simp[okP]at h
 |_::_,_,.unit,_,h=>by simp[okP]at h
 |_::_,_,.fn1 _ _,_,h=>by simp[okP]at h
 |_::_,_,.fn2 _ _ _,_,h=>by simp[okP]at h
 |_::_,_,.alt _ _ _,_,h=>by simp[okP]at h
 |_::_,_,.nilI,_,h=>by simp[okP]at h
section
variable {P:Program} {c:Ctx} {σ:Env} {a:Act} {S:St} {gs:List (Nat×Gv)} {FT:List (TgE P)}
structure GvOK(S:St)(σ:Env)(g:Gv)(v:Value):Prop where
 root:(σ g.r).e=.v g.t g.m g.x
 ok:okP S g.π g.t (g.r,[])
 md:∃k,zbe g.π g.t g.m=some k∧(g.io=true→k=g.k)
 val:∃y,getP g.π g.t g.x=some ⟨g.u,y⟩
 io:g.io=true→v=S.hv (g.r,g.π)∧((∃w,g.u=.ptr w)∨∃w,g.u=.slice w)∧∃e k,g.k=.own e k
def give_sound(h:InvOf P c σ a S){t:Ty}{m:Md}{o:Operand}{z:ArgR t}(hx:argGive t m (look σ o)=some z)(hk:okG gs=true){i:Nat}(hi:∀g,z.g=some g→(i,g)∈gs)(hj:∀g,(i,g)∈gs→z.g=some g) :
  SR P t (S.callee gs) m (i,[]) z.x (a.eval o)∧∀g,z.g=some g→GvOK S σ g (a.eval o):=by
 unfold argGive at hx
 cases o with
 |const v=>
  simp only[look]at hx
  split at hx
  ·rename_i heq
   cases heq
   unfold argNil at hx
   split at hx
   case h_2=>cases hx
   rename_i u e k
   split at hx
   case isFalse=>cases hx
   rename_i hpos
   cases hx
   have hb:byI gs i=none:=by
    cases hb:byI gs i with
    |none=>rfl
    |some g=>exact absurd (hj g (byI_some hb)) (by simp)
   have hh:(S.callee gs).hv (i,[])=.slice none 0 0:=by
    unfold St.callee
    simp only[hb]
   refine⟨⟨⟨xbz _,hpos,?_,.inl ⟨hh,rfl⟩⟩,fun h=>by cases h⟩,fun g hg=>by cases hg⟩
   rw[hh]
   simp[zab,Ty.agg,Act.eval]
  all_goals first | (cases hx;done) | (simp at *;done)
 |func f=>simp[look]at hx
 |global g=>simp[look]at hx
 |tmp s=>
  simp only[look]at hx
  split at hx
  ·rename_i t' k x he
   split at hx
   case isFalse=>cases hx
   rename_i hl
   simp only[xad]at hx
   obtain⟨y,h1,rfl⟩:=hx
   have:=TV.to_some h1
   cases this
   have hm:=hi _ rfl
   have hs:=h.slot he
   refine⟨⟨(hs.1.weaken hl).mono (q:=true) (.inl rfl) (zqg hk hm) fun _ _=>rfl,hs.2⟩,fun g hg=>?_⟩
   cases hg
   exact⟨he,trivial,⟨k,rfl,fun h=>by cases h⟩,⟨y,rfl⟩,fun h=>by cases h⟩
  ·rename_i r π s' he
   have hr:zdl σ (σ s).e=σ r:=by rw[he];rfl
   rw[hr]at hx
   split at hx
   case h_2=>cases hx
   rename_i tr mr xr hroot
   split at hx
   case isFalse=>cases hx
   rename_i hg
   split at hx
   case h_2=>cases hx
   rename_i e k y hm hgp
   split at hx
   case isFalse=>cases hx
   rename_i hl
   simp only[xad]at hx
   obtain⟨z0,h1,rfl⟩:=hx
   have:=TV.to_some h1
   subst this
   have hmem:=hi _ rfl
   obtain⟨_,h2⟩:=(h.ent s).view he
   obtain⟨h3,h4⟩:=h2 tr mr xr hroot hg.1
   obtain⟨u,y,l,cs',h5,h6,h7,h8⟩:=Rel.at (h.slot hroot).1 hm h3
   rw[hgp]at h5
   cases h5
   rw[zbh]at h7
   refine⟨?_,fun g hg=>?_⟩
   ·rw[zbb,h4]
    cases t<;>first | (have:=hg.2;cases this;done) | skip
    refine⟨(h7.weaken hl).mono (q:=true) (.inl rfl) (zqg hk hmem) fun i hi=>?_,fun h=>by cases h⟩
    have:i=0:=by simp only[Ty.size]at hi;omega
    subst this
    rw[h7.2.2.1]
    rfl
   ·cases hg
    exact⟨hroot,h3,⟨_,hm,fun h=>by cases h⟩,⟨_,hgp⟩,fun h=>by cases h⟩
  ·cases hx
def io_sound(h:InvOf P c σ a S){u:Ty}{m:Md}{o:Operand}{z:ArgR (.ptr u)}(hx:argIo u m (look σ o)=some z)(hk:okG gs=true){i:Nat}(hi:∀g,z.g=some g→(i,g)∈gs) :
  SR P (.ptr u) (S.callee gs) m (i,[]) z.x (a.eval o)∧∀g,z.g=some g→GvOK S σ g (a.eval o):=by
 unfold argIo at hx
 split at hx
 case h_2=>cases hx
 rename_i p hp
 split at hx
 case h_2=>cases hx
 rename_i ρ hπ
 have hπ':p.π=ρ.reverse++[0]:=by rw[←List.reverse_reverse p.π,hπ];simp
 split at hx
 case h_2=>cases hx
 rename_i e k y hm hg
 split at hx
 case isFalse=>cases hx
 rename_i hc
 obtain⟨hc1,hc2⟩:=hc
 subst hc1
 simp only[xad]at hx
 obtain⟨x,h1,rfl⟩:=hx
 have:=TV.to_some h1
 subst this
 have hmem:=hi _ rfl
 obtain⟨hr,_,_,hok,q,off,b,h2,h3,h4⟩:=h.place hp
 have hok':okP S ρ.reverse p.t (p.r,[]):=znz (ρ:=[0]) (by rw[←hπ'];exact hok)
 obtain⟨u',y',l,cs',h5,h6,h7,h8⟩:=Rel.at (h.slot hr).1 hm hok'
 rw[hg]at h5
 cases h5
 rw[zbh]at h7
 have h7':=h7
 obtain⟨h9,g,cur,e',h10,h11,h12,h13⟩:=h7'
 have hloc:=zfk hg h6 (show locP [0] (.ptr u)=some (some [],0)from by simp[locP])
 rw[←hπ',h2]at hloc
 have hqo:q=ρ.reverse∧off=0:=by
  obtain⟨l1,l2⟩:=l
  cases l1<;>(simp[addL]at hloc;exact⟨hloc.1,hloc.2⟩)
 rw[hqo.1,h10]at h3
 have hb:g=b:=by simpa[hvB]using h3
 have hv:a.eval o=S.hv (p.r,ρ.reverse):=by rw[h4,h10,hqo.2,hb]
 refine⟨?_,fun g' hg'=>?_⟩
 ·refine⟨h7.mono (q:=true) (.inl rfl) (zqg hk hmem) fun i hi=>?_,fun h=>by cases h⟩
  have:i=0:=by simp only[Ty.size]at hi;omega
  subst this
  rw[h9,hv]
  rfl
 ·cases hg'
  exact⟨hr,hok',⟨_,hm,fun _=>rfl⟩,⟨_,hg⟩,fun _=>⟨hv,.inl ⟨u,rfl⟩,e,k,rfl⟩⟩
def ioS_sound(h:InvOf P c σ a S){u:Ty}{m:Md}{o:Operand}{z:ArgR (.slice u)}(hx:argIoS u m (look σ o)=some z)(hk:okG gs=true){i:Nat}(hi:∀g,z.g=some g→(i,g)∈gs) :
  SR P (.slice u) (S.callee gs) m (i,[]) z.x (a.eval o)∧∀g,z.g=some g→GvOK S σ g (a.eval o):=by
 unfold argIoS at hx
 split at hx
 case h_2=>cases hx
 rename_i p hp
 split at hx
 case h_2=>cases hx
 rename_i e k y hm hg
 split at hx
 case isFalse=>cases hx
 rename_i hc
 obtain⟨hc1,hc2⟩:=hc
 subst hc1
 simp only[xad]at hx
 obtain⟨x,h1,rfl⟩:=hx
 have:=TV.to_some h1
 subst this
 have hmem:=hi _ rfl
 obtain⟨hr,_,hok,hv⟩:=h.splace hp
 obtain⟨u',y',l,cs',h5,h6,h7,h8⟩:=Rel.at (h.slot hr).1 hm hok
 rw[hg]at h5
 cases h5
 rw[zbh]at h7
 refine⟨?_,fun g' hg'=>?_⟩
 ·refine⟨h7.mono (q:=true) (.inl rfl) (zqg hk hmem) fun i hi=>?_,fun h=>by cases h⟩
  have:i=0:=by simp only[Ty.size]at hi;omega
  subst this
  rw[h7.2.2.1,hv]
  rfl
 ·cases hg'
  exact⟨hr,hok,⟨_,hm,fun _=>rfl⟩,⟨_,hg⟩,fun _=>⟨hv,.inr ⟨u,rfl⟩,e,k,rfl⟩⟩
def Rel.flat{S S':St}:∀{t:Ty} {p p':Place} {x:t.den} {cs:Cs},t.flat=true→Rel P t S .sh p x cs→Rel P t S' .sh p' x cs:=by
 intro t
 induction t with
 |int k=>intro p p' x cs hf h;exact h
 |bool=>intro p p' x cs hf h;exact h
 |str=>intro p p' x cs hf h;exact h
 |unit=>intro p p' x cs hf h;trivial
 |nilI=>intro p p' x cs hf h;exact h
 |pair a b iha ihb=>
  intro p p' x cs hf h
  simp only[Ty.flat,xan]at hf
  exact⟨iha hf.1 h.1,ihb hf.2 h.2⟩
 |arr n t ih=>intro p p' x cs hf h;exact⟨h.1,fun i hi=>ih hf (h.2 i hi)⟩
 |alt tid a b iha ihb=>
  intro p p' x cs hf h
  simp only[Ty.flat,xan]at hf
  cases x with
  |inl y=>obtain⟨v,h1,h2,h3⟩:=h;exact⟨v,h1,iha hf.1 h2,h3⟩
  |inr z=>exact⟨h.1,ihb hf.2 h.2⟩
 |slice t ih=>intro p p' x cs hf h;cases hf
 |ptr t ih=>intro p p' x cs hf h;cases hf
 |fn1=>intro p p' x cs hf h;cases hf
 |fn2=>intro p p' x cs hf h;cases hf
def refBw(h:InvOf P c σ a S){r:Nat}{π:List Nat}{s:Nat}{v:Value}(hv:RefOK S σ r π s v){tr:Ty}{mr k:Md}{xr:tr.den}{y:TV}(hr:(σ r).e=.v tr mr xr)(hg:genB (σ r) tr π s=true)(hm:zbe π tr mr=some k)
  (hp:getP π tr xr=some y) (hl:live y.t k=true) (hn:byR gs r=none) (p:Place):SR P (.ptr y.t) (S.callee gs) .bw p y.x v:=by
 obtain⟨q,o,b,h1,h2,h3,h4⟩:=hv.2 tr mr xr hr (zwl.1 hg)
 obtain⟨u,y',l,cs',h6,h7,h8,h9⟩:=Rel.at (h.slot hr).1 hm h2
 rw[h1]at h7
 cases h7
 obtain⟨b',h10,h11,h12,cur,e,h13⟩:=h9
 rw[zbh]at h8 h10 h11
 rw[h3]at h10
 cases h10
 rw[hp]at h6
 cases h6
 rw[h4]
 subst h12
 exact ptrBlk hl (.inr hn) h8 (fun _=>.inr ⟨rfl,.inr ⟨_,h11,zgn hn⟩⟩) p
def caps_sound(h:InvOf P c σ a S):∀{cs:List Cap} {es:List TM} {us:List Value},zpi σ cs=some es→us.length=cs.length→(∀(k:Nat) (x:Cap),cs[k]?=some x→∃u,us[k]?=some u∧CapOK P S σ u x)→NoG gs (zek cs) →
  us.length=es.length∧∀(k:Nat) (e:TM),es[k]?=some e→∃u,us[k]?=some u∧SR P (.ptr e.t) (S.callee gs) .bw (0,[]) e.x u:=by
 intro cs
 induction cs with
 |nil=>
  intro es us hc hl _ _
  cases hc
  exact⟨hl,fun k e hk=>by simp at hk⟩
 |cons x cs ih=>
  intro es us hc hl hu hn
  unfold zpi at hc
  split at hc
  case h_2=>cases hc
  rename_i e es' h1 h2
  cases hc
  cases us with
  |nil=>cases hl
  |cons u us=>
   have hn':NoG gs (zek cs):=fun r hr=>hn r (by cases x<;>simp[zek,hr])
   obtain⟨h3,h4⟩:=ih h2 (by simpa using hl) (fun k x hk=>hu (k+1) x hk) hn'
   refine⟨by simp[h3],fun k e' hk=>?_⟩
   cases k with
   |succ k=>exact h4 k e' hk
   |zero=>
    cases hk
    obtain⟨u',h5,h6⟩:=hu 0 x rfl
    cases h5
    refine⟨u,rfl,?_⟩
    cases x with
    |ref r π s=>
     simp only[capTM]at h1
     split at h1
     case h_2=>cases h1
     rename_i tr mr xr he
     split at h1
     case isFalse=>cases h1
     rename_i hg
     split at h1
     case h_2=>cases h1
     rename_i k y hm hp
     split at h1
     case isFalse=>cases h1
     rename_i hl
     cases h1
     exact refBw h h6 he hg hm hp hl (hn r (by simp[zek])) _
    |val e0=>
     simp only[capTM]at h1
     split at h1
     ·rename_i ut um ux
      cases h1
      exact lendSR (gs:=gs) h6 (zdd (.inr rfl) _) (.inl rfl)
     ·cases h1
def clo_sound(h:InvOf P c σ a S){o:Operand}{f:Nat}{es:List TM}(hx:zia σ o=some (f,es))(hn:NoG gs (look σ o).roots) :
  ∃us:List Value,a.eval o=.func (.func f) #[] us.toArray∧us.length=es.length∧∀(k:Nat) (e:TM),es[k]?=some e→∃u,us[k]?=some u∧SR P (.ptr e.t) (S.callee gs) .bw (0,[]) e.x u:=by
 cases o with
 |const v=>cases hx
 |global g=>cases hx
 |func f=>cases hx;exact⟨[],rfl,rfl,fun k e hk=>by simp at hk⟩
 |tmp t=>
  simp only[zia]at hx
  split at hx
  case h_2=>cases hx
  rename_i f' caps he
  simp only[xad,xba]at hx
  obtain⟨es',h1,rfl,rfl⟩:=hx
  have hs:=h.slots t
  unfold SlotOK at hs
  rw[he]at hs
  obtain⟨us,h2,h3,h4⟩:=hs
  obtain⟨h5,h6⟩:=caps_sound h (gs:=gs) h1 h3 h4 (by simpa[look,Opd.roots,he]using hn)
  exact⟨us,by rw[zbb,h2],h5,h6⟩
def zkh:∀{ps:List (Ty×PM)} {es:List TM} {cs:Vals (ptys ps)},zcn ps es=some cs→ptms ps cs=es.map fun e=>⟨.ptr e.t,.bw,e.x⟩
 | [],[],_,_=>rfl
 |(.ptr u,.bw)::ps,e::es,cs,h=>by
  simp only[zcn]at h
  split at h
  case h_2=>cases h
  rename_i x xs h1 h2
  cases h
  have:=TV.to_some h1
  obtain⟨et,em,ex⟩:=e
  cases this
  simp only[ptms,xen,zkh h2]
  rfl
 | [],_::_,_,h=>by simp[zcn]at h
 |x::ps,[],cs,h=>by obtain⟨t,m⟩:=x;cases t<;>cases m<;>simp[zcn]at h
 |(.ptr u,.sh)::ps,e::es,cs,h=>by simp[zcn]at h
 |(.ptr u,.give _)::ps,e::es,cs,h=>by simp[zcn]at h
 |(.ptr u,.io _)::ps,e::es,cs,h=>by simp[zcn]at h
 |(.int _,_)::ps,e::es,cs,h=>by simp[zcn]at h
 |(.bool,_)::ps,e::es,cs,h=>by simp[zcn]at h
 |(.str,_)::ps,e::es,cs,h=>by simp[zcn]at h
 |(.unit,_)::ps,e::es,cs,h=>by simp[zcn]at h
 |(.pair _ _,_)::ps,e::es,cs,h=>by simp[zcn]at h
 |(.arr _ _,_)::ps,e::es,cs,h=>by simp[zcn]at h
 |(.slice _,_)::ps,e::es,cs,h=>by simp[zcn]at h
 |(.fn1 _ _,_)::ps,e::es,cs,h=>by simp[zcn]at h
 |(.fn2 _ _ _,_)::ps,e::es,cs,h=>by simp[zcn]at h
 |(.alt _ _ _,_)::ps,e::es,cs,h=>by simp[zcn]at h
 |(.nilI,_)::ps,e::es,cs,h=>by simp[zcn]at h
def zuv{r:Ty}{o:List (Ty×Md)}(ho:o=[]){y:Option (Ret ([r]++tys o))}{z:r.den}(h:castR rfl ho y=some z):∃y',y=some y'∧(zqz [r] (tys o) (Ret.vals _ y')).1.1=z:=by
 subst ho
 have h':y=some z:=h
 exact⟨z,h',rfl⟩
def St.WF.bare{S:St}(h:S.WF):S.bare.WF:=⟨fun b hb=>⟨rfl,(h.shared b hb).2⟩,fun b hb=>⟨rfl,(h.borrowed b hb).2⟩,fun b p hb=>by cases hb⟩
def Frm.ext{S S':St}(h:Frm S.bare S'):Ext S.w S'.w:=⟨h.os,h.tape,h.output,h.size,fun k hk=>h.kept k hk rfl⟩
def zuw{S':St}{es:List TM}{us:List Value}(hu:∀(k:Nat) (e:TM),es[k]?=some e→∃u,us[k]?=some u∧SR P (.ptr e.t) S .bw (0,[]) e.x u)(hf:Fut .bw S S'){k:Nat}{e:TM}(hk:(es.map fun e=>(⟨.ptr e.t,.bw,e.x⟩:TM))[k]?=some e)(p:Place) :
  ∃u,us[k]?=some u∧SR P e.t S'.bare e.m p e.x u:=by
 simp only[xcv,xad]at hk
 obtain⟨e0,h1,rfl⟩:=hk
 obtain⟨u,h2,h3⟩:=hu k e0 h1
 have h4:Rel P (.ptr e0.t) S' .bw p e0.x (zab (.ptr e0.t) u):=h3.1.fut (.inr rfl) hf fun _ _=>rfl
 exact⟨u,h2,Rel.free h4 rfl znb fun _ _=>rfl,h3.2⟩
def fn1_sound(h:InvOf P c σ a S){A R:Ty}{o:Operand}{g:A.den→Option R.den}(hx:fnVal1 FT A R (zia σ o)=some g)(hn:NoG gs (look σ o).roots)(p:Place):SR P (.fn1 A R) (S.callee gs) .bw p g (a.eval o):=by
 unfold fnVal1 at hx
 split at hx
 case h_2=>cases hx
 rename_i f es hq
 split at hx
 case h_2=>cases hx
 rename_i f' a' ps r' den ok hfind
 have hf:=findF_f hfind
 split at hx
 case isFalse=>cases hx
 rename_i hc
 split at hx
 case h_2=>cases hx
 rename_i cs hcs
 cases hx
 obtain⟨rfl,rfl,ho,hfl⟩:=hc
 simp only at hf
 subst hf
 obtain⟨us,h1,h2,h3⟩:=clo_sound h (gs:=gs) hq hn
 refine⟨⟨f',us.toArray,by simp[zab,Ty.agg,h1],ok.1,fun S' x y hfut hwf hg v hv hagg=>?_⟩,fun h=>by cases h⟩
 obtain⟨y',h4,h5⟩:=zuv ho hg
 have hp:=zkh hcs
 have hcall:=ok.2 (x,cs) y' h4 S'.bare hwf.bare (v::us) (by simp only[ptms,xaz,hp,xbw,h2]) (fun i e hi=>by
  cases i with
  |zero=>
   simp only[ptms,xfv,xat]at hi
   subst hi
   exact⟨v,rfl,⟨hv.free rfl znb fun _ _=>rfl,hagg⟩⟩
  |succ i=>
   simp only[ptms,xfd,hp]at hi
   exact zuw h3 hfut hi _)
 have hargs:#[v]++us.toArray=(v::us).toArray:=by simp
 rw[hargs]
 refine Calls.mono hcall fun e w' hR=>?_
 obtain⟨u,S4,rfl,rfl,hfr,hres,_⟩:=hR
 refine⟨u,rfl,?_,?_,Frm.ext hfr⟩
 ·have hr:SR P _ S4 .sh (0,[0]) _ u:=hres
  have hr':=hr.1
  simp only at hr'
  rw[h5]at hr'
  exact Rel.flat hfl hr'
 ·exact(show SR P _ S4 .sh (0,[0]) _ u from hres).2
def fn2_sound(h:InvOf P c σ a S){A B R:Ty}{o:Operand}{g:A.den→B.den→Option R.den}(hx:fnVal2 FT A B R (zia σ o)=some g)(hn:NoG gs (look σ o).roots)(p:Place):SR P (.fn2 A B R) (S.callee gs) .bw p g (a.eval o):=by
 unfold fnVal2 at hx
 split at hx
 case h_2=>cases hx
 rename_i f es hq
 split at hx
 case h_2=>cases hx
 rename_i f' a' b' ps r' den ok hfind
 have hf:=findF_f hfind
 split at hx
 case isFalse=>cases hx
 rename_i hc
 split at hx
 case h_2=>cases hx
 rename_i cs hcs
 cases hx
 obtain⟨rfl,rfl,rfl,ho,hfl⟩:=hc
 simp only at hf
 subst hf
 obtain⟨us,h1,h2,h3⟩:=clo_sound h (gs:=gs) hq hn
 refine⟨⟨f',us.toArray,by simp[zab,Ty.agg,h1],ok.1,fun S' x x2 y hfut hwf hg v v2 hv hagg hv2 hagg2=>?_⟩,fun h=>by cases h⟩
 obtain⟨y',h4,h5⟩:=zuv ho hg
 have hp:=zkh hcs
 have hcall:=ok.2 (x,x2,cs) y' h4 S'.bare hwf.bare (v::v2::us) (by simp only[ptms,xaz,hp,xbw,h2]) (fun i e hi=>by
  cases i with
  |zero=>
   simp only[ptms,xfv,xat]at hi
   subst hi
   exact⟨v,rfl,⟨hv.free rfl znb fun _ _=>rfl,hagg⟩⟩
  |succ i=>
   cases i with
   |zero=>
    simp only[ptms,xfd,xfv,xat]at hi
    subst hi
    exact⟨v2,rfl,⟨hv2.free rfl znb fun _ _=>rfl,hagg2⟩⟩
   |succ i=>
    simp only[ptms,xfd,hp]at hi
    exact zuw h3 hfut hi _)
 have hargs:#[v,v2]++us.toArray=(v::v2::us).toArray:=by simp
 rw[hargs]
 refine Calls.mono hcall fun e w' hR=>?_
 obtain⟨u,S4,rfl,rfl,hfr,hres,_⟩:=hR
 refine⟨u,rfl,?_,?_,Frm.ext hfr⟩
 ·have hr:SR P _ S4 .sh (0,[0]) _ u:=hres
  have hr':=hr.1
  simp only at hr'
  rw[h5]at hr'
  exact Rel.flat hfl hr'
 ·exact(show SR P _ S4 .sh (0,[0]) _ u from hres).2
def argV_sound(h:InvOf P c σ a S){t:Ty}{pm:PM}{o:Operand}{z:ArgR t}(hx:argV FT t pm (look σ o) (zia σ o)=some z)(hn:NoG gs z.lr)(hk:okG gs=true){i:Nat}(hi:∀g,z.g=some g→(i,g)∈gs)(hj:∀g,(i,g)∈gs→z.g=some g) :
  SR P t (S.callee gs) pm.md (i,[]) z.x (a.eval o)∧∀g,z.g=some g→GvOK S σ g (a.eval o):=by
 have hbw:∀{z:ArgR t},zwy t (look σ o)=some z→NoG gs z.lr→SR P t (S.callee gs) .bw (i,[]) z.x (a.eval o)∧∀g,z.g=some g→GvOK S σ g (a.eval o):=fun hx hn=>by
  obtain⟨h1,h2⟩:=zqh h hx hn (i,[])
  exact⟨h2,fun g hg=>by rw[h1]at hg;cases hg⟩
 cases pm with
 |bw=>
  cases t with
  |fn1 A R=>
   simp only[argV]at hx
   split at hx
   ·rename_i x hb
    cases hx
    exact hbw hb hn
   ·simp only[xad]at hx
    obtain⟨g,h1,rfl⟩:=hx
    exact⟨fn1_sound h h1 hn _,fun g hg=>by cases hg⟩
  |fn2 A B R=>
   simp only[argV]at hx
   split at hx
   ·rename_i x hb
    cases hx
    exact hbw hb hn
   ·simp only[xad]at hx
    obtain⟨g,h1,rfl⟩:=hx
    exact⟨fn2_sound h h1 hn _,fun g hg=>by cases hg⟩
  |ptr u=>
   obtain⟨h1,h2⟩:=ptr_sound h hx hn (i,[])
   exact⟨h2,fun g hg=>by rw[h1]at hg;cases hg⟩
  |_=>exact hbw hx hn
 |sh=>
  simp only[argV,argSh]at hx
  split at hx
  case h_2=>cases hx
  rename_i m x hv
  split at hx
  case isFalse=>cases hx
  rename_i hl
  cases hx
  obtain⟨p,h1⟩:=h.val hv
  exact⟨shareSR h1 hl,fun g hg=>by cases hg⟩
 |give m=>exact give_sound h hx hk hi hj
 |io m=>
  cases t with
  |ptr u=>exact io_sound h hx hk hi
  |slice u=>exact ioS_sound h hx hk hi
  |_=>cases hx
def argsV_ge:∀{ps:List (Ty×PM)} {os:List (Opd×Option (Nat×List TM))} {i:Nat} {xs:Vals (ptys ps)} {gs0:List (Nat×Gv)} {lr:List Nat},zpq FT i ps os=some (xs,gs0,lr)→∀e∈gs0,i≤e.1
 | [],[],i,xs,gs0,lr,hx=>by
  simp only[zpq,xat,xba]at hx
  obtain⟨_,rfl,_⟩:=hx
  exact fun e he=>by cases he
 | [],o::os,i,xs,gs0,lr,hx=>by simp[zpq]at hx
 |(t,pm)::ps,[],i,xs,gs0,lr,hx=>by simp[zpq]at hx
 |(t,pm)::ps,(o,q)::os,i,xs,gs0,lr,hx=>by
  simp only[zpq]at hx
  split at hx
  case h_2=>cases hx
  rename_i z xs' gs' lr' h1 h2
  simp only[xat,xba]at hx
  obtain⟨rfl,hgs,rfl⟩:=hx
  have ih:=argsV_ge h2
  intro e he
  rw[←hgs]at he
  split at he
  ·rcases xbd.1 he with rfl|he
   ·exact xak _
   ·have:=ih e he;omega
  ·have:=ih e he;omega
def ztc(h:InvOf P c σ a S)(hk:okG gs=true):∀{ps:List (Ty×PM)} {os:List Operand} {i:Nat} {xs:Vals (ptys ps)} {gs0:List (Nat×Gv)} {lr:List Nat},zpq FT i ps (os.map fun o=>(look σ o,zia σ o))=some (xs,gs0,lr)→NoG gs lr→(∀e∈gs0,e∈gs)→(∀k g,(k,g)∈gs→i≤k→(k,g)∈gs0) →
  os.length=(ptms ps xs).length∧(∀(j:Nat) (e:TM),(ptms ps xs)[j]?=some e→∃o,os[j]?=some o∧SR P e.t (S.callee gs) e.m (i+j,[]) e.x (a.eval o)) ∧
   ∀(k:Nat) (g:Gv),(k,g)∈gs0→∃j o,k=i+j∧os[j]?=some o∧GvOK S σ g (a.eval o)
 | [],[],i,xs,gs0,lr,hx,_,_,_=>by
  simp only[zpq,xgz,xat,xba]at hx
  obtain⟨_,rfl,_⟩:=hx
  exact⟨rfl,fun j e hj=>by simp[ptms]at hj,fun k g hg=>by cases hg⟩
 | [],o::os,i,xs,gs0,lr,hx,_,_,_=>by simp[zpq]at hx
 |(t,pm)::ps,[],i,xs,gs0,lr,hx,_,_,_=>by simp[zpq]at hx
 |(t,pm)::ps,o::os,i,xs,gs0,lr,hx,hn,hs,hs2=>by
  simp only[zpq,xen]at hx
  split at hx
  case h_2=>cases hx
  rename_i z xs' gs' lr' h1 h2
  simp only[xat,xba]at hx
  obtain⟨rfl,hgs,rfl⟩:=hx
  have hsub:∀e∈gs',e∈gs0:=fun e he=>by
   rw[←hgs]
   split
   ·exact xap _ he
   ·exact he
  have hsplit:∀k g,(k,g)∈gs0→(z.g=some g∧k=i)∨(k,g)∈gs':=fun k g hg=>by
   rw[←hgs]at hg
   split at hg
   ·rename_i g0 hg0
    rcases xbd.1 hg with he|he
    ·cases he;exact .inl ⟨hg0,rfl⟩
    ·exact .inr he
   ·exact .inr hg
  obtain⟨h3,h4,h5⟩:=ztc h hk h2 (fun r hr=>hn r (xic _ hr)) (fun e he=>hs e (hsub e he)) fun k g hg hk'=>by
   rcases hsplit k g (hs2 k g hg (by omega))with⟨_,rfl⟩|he
   ·omega
   ·exact he
  obtain⟨h6,h7⟩:=argV_sound h h1 (fun r hr=>hn r (xel _ hr)) hk (i:=i) (fun g hg=>hs _ (by rw[←hgs,hg];simp)) fun g hg=>by
   rcases hsplit i g (hs2 i g hg (xak _))with⟨he,_⟩|he
   ·exact he
   ·have:=argsV_ge h2 _ he
    simp only at this
    omega
  refine⟨by simp[ptms,h3],fun j e hj=>?_,fun k g hg=>?_⟩
  ·cases j with
   |zero=>
    simp only[ptms,xfv,xat]at hj
    subst hj
    exact⟨o,rfl,h6⟩
   |succ j=>
    simp only[ptms,xfd]at hj
    obtain⟨o',h8,h9⟩:=h4 j e hj
    exact⟨o',h8,by rw[show i+(j+1)=i+1+j by omega];exact h9⟩
  ·rw[←hgs]at hg
   have:(z.g=some g∧k=i)∨(k,g)∈gs':=by
    split at hg
    ·rename_i g0 hg0
     rcases xbd.1 hg with he|he
     ·cases he;exact .inl ⟨hg0,rfl⟩
     ·exact .inr he
    ·exact .inr hg
   rcases this with⟨he,rfl⟩|he
   ·exact⟨0,o,rfl,rfl,h7 g he⟩
   ·obtain⟨j,o',h8,h9,h10⟩:=h5 k g he
    exact⟨j+1,o',by omega,h9,h10⟩
end
def outAt:List (Nat×TM)→Nat→Option TM
 | [],_=>none
 |(k,e)::r,i=>if i=k then some e else outAt r i
def outAt_mem{l:List (Nat×TM)}{i:Nat}{e:TM}(h:outAt l i=some e):(i,e)∈l:=by
 induction l with
 |nil=>cases h
 |cons x l ih=>
  obtain⟨k,e'⟩:=x
  simp only[outAt]at h
  split at h
  ·rename_i he;cases h;subst he;simp
  ·exact xap _ (ih h)
def giveE(g:Gv)(out:Option TM):Option (Ent×Nat):=
 if g.io then match out with
  |some e=>if e.t=g.u∧e.m=g.k then match setP g.π g.t g.x ⟨e.t,e.x⟩,setM g.π g.t g.m e.m with
   |some x,some m=>some (.v g.t m x,1)
   |_,_=>none else none
  |none=>none
 else match g.π with
  | []=>some (.dead,0)
  | π=>(setM π g.t g.m .dead).map fun m=>(.v g.t m g.x,1)
def giveU:List (Nat×Gv)→List (Nat×TM)→Option Ups
 | [],_=>some []
 |(k,g)::gs,outs=>match giveE g (outAt outs k),giveU gs outs with
  |some (e,n),some us=>some ((g.r,e,n)::us)
  |_,_=>none
def resE(rs:List TM):Ent:=
 match rs with
 | [e]=>.v e.t e.m e.x
 |rs=>.tup rs
structure CallO where
 R:Type
 m:Option R
 us:R→Option Ups
def nobwS(s:Sig):Bool:=s.rs.all (·.2.nobw)&&(zfo s.ps).all (·.2.nobw)
def callE(sg:Sig)(den:Arr (ptys sg.ps) (Option (Ret sg.res)))(xs:Vals (ptys sg.ps))(gs:List (Nat×Gv))(d:Nat):CallO:=
 ⟨Ret sg.res,app _ den xs,fun y=>(giveU gs (sg.outTM y)).map fun us=>us++[(d,resE (sg.resTM y),0)]⟩
def callG{P:Program}(FT:List (TgE P))(d:Nat)(sg:Sig)(den:Arr (ptys sg.ps) (Option (Ret sg.res)))(os:List (Opd×Option (Nat×List TM))):Option CallO:=
 match zpq FT 0 sg.ps os with
 |some (xs,gs,lr)=>if okG gs&&(byR gs d).isNone&&lr.all (fun r=>(byR gs r).isNone)&&nobwS sg then some (callE sg den xs gs d)else none
 |none=>none
def callU{P:Program}(FT:List (TgE P))(d f:Nat)(os:List (Opd×Option (Nat×List TM))):Option CallO:=
 match zwq FT f with
 |some E=>callG FT d E.sg E.den os
 |none=>none
def callM{P:Program}(FT:List (TgE P))(d:Nat)(nm:String)(os:List (Opd×Option (Nat×List TM))):Option CallO:=
 match findM FT nm with
 |some E=>callG FT d E.sg E.den os
 |none=>none
def zep:∀{us:Ups} {σ:Env} {t:Nat},(∀u∈us,u.1≠t)→upd us σ t=σ t
 | [],_,_,_=>rfl
 |(s,e,k)::us,σ,t,h=>by
  show upd us (set1 σ s e k) t=_
  rw[zep fun u hu=>h u (xap _ hu)]
  exact zan σ e k (Ne.symm (h _ (xdb ..)))
def upd_at:∀{us:Ups} {σ:Env} {t:Nat} {e:Ent} {k:Nat},(us.map (·.1)).Nodup→(t,e,k)∈us→upd us σ t=bump k (σ t) e
 |(s,e',k')::us,σ,t,e,k,hd,hm=>by
  simp only[xen,xdx]at hd
  show upd us (set1 σ s e' k') t=_
  rcases xbd.1 hm with he|he
  ·cases he
   rw[zep fun u hu hut=>hd.1 (by rw[←hut];exact xhl hu),zah]
  ·have hne:t≠s:=fun hts=>hd.1 (by rw[←hts];exact xhl (f:=(·.1)) he)
   rw[upd_at hd.2 he,zan σ e' k' hne]
def zui:∀{gs:List (Nat×Gv)} {outs:List (Nat×TM)} {us:Ups},giveU gs outs=some us →
  us.map (·.1)=gs.map (·.2.r)∧∀(k:Nat) (g:Gv),(k,g)∈gs→∃e n,giveE g (outAt outs k)=some (e,n)∧(g.r,e,n)∈us
 | [],outs,us,h=>by cases h;exact⟨rfl,fun k g hg=>by cases hg⟩
 |(k,g)::gs,outs,us,h=>by
  unfold giveU at h
  split at h
  case h_2=>cases h
  rename_i e n us' h1 h2
  cases h
  obtain⟨h3,h4⟩:=zui h2
  refine⟨by simp[h3],fun k' g' hg=>?_⟩
  rcases xbd.1 hg with he|he
  ·cases he;exact⟨e,n,h1,by simp⟩
  ·obtain⟨e',n',h5,h6⟩:=h4 k' g' he
   exact⟨e',n',h5,xap _ h6⟩
def okG_nodup{gs:List (Nat×Gv)}(h:okG gs=true):(gs.map (·.2.r)).Nodup:=by
 induction gs with
 |nil=>simp
 |cons x gs ih=>
  obtain⟨i,g⟩:=x
  simp only[okG,xan,xev]at h
  simp only[xen,xdx]
  refine⟨fun hm=>?_,ih h.2⟩
  obtain⟨e,he,heq⟩:=xdg.1 hm
  exact zjd h.1.1 e he heq
def fromC(gs:List (Nat×Gv))(n d:Nat):Place→Option Place
 |(0,q)=>if n=1 then match q with | 0::ρ=>some (d,ρ) | _=>none else some (d,q)
 |(k+1,ρ)=>match byI gs k with
  |some g=>if g.io then some (pa (g.r,g.π) ρ)else none
  |none=>none
def St.after(S S':St)(gs:List (Nat×Gv))(n d:Nat):St where
 w:=S'.w
 F:=S'.F
 B:=S.B
 own b:=match S'.own b with
  |some z=>fromC gs n d z
  |none=>match S.own b with
   |some z=>match toC gs z with | none=>some z | some _=>none
   |none=>none
 hv z:=if z.1=d then S'.hv (0,if n=1 then 0::z.2 else z.2)else match byR gs z.1 with
  |some (k,g)=>if g.io then(match cut g.π z.2 with | some ρ=>S'.hv (k+1,ρ) | none=>S.hv z)else S.hv z
  |none=>S.hv z
section
variable {P:Program} {c:Ctx} {σ:Env} {a:Act} {S S':St} {gs:List (Nat×Gv)} {FT:List (TgE P)} {n d:Nat}
def after_old{b:Nat}(hf:Frm (S.callee gs) S'){z:Place}(hb:S.own b=some z)(hn:toC gs z=none):(S.after S' gs n d).own b=some z:=by
 have hl:S'.own b=none:=hf.lent b (.inr ⟨z,hb,hn⟩)
 simp only[St.after,hl,hb,hn]
def zgk(h:InvOf P c σ a S)(hf:Frm (S.callee gs) S'){b:Nat}(hb:S.F b∨S.B b∨∃z,S.own b=some z∧toC gs z=none):S'.w.heap[b]?=S.w.heap[b]?:=by
 refine hf.kept b (h.wlt (hb.imp id (·.imp id fun⟨z,hz,_⟩=>⟨z,hz⟩))) ?_
 rcases hb with hb|hb|⟨z,hz,hn⟩
 ·exact zjc (h.shared b hb).1
 ·exact zjc (h.WF.borrowed b hb).1
 ·simp[St.callee,hz,hn]
def afterTr0(hn:n=1):Tr false S' (S.after S' gs n d) (0,[0]) (d,[]) where
 F _ h:=h
 sF _ _:=rfl
 B h:=by cases h
 sB h:=by cases h
 hv r:=by simp[St.after,pa,hn]
 own b r hb:=⟨by simp only[St.after,hb];simp[pa,fromC,hn],rfl⟩
def afterTr(hn:n≠1)(k:Nat):Tr false S' (S.after S' gs n d) (0,[k]) (d,[k]) where
 F _ h:=h
 sF _ _:=rfl
 B h:=by cases h
 sB h:=by cases h
 hv r:=by simp[St.after,pa,hn]
 own b r hb:=⟨by simp only[St.after,hb];simp[pa,fromC,hn],rfl⟩
def afterTrG(hk:okG gs=true)(hd:byR gs d=none){k:Nat}{g:Gv}(hm:(k,g)∈gs)(hio:g.io=true):Tr false S' (S.after S' gs n d) (k+1,[]) (g.r,g.π) where
 F _ h:=h
 sF _ _:=rfl
 B h:=by cases h
 sB h:=by cases h
 hv r:=by
  have hne:g.r≠d:=zjd hd _ hm
  simp only[St.after,pa,if_neg hne,zol hk hm,hio,cut_app,if_true,xci]
 own b r hb:=⟨by simp only[St.after,hb];simp[pa,fromC,byI_mem hk hm,hio],rfl⟩
def after_hv{z:Place}(hd:z.1≠d)(hc:toC gs z=none):(S.after S' gs n d).hv z=S.hv z:=by
 simp only[St.after,if_neg hd]
 unfold toC at hc
 split
 ·rename_i k g hb
  rw[hb]at hc
  simp only[xgq]at hc
  split
  ·rw[hc]
  ·rfl
 ·rfl
def zwz{z:Place}(hd:z.1≠d)(hk:∀k g,byR gs z.1=some (k,g)→g.io=false):(S.after S' gs n d).hv z=S.hv z:=by
 simp only[St.after,if_neg hd]
 split
 ·rename_i k g hb
  rw[hk k g hb]
  rfl
 ·rfl
def afterFr(h:InvOf P c σ a S)(hf:Frm (S.callee gs) S')(hk:okG gs=true)(hd:byR gs d=none){k:Nat}{g:Gv}(hm:(k,g)∈gs):Fr S (S.after S' gs n d) (g.r,[]) g.π none where
 F b hb:=hf.F b hb
 sF b hb:=zgk h hf (.inl hb)
 B b hb:=.inr hb
 sB b hb:=zgk h hf (.inr (.inl hb))
 hv r hr:=by
  rw[zbh]
  refine after_hv (zjd hd _ hm) ?_
  unfold toC
  simp only[zol hk hm,xgq]
  cases hc:cut g.π r with
  |none=>rfl
  |some ρ=>exact absurd ⟨ρ,(zww hc).symm⟩ hr
 own b r hr hb:=by
  rw[zbh]at hb ⊢
  have hc:toC gs (g.r,r)=none:=by
   unfold toC
   simp only[zol hk hm,xgq]
   cases hc:cut g.π r with
   |none=>rfl
   |some ρ=>exact absurd ⟨ρ,(zww hc).symm⟩ hr
  exact⟨after_old hf hb hc,fun _=>zgk h hf (.inr (.inr ⟨_,hb,hc⟩))⟩
end
def zkr:∀{π:List Nat} {t:Ty} {q:List Nat} {o:Nat},locP π t=some (some q,o)→q.length<π.length
 | [],_,_,_,hl=>by simp[locP]at hl
 |i::π,.pair a b,q,o,hl=>by
  match i with
  | 0=>
   simp only[locP,xad]at hl
   obtain⟨⟨q',o'⟩,h1,h2⟩:=hl
   cases q' with
   |none=>simp at h2
   |some q'=>have:=zkr (π:=π) (t:=a) h1;simp at h2;rw[←h2.1];simpa using this
  | 1=>
   simp only[locP,xad]at hl
   obtain⟨⟨q',o'⟩,h1,h2⟩:=hl
   cases q' with
   |none=>simp at h2
   |some q'=>have:=zkr (π:=π) (t:=b) h1;simp at h2;rw[←h2.1];simpa using this
  |i+2=>simp[locP]at hl
 |i::π,.arr n t,q,o,hl=>by
  rw[zej]at hl
  simp only[xad]at hl
  obtain⟨⟨q',o'⟩,h1,h2⟩:=hl
  cases q' with
  |none=>simp at h2
  |some q'=>have:=zkr h1;simp at h2;rw[←h2.1];simpa using this
 |i::π,.slice t,q,o,hl=>by
  rw[zeb]at hl
  simp only[xad]at hl
  obtain⟨⟨q',o'⟩,h1,h2⟩:=hl
  cases q' with
  |none=>simp at h2;rw[h2.1];simp
  |some q'=>have:=zkr h1;simp at h2;rw[←h2.1];simpa using this
 |i::π,.ptr t,q,o,hl=>by
  match i with
  | 0=>
   simp only[locP,xad]at hl
   obtain⟨⟨q',o'⟩,h1,h2⟩:=hl
   cases q' with
   |none=>simp at h2;rw[h2.1];simp
   |some q'=>have:=zkr (π:=π) (t:=t) h1;simp at h2;rw[←h2.1];simpa using this
  |i+1=>simp[locP]at hl
 |_::_,.int _,_,_,hl=>by simp[locP]at hl
 |_::_,.bool,_,_,hl=>by simp[locP]at hl
 |_::_,.str,_,_,hl=>by simp[locP]at hl
 |_::_,.unit,_,_,hl=>by simp[locP]at hl
 |_::_,.fn1 _ _,_,_,hl=>by simp[locP]at hl
 |_::_,.fn2 _ _ _,_,_,hl=>by simp[locP]at hl
 |_::_,.alt _ _ _,_,_,hl=>by simp[locP]at hl
 |_::_,.nilI,_,_,hl=>by simp[locP]at hl
def locP_nopre{π:List Nat}{t:Ty}{q:List Nat}{o:Nat}(h:locP π t=some (some q,o)):¬π <+: q:=fun hp=>by
 have:=hp.length_le
 have:=zkr h
 omega
section
variable {P:Program} {c:Ctx} {σ σ':Env} {a:Act} {S S':St} {gs:List (Nat×Gv)} {FT:List (TgE P)} {n d:Nat}
def partAfter(h:InvOf P c σ a S)(hf:Frm (S.callee gs) S')(hk:okG gs=true)(hd:byR gs d=none){i:Nat}{g:Gv}(hm:(i,g)∈gs)(hr:(σ g.r).e=.v g.t g.m g.x){k k' m':Md}{u:Ty}{y':u.den}{x':g.t.den}(hmo:zbe g.π g.t g.m=some k)(hok:okP S g.π g.t (g.r,[]))
  (hset:setM g.π g.t g.m k'=some m') (hsp:setP g.π g.t g.x ⟨u,y'⟩=some x')
  (hrel:∀(s:Ty) (y:s.den) (cs':Cs),getP g.π g.t g.x=some ⟨s,y⟩→Rel P s S k (g.r,g.π) y cs'→Rel P u (S.after S' gs n d) k' (g.r,g.π) y' cs'):SR P g.t (S.after S' gs n d) m' (g.r,[]) x' (tmv a g.r):=by
 have hsr:=h.slot hr
 obtain⟨s,y,l,cs',h1,h2,h3,h4⟩:=Rel.at hsr.1 hmo hok
 rw[zbh]at h3
 have hnew:=hrel s y cs' h1 h3
 have hfr:Fr S (S.after S' gs n d) (g.r,[]) g.π none:=afterFr h hf hk hd hm
 refine⟨hsr.1.updAt h2 hset hsp hok ?_,hsr.2⟩
 obtain⟨q,o⟩:=l
 cases q with
 |none=>
  refine⟨hfr,?_⟩
  rw[zbh]
  have h4':cs'=fun i=>zab g.t (tmv a g.r) (o+i):=h4
  rw[←h4']
  exact hnew
 |some q=>
  obtain⟨b,h5,h6,h7,cur,e,h8⟩:=h4
  have hb:=(hfr.own b q (locP_nopre h2) h6).2 (by simp)
  refine⟨b,cur,cur,e,h5,h6,h8,hb.trans h8,rfl,fun _ _=>rfl,⟨hfr.F,hfr.sF,hfr.B,hfr.sB,hfr.hv,fun b' r' h9 h10=>⟨(hfr.own b' r' h9 h10).1,fun _=>(hfr.own b' r' h9 h10).2 (by simp)⟩⟩,?_⟩
  rw[zbh,←zlr h8,←h7]
  exact hnew
def giveSlot(h:InvOf P c σ a S)(hf:Frm (S.callee gs) S')(hk:okG gs=true)(hd:byR gs d=none){i:Nat}{g:Gv}(hm:(i,g)∈gs){v:Value}(hg:GvOK S σ g v){out:Option TM}{e:Ent}{j:Nat}(hx:giveE g out=some (e,j))
  (ho:∀e,out=some e→e.m.nobw=true∧SR P e.t S' e.m (i+1,[]) e.x v) {tm:Nat→Value} (htm:tm g.r=tmv a g.r) (hs:σ' g.r=bump j (σ g.r) e) :
  SlotOK P (S.after S' gs n d) σ' tm g.r∧Chg S (S.after S' gs n d) σ σ' g.r:=by
 obtain⟨hr,hok,⟨k,hmo,hmk⟩,⟨y,hgp⟩,hio⟩:=hg
 have hne:g.r≠d:=zjd hd _ hm
 unfold giveE at hx
 split at hx
 ·rename_i hi
  obtain⟨hv,hw,e1,k1,hk1⟩:=hio hi
  have hkk:=hmk hi
  subst hkk
  split at hx
  case h_2=>cases hx
  rename_i e0
  split at hx
  case isFalse=>cases hx
  rename_i hc
  split at hx
  case h_2=>cases hx
  rename_i x' m' hsp hset
  cases hx
  obtain⟨hnb,hsr⟩:=ho e0 rfl
  obtain⟨et,em,ex⟩:=e0
  simp only at hc hsp hset hnb hsr
  obtain⟨hc1,hc2⟩:=hc
  have hhdr:(∃w,et=.ptr w)∨∃w,et=.slice w:=by rw[hc1];exact hw
  have hgp':∃y:et.den,getP g.π g.t g.x=some ⟨et,y⟩:=by rw[hc1];exact⟨y,hgp⟩
  rw[hc2]at hnb hsr hset
  have hagg:et.agg=false:=by rcases hhdr with⟨w,rfl⟩|⟨w,rfl⟩<;>rfl
  have hsz:et.size=1:=by rcases hhdr with⟨w,rfl⟩|⟨w,rfl⟩<;>rfl
  have hcs0:∀{S0:St} {p0:Place} {x0:et.den} {cs0:Cs},Rel P et S0 g.k p0 x0 cs0→cs0 0=some (S0.hv p0):=fun{S0 p0 x0 cs0} h=>by
   rw[hk1]at h
   rcases hhdr with⟨w,rfl⟩|⟨w,rfl⟩
   ·exact h.1
   ·exact h.2.2.1
  have hhv:v=S'.hv (i+1,[]):=by
   have:=hcs0 hsr.1
   simpa[zab,hagg]using this
  have hkk1:=hk1
  refine⟨.v (by rw[hs,zpj]) ?_,.bump (k:=1) (h.gens _) hr hs (fun _=>?_) fun _ h=>absurd rfl h⟩
  ·rw[htm]
   refine partAfter h hf hk hd hm hr hmo hok hset hsp fun s y1 cs' h1 h2=>?_
   obtain⟨y2,hgp2⟩:=hgp'
   rw[hgp2]at h1
   cases h1
   refine hsr.1.mono (q:=false) (.inr hnb) (afterTrG hk hd hm hi) fun i hi=>?_
   have:i=0:=by omega
   subst this
   rw[hcs0 h2,←hv]
   simp[zab,hagg]
  ·show(S.after S' gs n d).hv (g.r,[])=_
   simp only[St.after,if_neg hne,zol hk hm,hi,if_true]
   cases hc:cut g.π []with
   |none=>rfl
   |some ρ=>
    have:=zww hc
    have hπ:g.π=[]∧ρ=[]:=by
     have:=this.symm
     simpa using this
    simp only[hπ.2]
    rw[←hhv,hv,hπ.1]
 ·rename_i hi
  have hi':g.io=false:=by simpa using hi
  split at hx
  ·cases hx
   refine⟨?_,?_⟩
   ·unfold SlotOK
    rw[hs,zpj]
    trivial
   ·exact⟨by rw[hs];exact xak _,.inl (by rw[hs];exact xct _)⟩
  ·simp only[xad,xba]at hx
   obtain⟨m',hset,rfl,rfl⟩:=hx
   refine⟨.v (by rw[hs,zpj]) ?_,.bump (k:=1) (h.gens _) hr hs (fun _=>?_) fun _ h=>absurd rfl h⟩
   ·rw[htm]
    refine partAfter h hf hk hd hm hr hmo hok hset (zfm hgp) fun s y1 cs' h1 h2=>?_
    rw[hgp]at h1
    cases h1
    exact(h2.weaken (zwh _ k)).dead_any fun _ _=>rfl
   ·refine zwz hne fun k g' hb=>?_
    rw[zol hk hm]at hb
    cases hb
    exact hi'
def resSlot(hf:Frm (S.callee gs) S'){rs:List TM}{v:Value}(hres:zxb P S' rs v)(hnb:∀e∈rs,e.m.nobw=true){tm:Nat→Value}(htm:tm d=v)(hs:(σ' d).e=resE rs):SlotOK P (S.after S' gs rs.length d) σ' tm d:=by
 unfold SlotOK
 rw[hs,htm]
 have htup:∀rs:List TM,rs.length≠1→(∃us,v=.tuple us∧us.size=rs.length∧∀(k:Nat) (e:TM),rs[k]?=some e→∃u,us[k]?=some u∧SR P e.t S' e.m (0,[k]) e.x u)→(∀e∈rs,e.m.nobw=true) →
   ∃us,v=.tuple us∧us.size=rs.length∧∀(k:Nat) (e:TM),rs[k]?=some e→∃u,us[k]?=some u∧SR P e.t (S.after S' gs rs.length d) e.m (d,[k]) e.x u:=fun rs hl ⟨us,h1,h2,h3⟩ hnb=>⟨us,h1,h2,fun k e hk=>by
  obtain⟨u,h4,h5⟩:=h3 k e hk
  exact⟨u,h4,h5.mono (q:=false) (.inr (hnb e (xhd hk))) (afterTr hl k)⟩⟩
 match rs,hres,hnb with
 | [],hres,hnb=>exact htup [] (by simp) hres hnb
 | [e],hres,hnb=>exact SR.mono (q:=false) hres (.inr (hnb e (by simp))) (afterTr0 rfl)
 |e::e'::rs,hres,hnb=>exact htup (e::e'::rs) (by simp) hres hnb
def InvOf.called(h:InvOf P c σ a S)(hk:okG gs=true)(hd:byR gs d=none)(hN:d<c.N)(hf:Frm (S.callee gs) S'){rs:List TM}{v:Value}(hres:zxb P S' rs v)(hnb:∀e∈rs,e.m.nobw=true){vs:List Value}{outs:List (Nat×TM)}
  (ho:∀(k:Nat) (e:TM),(k,e)∈outs→e.m.nobw=true∧∃u,vs[k]?=some u∧SR P e.t S' e.m (k+1,[]) e.x u) (hgv:∀(k:Nat) (g:Gv),(k,g)∈gs→∃u,vs[k]?=some u∧GvOK S σ g u) {us:Ups} (hus:giveU gs outs=some us) :
  InvOf P c (upd (us++[(d,resE rs,0)]) σ) (a.put (some d) v) (S.after S' gs rs.length d):=by
 obtain⟨hkeys,hgive⟩:=zui hus
 have hdk:d∉us.map (·.1):=by
  rw[hkeys]
  intro hm
  obtain⟨e,he,heq⟩:=xdg.1 hm
  exact zjd hd e he heq
 have hnd:((us++[(d,resE rs,0)]:Ups).map (·.1)).Nodup:=by
  rw[xdd,xdp]
  refine⟨by rw[hkeys];exact okG_nodup hk,by simp,fun x hx y hy hxy=>?_⟩
  simp at hy
  exact hdk (by rw[←hy,←hxy];exact hx)
 have hσd:upd (us++[(d,resE rs,0)]) σ d=bump 0 (σ d) (resE rs):=upd_at hnd (by simp)
 have hnone:∀t,t≠d→byR gs t=none→upd (us++[(d,resE rs,0)]) σ t=σ t:=fun t htd hb=>zep fun u hu hut=>by
  rcases xbq.1 hu with hu|hu
  ·have:t∈gs.map (·.2.r):=by rw[←hkeys,←hut];exact xhl hu
   obtain⟨e,he,heq⟩:=xdg.1 this
   exact zjd hb e he heq
  ·simp at hu
   rw[hu]at hut
   exact htd hut.symm
 have hput:tmv (a.put (some d) v) d=v:=zai (by rw[h.size];exact hN)
 have hslot:∀t,t≠d→∀e,byR gs t=some e→SlotOK P (S.after S' gs rs.length d) (upd (us++[(d,resE rs,0)]) σ) (tmv (a.put (some d) v)) t∧Chg S (S.after S' gs rs.length d) σ (upd (us++[(d,resE rs,0)]) σ) t:=fun t htd e he=>by
  obtain⟨k,g⟩:=e
  obtain⟨hm,hr⟩:=byR_some he
  simp only at hr
  subst hr
  obtain⟨x,j,hx,hmem⟩:=hgive k g hm
  obtain⟨u,hu,hg⟩:=hgv k g hm
  refine giveSlot h hf hk hd hm hg hx (fun e he=>?_) (zbj htd) (upd_at hnd (xel _ hmem))
  obtain⟨h1,u',h2,h3⟩:=ho k e (outAt_mem he)
  rw[hu]at h2
  cases h2
  exact⟨h1,h3⟩
 have hnew:∀b,(S.callee gs).own b≠none→b<S.w.heap.size∧(c.w0.heap.size≤b∨c.O b):=fun b hb=>by
  obtain⟨z,hz⟩:=xit.1 hb
  obtain⟨y,hy,_⟩:=zux hz
  exact h.owned b y hy
 refine h.rebuild (fun t=>t=d∨byR gs t≠none) (by simpa[Act.put]using h.defers) (by simpa[Act.put]using h.size) (fun t ht=>?_) (fun t ht=>?_) (fun t ht=>?_) hf.F (fun b hb=>zgk h hf (.inl hb)) rfl (fun b hb=>zgk h hf (.inr (.inl hb)))
  (fun t ht q=>?_) (fun t ht b q hb=>?_) (fun b hb=>?_) (fun b hb=>?_) (fun b p hb=>?_) hf.os hf.tape hf.output hf.size (fun b hb hO=>?_)
 ·have htd:t≠d:=fun e=>ht (.inl e)
  have htn:byR gs t=none:=xgg fun e=>ht (.inr e)
  exact⟨hnone t htd htn,zbj htd⟩
 ·by_cases htd:t=d
  ·subst htd
   exact⟨by rw[hσd];exact xak _,.inl (by rw[hσd];exact xct _)⟩
  ·obtain⟨e,he⟩:=xit.1 (ht.resolve_left htd)
   exact(hslot t htd e he).2
 ·by_cases htd:t=d
  ·subst htd
   exact resSlot hf hres hnb hput (by rw[hσd,zpj])
  ·obtain⟨e,he⟩:=xit.1 (ht.resolve_left htd)
   exact(hslot t htd e he).1
 ·have htd:t≠d:=fun e=>ht (.inl e)
  have htn:byR gs t=none:=xgg fun e=>ht (.inr e)
  exact after_hv htd (zgn htn)
 ·have htn:byR gs t=none:=xgg fun e=>ht (.inr e)
  have hc:toC gs (t,q)=none:=zgn htn
  exact⟨after_old hf hb hc,zgk h hf (.inr (.inr ⟨_,hb,hc⟩))⟩
 ·obtain⟨h1,h2,h3⟩:=hf.shared b hb
  refine⟨?_,h2,?_⟩
  ·show(S.after S' gs rs.length d).own b=none
   cases hs:S.own b with
   |none=>simp only[St.after,h1,hs]
   |some z=>
    cases hz:toC gs z with
    |some y=>simp only[St.after,h1,hs,hz]
    |none=>
     exfalso
     rcases h3 with h3|h3|h3
     ·rw[(h.shared b h3).1]at hs;cases hs
     ·have:=(h.owned b z hs).1
      have h3':S.w.heap.size≤b:=h3
      omega
     ·exact h3 (by simp[St.callee,hs,hz])
  ·rcases h3 with h3|h3|h3
   ·exact(h.shared b h3).2.2
   ·exact .inr (.inl (xbb h.grown h3))
   ·exact .inr (hnew b h3).2
 ·have h1:=(h.borrowed b hb).1
  have h2:S'.own b=none:=hf.lent b (.inl (by rw[h.lent];exact hb))
  show(S.after S' gs rs.length d).own b=none
  simp only[St.after,h2,h1]
 ·have hb':(S.after S' gs rs.length d).own b=some p:=hb
  cases hs':S'.own b with
  |some z=>
   obtain⟨h1,h2⟩:=hf.owned b z hs'
   refine⟨h1,?_⟩
   rcases h2 with h2|h2
   ·exact .inl (xbb h.grown h2)
   ·exact(hnew b h2).2
  |none=>
   cases hs:S.own b with
   |none=>simp only[St.after,hs',hs]at hb';cases hb'
   |some z=>exact⟨xau (h.owned b z hs).1 hf.size,(h.owned b z hs).2⟩
 ·refine hf.kept b (xau hb h.grown) (xgg fun hne=>?_)
  rcases(hnew b hne).2 with h1|h1
  ·omega
  ·exact hO h1
end
def one(d:Nat)(q:Option (Bool×Ent)):Option (Bool×Ups):=q.map fun q=>(q.1,[(d,q.2,0)])
def sure(q:Option Ups):Option (Bool×Ups):=q.map fun us=>(true,us)
def nilU(T:Tab)(fl ty d:Nat)(o:Opd):Option Ups:=
 match o with
 | .con (.slice none 0 0)=>match tl T ty with
  |some (i,.slice u)=>match i.k with
   | .slice e=>if 0<u.size then some [(d,.v (.slice u) (.own e (if fl=3 then .bw else .sh)) [],0)]else none
   |_=>none
  |_=>none
 | .con (.pointer none)=>some [(d,.dead,0)]
 |_=>none
def capE(o:Opd):Option Cap:=
 match o.ro with
 |some e=>some (.val ⟨.ptr e.t,.bw,e.x⟩)
 |none=>match o.place with
  |some p=>some (.ref p.r p.π (zvj p.c p.t p.π))
  |none=>none
def capsE(l:Operand→Opd):List Operand→Option (List Cap)
 | []=>some []
 |x::xs=>match capE (l x),capsE l xs with
  |some c,some cs=>some (c::cs)
  |_,_=>none
def injE:(t:Ty)→(xt:TypeId)→(u:Ty)→u.den→Option t.den
 | .alt tid a b,xt,u,x=>if tid=xt then(TV.to ⟨u,x⟩ a).map .inl else if b.size=1 then(injE b xt u x).map .inr else none
 | .int _,_,_,_=>none
 | .bool,_,_,_=>none
 | .str,_,_,_=>none
 | .unit,_,_,_=>none
 | .pair _ _,_,_,_=>none
 | .arr _ _,_,_,_=>none
 | .slice _,_,_,_=>none
 | .ptr _,_,_,_=>none
 | .fn1 _ _,_,_,_=>none
 | .fn2 _ _ _,_,_,_=>none
 | .nilI,_,_,_=>none
def ifcE(T:Tab)(t xt:TypeId)(o:Opd):Option (Bool×Ent):=
 match tl T t,tl T xt with
 |some (_,tt),some (i,u)=>match i.k with
  | .struct _=>match o.val u with
   |some (m,x)=>if leM u m .sh then(injE tt xt u x).map fun z=>(true,.v tt .sh z)else none
   |none=>none
  |_=>none
 |_,_=>none
def zhu:(t:Ty)→t.den→Bool
 | .alt _ _ b,x=>match x with
  | .inl _=>false
  | .inr z=>zhu b z
 | .int _,_=>true
 | .bool,_=>true
 | .str,_=>true
 | .unit,_=>true
 | .pair _ _,_=>true
 | .arr _ _,_=>true
 | .slice _,_=>true
 | .ptr _,_=>true
 | .fn1 _ _,_=>true
 | .fn2 _ _ _,_=>true
 | .nilI,_=>true
def isI:Ty→Bool
 | .alt _ _ b=>isI b
 | .nilI=>true
 |_=>false
def isnilE(T:Tab)(op:BinOp)(t:TypeId)(o:Opd):Option (Bool×Ent):=
 match tl T t with
 |some (i,tt)=>match i.k with
  | .iface=>if isI tt then match o.val tt with
   |some (m,x)=>if m=.dead then none else match op with
    | .eql=>some (true,.v .bool .sh (zhu tt x))
    | .neq=>some (true,.v .bool .sh (!zhu tt x))
    |_=>none
   |none=>none else none
  |_=>none
 |none=>none
def mthE(nm:String)(o:Opd):Option (Bool×Ent):=
 match o with
 | .slot _ c _=>match c.e with
  | .v t .sh x=>if isI t&&leM t .sh .bw then some (true,.mth nm ⟨t,.bw,x⟩)else none
  |_=>none
 |_=>none
def cvtE(T:Tab)(s t:TypeId)(o:Opd):Option Ent:=
 match tl T s,tl T t with
 |some (_,.slice (.int .u8)),some (_,.str)=>match o.val (.slice (.int .u8))with
  |some (m,xs)=>if m≠ .dead∧(elm m=.sh∨elm m=.bw)then some (.v .str .sh xs)else none
  |none=>none
 |_,_=>none
def clearU(T:Tab)(t:Nat)(o:Opd):Option Ups:=
 match tl T t,o with
 |some (i,.slice (.int k)),.slot _ c root=>match i.k with
  | .slice e=>match tl T e with
   |some (j,_)=>match cval (.int k) j.zero,c.e with
    |some z,.tail r s lo=>match root.e with
     | .v (.slice (.int k')) (.own e' M) xs=>if k'=k∧root.h=s∧leM (.int k) .sh M=true then some [(r,.v (.slice (.int k')) (.own e' M) ((xs:List Int).take lo++List.replicate ((xs:List Int).length-lo) (z:Int)),0)]else none
     |_=>none
    |_,_=>none
   |none=>none
  |_=>none
 |_,_=>none
noncomputable def step (T:Tab) (fl:Nat) (o:Oper) (l:Operand→Opd):Option (Bool×Ups):=
 match o.dst with
 |none=>match o.op with
  | .store t x y=>sure (storeU T t (l x) (l y))
  | .call {callee:=.builtin .clear,args:=⟨[x]⟩,argTypes:=⟨[t]⟩}=>sure (clearU T t (l x))
  |_=>none
 |some d=>match o.op with
  | .assign x=>if fl≥2 then sure (nilU T fl o.type d (l x))else sure (asgU T o.type d (l x))
  | .move x=>if fl≥2 then sure (nilU T fl o.type d (l x))else if fl=1 then sure (asgU T o.type d (l x))else one d (zif T o l)
  | .alloc t=>sure (allocU T d t)
  | .box t x=>sure (boxX T d t (l x))
  | .call {callee:=.builtin .append,args:=⟨[x,y]⟩,argTypes:=⟨[t,u]⟩}=>if t=u then appU T o.type d t (l x) (l y)else appZ T o.type d t u (l x) (l y)
  | .makeSlice t x y=>makeU T d t (l x) (l y)
  | .buildSlice t n ps=>sure (litU T fl d t n ps.toList l)
  | .build t ps=>if 4≤fl then sure (zuy T fl d t ps.toList l)else one d ((buildE T t ps.toList l).map fun e=>(true,e))
  | .slice t x lo hi none=>sliceU T o.type d t (l x) (lo.map l) (hi.map l)
  | .extract x i=>sure (extU d i (l x))
  | .makeFunc (.func f) ⟨[]⟩ ⟨xs⟩=>one d ((capsE l xs).map fun cs=>(true,.clo f cs))
  | .makeFunc (.method nm) ⟨[x]⟩ ⟨[]⟩=>one d (mthE nm (l x))
  | .makeInterface xt x=>one d (ifcE T o.type xt (l x))
  | .binOp op t x (.const .nilIface) _=>one d (isnilE T op t (l x))
  | .convert s t x=>match cvtE T s t (l x)with
   |some e=>one d (some (true,e))
   |none=>one d (zif T o l)
  |_=>one d (zif T o l)
def within(N:Nat)(o:Oper):Bool:=match o.dst with | some d=>decide (d<N) | none=>true
section
variable {P:Program} {c:Ctx} {σ:Env} {a:Act} {S:St} {T:Tab}
def nil_sound(h:InvOf P c σ a S){fl ty d:Nat}(hd:d<c.N){o:Operand}{us:Ups}(hx:nilU T fl ty d (look σ o)=some us):∃S1,S1.w=S.w∧InvOf P c (upd us σ) (a.put (some d) (a.eval o)) S1:=by
 unfold nilU at hx
 split at hx
 rotate_left
 ·cases hx
  refine⟨S,rfl,h.put (.refl _) rfl rfl hd (fun _ _ _=>rfl) (fun _=>.inl rfl) ?_⟩
  unfold SlotOK
  rw[zbi]
  trivial
 ·cases hx
 rename_i ho
 split at hx
 case h_2=>cases hx
 rename_i i u ht
 split at hx
 case h_2=>cases hx
 rename_i e hk
 split at hx
 case isFalse=>cases hx
 rename_i hpos
 cases hx
 have hv:a.eval o=.slice none 0 0:=by
  cases o with
  |const v=>simp only[look,Opd.con.injEq]at ho;subst ho;rfl
  |tmp t=>simp[look]at ho
  |func f=>simp[look]at ho
  |global g=>simp[look]at ho
 rw[hv]
 refine⟨{S with hv:=fun z=>if z=(d,[])then .slice none 0 0 else S.hv z},rfl,?_⟩
 refine h.put (S':={S with hv:=fun z=>if z=(d,[])then .slice none 0 0 else S.hv z}) (.refl _) rfl rfl hd (fun t ht q=>?_) (fun _=>.inl rfl) (.v (zbi σ d _ 0) ?_)
 ·exact if_neg fun he=>ht (by cases he;rfl)
 ·rw[zai (by rw[h.size];exact hd)]
  refine⟨⟨xbz _,hpos,?_,.inl ⟨if_pos rfl,rfl⟩⟩,fun h=>by cases h⟩
  show zab (.slice u) (.slice none 0 0) 0=some (if(d,[])=(d,[])then _ else _)
  rw[if_pos rfl]
  rfl
def cap_sound(h:InvOf P c σ a S){o:Operand}{x:Cap}(hx:capE (look σ o)=some x):CapOK P S σ (a.eval o) x:=by
 unfold capE at hx
 split at hx
 ·rename_i e he
  cases hx
  obtain⟨h1,b,off,h2,h3,p,h4⟩:=h.ro he
  refine⟨?_,fun h=>by cases h⟩
  rw[h2]
  refine⟨b,off,by simp[zab,Ty.agg],fun hs=>?_,?_⟩
  ·rcases h3 hs with h5|h5
   ·exact .inl h5
   ·exact .inr ⟨rfl,h5.2⟩
  ·have hl:=zdd h1 e.t
   rcases h1 with h1|h1
   ·rw[h1]at h4 hl
    exact(h4.weaken (leM_sh (.inr rfl) _)).fut (.inr rfl) ((Fut2.refl S).sh _) fun _ _=>rfl
   ·rw[h1]at h4
    exact h4.fut (.inr rfl) ((Fut2.refl S).sh _) fun _ _=>rfl
 ·split at hx
  case h_2=>cases hx
  rename_i p hp
  cases hx
  obtain⟨hr,hc,hπ,hok,q,off,b,h2,h3,h4⟩:=h.place hp
  show RefOK S σ p.r p.π _ _
  rw[hc,h4]
  exact h.refTo hr h2 hok h3
def caps_fit(h:InvOf P c σ a S):∀{xs:List Operand} {cs:List Cap},capsE (look σ) xs=some cs→(xs.map a.eval).length=cs.length∧∀(k:Nat) (x:Cap),cs[k]?=some x→∃u,(xs.map a.eval)[k]?=some u∧CapOK P S σ u x
 | [],cs,hx=>by cases hx;exact⟨rfl,fun k x hk=>by simp at hk⟩
 |o::xs,cs,hx=>by
  simp only[capsE]at hx
  split at hx
  case h_2=>cases hx
  rename_i x cs' h1 h2
  cases hx
  obtain⟨h3,h4⟩:=caps_fit h h2
  refine⟨by simpa using h3,fun k y hk=>?_⟩
  cases k with
  |zero=>cases hk;exact⟨_,rfl,cap_sound h h1⟩
  |succ k=>exact h4 k y hk
def inj_sound{S:St}{xt:TypeId}{u:Ty}{x:u.den}{v:Value}:∀{t:Ty} {z:t.den} {p:Place},injE t xt u x=some z→(∀p,SR P u S .sh p x v)→t.agg=false∧Rel P t S .sh p z (fun i=>if i=0 then some (.iface xt v)else none):=by
 intro t
 induction t with
 |alt tid A B iha ihb=>
  intro z p hz hv
  unfold injE at hz
  split at hz
  ·rename_i he
   subst he
   simp only[xad]at hz
   obtain⟨y,h1,rfl⟩:=hz
   have:=TV.to_some h1
   cases this
   refine⟨rfl,v,rfl,(hv _).1,(hv p).2⟩
  ·split at hz
   case isFalse=>cases hz
   rename_i hs
   simp only[xad]at hz
   obtain⟨y,h1,rfl⟩:=hz
   exact⟨rfl,hs,(ihb h1 hv).2⟩
 |_=>intro z p hz _;simp[injE]at hz
def ifc_sound(h:InvOf P c σ a S)(hT:TabOK P T){t xt:TypeId}{o:Operand}{e:Ent}{ob:Bool}(hx:ifcE T t xt (look σ o)=some (ob,e)) :
  (Instr.makeInterface xt (a.eval o)).run P S.w=.ok (.iface xt (a.eval o)) S.w∧zje P S σ e (.iface xt (a.eval o)):=by
 unfold ifcE at hx
 split at hx
 case h_2=>cases hx
 rename_i i0 tt i u h1 h2
 split at hx
 case h_2=>cases hx
 rename_i offs hk
 split at hx
 case h_2=>cases hx
 rename_i m x hv
 split at hx
 case isFalse=>cases hx
 rename_i hl
 simp only[xad,xba]at hx
 obtain⟨z,h3,_,rfl⟩:=hx
 obtain⟨j,d,hi,hd,_,_,_,hkd⟩:=zax (hT _ _ _ h2).1
 rw[hk]at hkd
 refine⟨?_,rfl,(0,[]),?_⟩
 ·unfold Instr.makeInterface
  rw[Sem.run_bind,run_underlying hd S.w]
  cases d<;>simp[tyK]at hkd<;>rfl
 ·obtain⟨p,hp⟩:=h.val hv
  have hs:=inj_sound (P:=P) (S:=S) (xt:=xt) (v:=a.eval o) (p:=(0,[])) h3 fun p'=>⟨(hp.1.weaken hl).fut (.inl rfl) ((Fut2.refl S).sh _) fun _ _=>rfl,hp.2⟩
  refine⟨?_,fun h=>by rw[hs.1]at h;cases h⟩
  unfold zab
  rw[hs.1]
  exact hs.2
def isNil_sound{S:St}:∀{t:Ty} {x:t.den} {m:Md} {p:Place} {cs:Cs},isI t=true→m≠ .dead→Rel P t S m p x cs→if zhu t x then cs 0=some .nilIface else∃tid v,cs 0=some (.iface tid v):=by
 intro t
 induction t with
 |alt tid A B iha ihb=>
  intro x m p cs hi hm h
  cases x with
  |inl y=>
   rw[Rel.alt_inl hm]at h
   obtain⟨v,h1,_⟩:=h
   simp only[zhu]
   exact⟨_,_,h1⟩
  |inr z=>
   rw[Rel.alt_inr hm]at h
   exact ihb hi hm h.2
 |nilI=>
  intro x m p cs hi hm h
  simp only[zhu,if_true]
  cases m<;>first | exact absurd rfl hm | exact h
 |_=>intro x m p cs hi;simp[isI]at hi
def eqGuard_nil(o:BinOp)(t:TypeId)(x:Operand)(w:World):(eqGuard o t x (.const .nilIface) .nilIface .nilIface).run P w=.ok () w:=by cases o<;>cases x<;>rfl
def zwt(o:BinOp)(t:TypeId)(x:Operand)(tid:TypeId)(v:Value)(w:World):(eqGuard o t x (.const .nilIface) (.iface tid v) .nilIface).run P w=.ok () w:=by cases o<;>rfl
def isnil_sound(h:InvOf P c σ a S)(hT:TabOK P T){op:BinOp}{t:TypeId}{x:Operand}{e:Ent}{ob:Bool}(hx:isnilE T op t (look σ x)=some (ob,e)) :
  ∃v,(do eqGuard op t x (.const .nilIface) (a.eval x) .nilIface;Go.binOp op t (a.eval x) .nilIface:Sem Value).run P S.w=.ok v S.w∧zje P S σ e v:=by
 unfold isnilE at hx
 split at hx
 case h_2=>cases hx
 rename_i i tt h1
 split at hx
 case h_2=>cases hx
 rename_i hk
 split at hx
 case isFalse=>cases hx
 rename_i hI
 split at hx
 case h_2=>cases hx
 rename_i m y hv
 split at hx
 ·cases hx
 rename_i hm
 obtain⟨j,d,hi,hd,_,_,_,hkd⟩:=zax (hT _ _ _ h1).1
 rw[hk]at hkd
 have hd':∃ms,d=.interface ms:=by
  cases d<;>simp[tyK]at hkd
  exact⟨_,rfl⟩
 obtain⟨ms,rfl⟩:=hd'
 obtain⟨p,hp⟩:=h.val hv
 have hag:tt.agg=false:=by cases tt<;>simp[isI]at hI<;>rfl
 have h2:=isNil_sound hI hm hp.1
 have h3:zab tt (a.eval x) 0=some (a.eval x):=by unfold zab;rw[hag];rfl
 rw[h3]at h2
 have hok:∀b:Bool,zje P S σ (.v .bool .sh b) (.bool b):=fun b=>⟨rfl,(0,[]),SR.of_bool b⟩
 have key:∃b:Bool,b=zhu tt y∧(Op.equal t (a.eval x) .nilIface).run P S.w=.ok b S.w∧∀o,(eqGuard o t x (.const .nilIface) (a.eval x) .nilIface).run P S.w=.ok () S.w:=by
  cases hn:zhu tt y with
  |true=>
   rw[hn]at h2
   simp only[if_true,xat]at h2
   rw[h2]
   refine⟨true,rfl,?_,fun o=>?_⟩
   ·exact(show∀n,(Op.equalIn (n+1) t _ _).run P S.w=_ from fun n=>by unfold Op.equalIn;rw[Sem.run_bind,run_underlying hd S.w];rfl) 9999
   ·exact eqGuard_nil _ _ _ _
  |false=>
   rw[hn]at h2
   simp only[xaw,xbf,xat]at h2
   obtain⟨tid,v,h2⟩:=h2
   rw[h2]
   refine⟨false,rfl,?_,fun o=>?_⟩
   ·exact(show∀n,(Op.equalIn (n+1) t _ _).run P S.w=_ from fun n=>by unfold Op.equalIn;rw[Sem.run_bind,run_underlying hd S.w];rfl) 9999
   ·exact zwt _ _ _ _ _ _
 obtain⟨b,hb,h4,h5⟩:=key
 have h6:∃tid v,a.eval x=.iface tid v∨a.eval x=.nilIface:=by
  split at h2
  ·exact⟨0,.nilIface,.inr (by simpa using h2)⟩
  ·obtain⟨tid,v,h2⟩:=h2;exact⟨tid,v,.inl (by simpa using h2)⟩
 split at hx
 ·cases hx
  refine⟨.bool b,?_,by rw[←hb];exact hok b⟩
  rw[Sem.run_bind,h5]
  simp only[Result.andThen_ok]
  obtain⟨tid,v,h6|h6⟩:=h6<;>(rw[h6]at h4 ⊢;simp[Go.binOp,h4])
 ·cases hx
  refine⟨.bool (!b),?_,by rw[←hb];exact hok _⟩
  rw[Sem.run_bind,h5]
  simp only[Result.andThen_ok]
  obtain⟨tid,v,h6|h6⟩:=h6<;>(rw[h6]at h4 ⊢;simp[Go.binOp,h4])
 ·cases hx
def mth_sound(h:InvOf P c σ a S){nm:String}{o:Operand}{e:Ent}{ob:Bool}(hx:mthE nm (look σ o)=some (ob,e)):zje P S σ e (.func (.method nm) #[a.eval o] #[]):=by
 unfold mthE at hx
 split at hx
 case h_2=>cases hx
 rename_i t cc rt ho
 split at hx
 case h_2=>cases hx
 rename_i ty x hc
 split at hx
 case isFalse=>cases hx
 rename_i hl
 simp only[xan]at hl
 cases hx
 cases o with
 |tmp s=>
  simp only[look,Opd.slot.injEq]at ho
  obtain⟨rfl,rfl,_⟩:=ho
  have hs:=h.slot hc
  refine⟨a.eval (.tmp s),rfl,?_⟩
  rw[zbb]
  exact⟨(hs.1.weaken hl.2).fut (.inr rfl) ((Fut2.refl S).sh _) fun _ _=>rfl,hs.2⟩
 |const v=>simp[look]at ho
 |func f=>simp[look]at ho
 |global g=>simp[look]at ho
def u8_range{n:Int}(h:IntKind.u8.wrap n=n):0≤n∧n<256:=by
 have:=zlf .u8 h
 simp only[IntKind.min,IntKind.max,IntKind.bits,IntKind.signed]at this
 simp at this
 omega
def str_nums{xs:List Int}(h:∀x∈xs,0≤x∧x<256):(strOfNums xs).data.toList.map (fun c=>(c.toNat:Int))=xs:=by
 rw[strOfNums_data,List.map_map]
 conv=>rhs;rw[←List.map_id xs]
 refine xfz fun x hx=>?_
 have:=h x hx
 show((UInt8.ofNat x.toNat).toNat:Int)=x
 rw[UInt8.toNat_ofNat']
 omega
def cvt_sound(h:InvOf P c σ a S)(hT:TabOK P T){s t:TypeId}{o:Operand}{e:Ent}(hx:cvtE T s t (look σ o)=some e):∃v,(convert s t (a.eval o)).run P S.w=.ok v S.w∧zje P S σ e v:=by
 unfold cvtE at hx
 split at hx
 case h_2=>cases hx
 rename_i i1 i2 ht ht'
 split at hx
 case h_2=>cases hx
 rename_i m xs hv
 split at hx
 case isFalse=>cases hx
 rename_i hm
 cases hx
 obtain⟨hm0,hk⟩:=hm
 obtain⟨hty,_,_,hkind⟩:=hT.kind ht
 obtain⟨_,d1,_,hd1,_,_,_,hk1⟩:=zax hty
 obtain⟨e0,i0,hke,hte,_⟩:=zcy hkind
 have:=zeu (hk1.trans (xbx some hke))
 subst this
 obtain⟨hty0,_,_,hkind0⟩:=hT.kind hte
 obtain⟨_,d0,_,hd0,_,_,_,hk0⟩:=zax hty0
 have:=tyK_int (hk0.trans (xbx some (zoe hkind0)))
 subst this
 obtain⟨hty2,_,_,hkind2⟩:=hT.kind ht'
 obtain⟨_,d2,_,hd2,_,_,_,hk2⟩:=zax hty2
 have:=znm (hk2.trans (xbx some (zod hkind2)))
 subst this
 obtain⟨p,hs⟩:=h.val hv
 have hl:=hs.1.1
 have fin:∀b:ByteArray,b.data.toList.map (fun c=>(c.toNat:Int))=xs→zje P S σ (.v .str .sh xs) (.string b):=fun b hb=>
  ⟨rfl,(0,[]),⟨b,by simp[zab,Ty.agg],hb,hl⟩,fun h=>by cases h⟩
 rcases rows_of hs hm0 with⟨hX,rfl⟩|⟨ad,hX,rfl⟩|⟨b,off,cap,hX,_,hel⟩
 ·exact⟨_,by rw[hX];exact run_convert_bytes_nil S.w s e0 hd1 hd0 0 0 t hd2,fin _ rfl⟩
 ·refine⟨.string ByteArray.empty,?_,fin _ rfl⟩
  rw[hX,run_convert_bytes_string S.w s t e0 _ 0 0 hd1 hd0 hd2]
  simp[Conv.bytesToString,loadCells,loadCellsFrom]
 ·have hcell:∀i,i<xs.length→S.w.cell? ⟨b,off+i,none⟩=some (.int .u8 (xs.getD i 0))∧IntKind.u8.wrap (xs.getD i 0)=xs.getD i 0:=fun i hi=>by
   obtain⟨q,h1⟩:=hel i hi
   have e1:xs.getD i 0=xs[i]:=by rw[xae,xar hi];rfl
   have h2:blk S.w b (off+i*Ty.size (.int .u8)) 0=some (.int .u8 xs[i])∧IntKind.u8.wrap xs[i]=xs[i]:=by
    rcases hk with hk|hk<;>rw[hk]at h1<;>exact h1
   rw[e1]
   refine⟨?_,h2.2⟩
   have h3:=h2.1
   unfold blk at h3
   simpa[Ty.size]using h3
  refine⟨_,by rw[hX];exact run_convert_bytes_arg S.w s e0 hd1 hd0 b off _ cap xs rfl (fun i hi=>(hcell i hi).1) t hd2,fin _ (str_nums fun x hx=>?_)⟩
  obtain⟨i,hi,rfl⟩:=xcm hx
  have:=(hcell i hi).2
  rw[xae,xar hi]at this
  exact u8_range this
def zik{d:Nat}{q:Option (Bool×Ent)}{ob:Bool}{us:Ups}(h:one d q=some (ob,us)):∃e,q=some (ob,e)∧us=[(d,e,0)]:=by
 simp only[one,xad,xba]at h
 obtain⟨⟨ob',e⟩,h1,rfl,rfl⟩:=h
 exact⟨e,h1,rfl⟩
def zdo{q:Option Ups}{ob:Bool}{us:Ups}(h:sure q=some (ob,us)):q=some us:=by
 simp only[sure,xad,xba]at h
 obtain⟨us',h1,_,rfl⟩:=h
 exact h1
def zvy(h:InvOf P c σ a S)(hT:TabOK P T){o:Oper}{d:Nat}(hdst:o.dst=some d)(hd:d<c.N){ob:Bool}{us:Ups}(hx:one d (zif T o (look σ))=some (ob,us))(hob:ob=true):Does P o a S.w (Inv P c (upd us σ)):=by
 obtain⟨e,h1,rfl⟩:=zik hx
 obtain⟨v,h2,h3⟩:=step1_sound h hT h1 hob
 exact⟨S.w,.inl ⟨v,h2,S,rfl,by rw[hdst];exact h.putE hd h3⟩⟩
def clear_sound(h:InvOf P c σ a S)(hT:TabOK P T){t ty:Nat}{o:Operand}{us:Ups}(hx:clearU T t (look σ o)=some us) :
  ∃v w',(Builtin.clear_ #[t] ty #[a.eval o]).run P S.w=.ok v w'∧Inv P c (upd us σ) a w':=by
 unfold clearU at hx
 split at hx
 case h_2=>cases hx
 rename_i i k s0 c0 root ht ho
 cases o with
 |const v=>simp[look]at ho
 |func f=>simp[look]at ho
 |global g=>simp[look]at ho
 |tmp q=>
  simp only[look,Opd.slot.injEq]at ho
  obtain⟨rfl,rfl,rfl⟩:=ho
  split at hx
  case h_2=>cases hx
  rename_i e he0
  split at hx
  case h_2=>cases hx
  rename_i j jt hte
  split at hx
  case h_2=>cases hx
  rename_i z r s lo hz he
  have hrt:zdl σ (σ q).e=σ r:=by rw[he];rfl
  rw[hrt]at hx
  split at hx
  case h_2=>cases hx
  rename_i k' e' M xs hroot
  split at hx
  case isFalse=>cases hx
  rename_i hcond
  obtain⟨rfl,hgen,hle⟩:=hcond
  cases hx
  obtain⟨hty,_,_,hkind⟩:=hT.kind ht
  obtain⟨_,d1,_,hd1,_,_,_,hk1⟩:=zax hty
  have:=zeu (hk1.trans (xbx some he0))
  subst this
  obtain⟨hty1,_,_,_⟩:=hT.kind hte
  obtain⟨j',d',hi',hd',hzz,_,_,_⟩:=zax hty1
  have hzs:=zcx (P:=P) (S:=S) (p:=(0,[])) hz
  obtain⟨hz1,hz2⟩:=hzs.int_inv (by simp)
  have hsr:=h.slot hroot
  have hhd:=h.hdr hroot
  have hrN:r<a.tmps.size:=by
   rcases xcy r a.tmps.size with h'|h'
   ·exact h'
   ·exfalso
    have:tmv a r=undef:=by unfold tmv;rw[xfg,xga h'];rfl
    rw[hhd]at this
    rcases hsr.1.2.2.2 with⟨q1,_⟩|⟨g,cap,cur,q1,_⟩<;>rw[q1]at this<;>cases this
  have hs:=h.slots q
  unfold SlotOK at hs
  rw[he]at hs
  obtain⟨_,hs⟩:=hs
  obtain⟨u,hu,htail⟩:=hs _ _ _ hroot hgen
  cases hu
  have hrd:r<c.N:=by rw[←h.size];exact hrN
  have hun:∀(w':World),InvOf P c (set1 σ r (.v (.slice (.int k')) (.own e' M) ((xs:List Int).take lo++List.replicate ((xs:List Int).length-lo) (z:Int))) 0) (a.put (some r) (S.hv (r,[])))=InvOf P c (set1 σ r (.v (.slice (.int k')) (.own e' M) ((xs:List Int).take lo++List.replicate ((xs:List Int).length-lo) (z:Int))) 0) a:=fun _=>by
   rw[←hhd,zvu]
  rcases hsr.1.2.2.2 with⟨q1,q2⟩|⟨g,cap,cur,q1,q2,q3,q4,q5,q6,q7⟩
  ·rcases htail with⟨A,A',c1,c2,h1,h2⟩|⟨g,n,c1,c2,h1,_⟩
   ·rw[q1]at h2
    cases h2
    refine⟨.tuple #[],S.w,?_,?_⟩
    ·rw[zbb,h1]
     cases A<;>simp[Builtin.clear_,run_underlying hd1]
    ·obtain⟨S',e1,_,_,e2⟩:=h.regrow hrd hroot (zs:=(xs:List Int).take 0++List.replicate ((xs:List Int).length-0) (z:Int)) (w':=S.w) (v':=.slice none 0 0) ⟨rfl,rfl,rfl,xak _,fun _ _ _=>rfl⟩ (fun b hb=>by cases hb) (cs:=[]) (by rw[q2];exact World.ownsRow_nil _ _ _ _) (by rw[q2];exact xbz _) (fun S' _ _ _ i hi=>by rw[q2]at hi;simp at hi)
     rw[←q1,hun S.w]at e2
     exact⟨S',e1,e2⟩
   ·rw[q1]at h1
    cases h1
  ·have hlo:lo≤(xs:List Int).length:=by
    rcases htail with⟨_,_,_,_,_,h2⟩|⟨_,n,_,_,h2,h3,_⟩
    ·rw[q1]at h2;cases h2;exact xak _
    ·rw[q1]at h2;cases h2;omega
   have hcs:cur.size=cap:=by simpa[Ty.size]using q6
   have hzl:((xs:List Int).take lo++List.replicate ((xs:List Int).length-lo) (z:Int)).length=(xs:List Int).length:=by
    rw[xbk,xbj,xce];omega
   have key:∀(w':World) (cur':Array Value),w'.heap[g]?=some (.cells cur' e' (0,0))→cur'.size=cur.size→S.w.grownBy w' (some g)→(∀i,i<lo→cur'[i]?=cur[i]?)→(∀i,lo≤i→i<(xs:List Int).length→cur'[i]?=some (.int k' z)) →
     Inv P c (set1 σ r (.v (.slice (.int k')) (.own e' M) ((xs:List Int).take lo++List.replicate ((xs:List Int).length-lo) (z:Int))) 0) a w':=fun w' cur' k1 k2 k3 k4 k5=>by
    obtain⟨S',e1,_,_,e2⟩:=h.regrow hrd hroot (zs:=(xs:List Int).take lo++List.replicate ((xs:List Int).length-lo) (z:Int)) (w':=w') (v':=.slice (some ⟨g,0,none⟩) (xs:List Int).length cap) (by rw[q1];exact k3) (fun b hb=>.inl (by rw[q1];exact hb)) (cs:=cur'.toList.take (xs:List Int).length)
     ⟨by rw[xbj,hzl];have hct:cur'.toList.length=cur'.size:=xcc;simp only[Ty.size,xdu];omega,.inr ⟨g,cap,cur',by rw[hzl],xbz _,k1,by rw[hzl];exact q4,q5,by rw[k2,hcs];simp[Ty.size],by rw[hzl];simp[Ty.size]⟩⟩ (by rw[hzl];exact hsr.1.1) (fun S' hw' htr hf i hi=>by
      have hi':i<(xs:List Int).length:=by rw[hzl]at hi;exact hi
      by_cases hil:i<lo
      ·have he1:((xs:List Int).take lo++List.replicate ((xs:List Int).length-lo) (z:Int))[i]=(xs:List Int)[i]:=by
        rw[xjj (by rw[xbj];omega),xhc]
       rw[he1]
       have h0:=q7 i hi'
       refine h0.mono (q:=true) (.inl rfl) ((htr [i]).resolve_right (by simp)) fun j hj=>?_
       have hj0:j=0:=by simp only[Ty.size]at hj;omega
       subst hj0
       simp only[Ty.size,xdu,xdl]
       rw[xdt,if_pos hi',xbm,k4 i hil]
      ·have he1:((xs:List Int).take lo++List.replicate ((xs:List Int).length-lo) (z:Int))[i]=z:=by
        rw[xjc (by rw[xbj];omega),xhx]
       rw[he1]
       have h0:Rel P (.int k') S' .sh (r,[i]) z (fun j=>(cur'.toList.take (xs:List Int).length)[i*Ty.size (.int k')+j]?):=by
        refine⟨?_,hz2⟩
        simp only[Ty.size,xdu,xdl]
        rw[xdt,if_pos hi',xbm,k5 i (by omega) hi']
       exact h0.weaken hle)
    rw[←q1,hun w']at e2
    exact⟨S',e1,e2⟩
   rcases htail with⟨A,A',c1,c2,h1,h2⟩|⟨g',n,c1,c2,h1,h2,h3⟩
   ·rw[q1]at h2
    cases h2
    refine⟨.tuple #[],S.w,?_,?_⟩
    ·rw[zbb,h1]
     cases A<;>simp[Builtin.clear_,run_underlying hd1]
    ·exact key S.w cur q3 rfl ⟨rfl,rfl,rfl,xak _,fun _ _ _=>rfl⟩ (fun _ _=>rfl) fun i h1 h2=>absurd h2 (by omega)
   ·rw[q1]at h1
    cases h1
    have hpos:(xs:List Int).length-lo≠0:=by omega
    have hzc:(Builtin.zeroCells j.zero.cells ((xs:List Int).length-lo)).toList=List.replicate ((xs:List Int).length-lo) (.int k' z):=by
     rw[hz1]
     apply xfq
     ·simp[Builtin.zeroCells,Value.cells]
     ·intro i h1 h2
      simp[Builtin.zeroCells,Value.cells,Nat.mod_one]
    have hst:=run_storeCells_at P g lo e' (List.replicate ((xs:List Int).length-lo) (.int k' z)) 0 cur S.w q3 (by rw[xce];omega) (fun v hv=>by rw[xgl hv];rfl)
    simp only[xdl,xce]at hst
    refine⟨.tuple #[],_,?_,key _ (cur.toList.take lo++List.replicate ((xs:List Int).length-lo) (Value.int k' z)++cur.toList.drop (lo+((xs:List Int).length-lo))).toArray (setRow_heap S.w g cur _ e' _ q3) ?_ ⟨rfl,rfl,rfl,by simp,fun k _ hk=>setRow_other S.w g k _ (fun e=>hk (by rw[e]))⟩ ?_ ?_⟩
    ·rw[zbb,h3]
     have e1:lo*Ty.size (.int k')=lo:=by simp[Ty.size]
     rw[e1]
     obtain⟨m,hm⟩:∃m,(xs:List Int).length-lo=m+1:=⟨(xs:List Int).length-lo-1,by omega⟩
     rw[hm]at hst hzc ⊢
     simp[Builtin.clear_,run_underlying hd1,zeroValue,typeInfo,hi',hzz,hzc,hst]
    ·simp only[xcu,xbk,xbj,xeh,xce,xcc]
     omega
    ·intro i hi
     rw[List.getElem?_toArray,xcp,xek (by rw[xbj,xcc];omega),xdt,if_pos hi,xbm]
    ·intro i hi hi'
     rw[List.getElem?_toArray,xcp,xdv (by rw[xbj,xcc];omega),xek (by rw[xce,xbj,xcc];omega),xjo,if_pos (by rw[xbj,xcc];omega)]
def step_does(h:InvOf P c σ a S)(hT:TabOK P T){fl:Nat}{o:Oper}{ob:Bool}{us:Ups}(hN:within c.N o=true)(hx:step T fl o (look σ)=some (ob,us))(hob:ob=true):Does P o a S.w (Inv P c (upd us σ)):=by
 obtain⟨dst,op,type,pos,after,guard⟩:=o
 unfold step at hx
 simp only at hx
 cases dst with
 |none=>
  simp only at hx
  split at hx
  case h_3=>cases hx
  ·rename_i t x y
   obtain⟨w',h1,h2⟩:=store_sound h hT (zdo hx)
   refine⟨w',.inr ⟨?_,h2⟩⟩
   simp only[execOp,Sem.run_bind,h1,Result.andThen_ok,Sem.run_pure]
  ·rename_i x t
   obtain⟨v,w',h1,h2⟩:=clear_sound (ty:=type) h hT (zdo hx)
   refine⟨w',.inl ⟨v,?_,h2⟩⟩
   simp[execOp,resolve,invoke,builtin,h1]
 |some d=>
  have hd:d<c.N:=by simpa[within]using hN
  simp only at hx
  split at hx
  ·rename_i x
   split at hx
   ·obtain⟨S1,h1,h2⟩:=nil_sound h hd (zdo hx)
    exact⟨S.w,.inl ⟨_,rfl,S1,h1,h2⟩⟩
   ·obtain⟨S1,h1,_,_,h2⟩:=ztb h hd (zdo hx)
    exact⟨S.w,.inl ⟨_,rfl,S1,h1,h2⟩⟩
  ·rename_i x
   split at hx
   ·obtain⟨S1,h1,h2⟩:=nil_sound h hd (zdo hx)
    exact⟨S.w,.inl ⟨_,rfl,S1,h1,h2⟩⟩
   ·split at hx
    ·obtain⟨S1,h1,_,_,h2⟩:=ztb h hd (zdo hx)
     exact⟨S.w,.inl ⟨_,rfl,S1,h1,h2⟩⟩
    ·exact zvy h hT rfl hd hx hob
  ·rename_i t
   obtain⟨v,w',h1,h2⟩:=alloc_sound h hT hd (zdo hx)
   refine⟨w',.inl ⟨v,?_,h2⟩⟩
   simp only[execOp,Sem.run_bind,h1,Result.andThen_ok,Sem.run_pure]
  ·rename_i t x
   obtain⟨v,w',h1,h2⟩:=boxX_sound h hd (zdo hx)
   refine⟨w',.inl ⟨v,?_,h2⟩⟩
   simp only[execOp,Sem.run_bind,h1,Result.andThen_ok,Sem.run_pure]
  ·rename_i x y t u
   split at hx
   ·rename_i htu
    subst htu
    obtain⟨v,w',h1,h2⟩:=app_sound (rt:=type) h hT hd hx hob
    refine⟨w',.inl ⟨v,?_,h2⟩⟩
    simp[execOp,resolve,invoke,builtin,h1]
   ·obtain⟨v,w',h1,h2⟩:=appZ_sound (rt:=type) h hT hd hx hob
    refine⟨w',.inl ⟨v,?_,h2⟩⟩
    simp[execOp,resolve,invoke,builtin,h1]
  ·rename_i t x y
   obtain⟨v,w',h1,h2⟩:=make_sound h hT hd hx hob
   refine⟨w',.inl ⟨v,?_,h2⟩⟩
   simp only[execOp,Sem.run_bind,h1,Result.andThen_ok,Sem.run_pure]
  ·rename_i t n ps
   obtain⟨v,w',h1,h2⟩:=lit_sound h hT hd (zdo hx)
   refine⟨w',.inl ⟨v,?_,h2⟩⟩
   simp only[execOp,Sem.run_bind,h1,Result.andThen_ok,Sem.run_pure]
  ·rename_i t ps
   split at hx
   ·obtain⟨v,h1,h2⟩:=buildN_sound h hT hd (zdo hx)
    refine⟨S.w,.inl ⟨v,?_,h2⟩⟩
    simp only[execOp,Sem.run_bind,h1,Result.andThen_ok,Sem.run_pure]
   ·obtain⟨e,h1,rfl⟩:=zik hx
    simp only[xad,xba]at h1
    obtain⟨e',h2,_,rfl⟩:=h1
    obtain⟨v,h3,h4⟩:=build_sound h hT h2
    refine⟨S.w,.inl ⟨v,?_,S,rfl,h.putE hd h4⟩⟩
    simp only[execOp,Sem.run_bind,h3,Result.andThen_ok,Sem.run_pure]
  ·rename_i t x lo hi
   obtain⟨v,h1,h2⟩:=slice_sound h hT hd hx hob
   refine⟨S.w,.inl ⟨v,?_,h2⟩⟩
   simp only[execOp,Sem.run_bind,xin,h1,Result.andThen_ok,Sem.run_pure]
  ·rename_i x i
   obtain⟨v,h1,h2⟩:=ext_sound h hd (zdo hx)
   refine⟨S.w,.inl ⟨v,?_,h2⟩⟩
   simp only[execOp,Sem.run_bind,h1,Result.andThen_ok,Sem.run_pure]
  ·rename_i f xs
   obtain⟨e,h1,rfl⟩:=zik hx
   simp only[xad,xba]at h1
   obtain⟨cs,h2,_,rfl⟩:=h1
   obtain⟨h3,h4⟩:=caps_fit h h2
   refine⟨S.w,.inl ⟨.func (.func f) #[] (xs.map a.eval).toArray,?_,S,rfl,h.putE hd ⟨xs.map a.eval,rfl,h3,h4⟩⟩⟩
   simp[execOp,Instr.makeFunc]
  ·rename_i nm x
   obtain⟨e,h1,rfl⟩:=zik hx
   refine⟨S.w,.inl ⟨.func (.method nm) #[a.eval x] #[],?_,S,rfl,h.putE hd (mth_sound h h1)⟩⟩
   simp[execOp,Instr.makeFunc]
  ·obtain⟨e,h1,rfl⟩:=zik hx
   obtain⟨h2,h3⟩:=ifc_sound h hT h1
   refine⟨S.w,.inl ⟨_,?_,S,rfl,h.putE hd h3⟩⟩
   simp only[execOp,Sem.run_bind,h2,Result.andThen_ok,Sem.run_pure]
  ·rename_i bo t x u
   obtain⟨e,h1,rfl⟩:=zik hx
   obtain⟨v,h2,h3⟩:=isnil_sound h hT h1
   refine⟨S.w,.inl ⟨v,?_,S,rfl,h.putE hd h3⟩⟩
   have h4:a.eval (.const .nilIface)=.nilIface:=rfl
   simp only[execOp,h4]
   rw[Sem.run_bind,h2]
   rfl
  ·rename_i s t x
   split at hx
   ·rename_i e he
    obtain⟨e',h1,rfl⟩:=zik hx
    simp only[xat,xba]at h1
    obtain⟨_,rfl⟩:=h1
    obtain⟨v,h2,h3⟩:=cvt_sound h hT he
    refine⟨S.w,.inl ⟨v,?_,S,rfl,h.putE hd h3⟩⟩
    simp only[execOp,Sem.run_bind,h2,Result.andThen_ok,Sem.run_pure]
   ·exact zvy h hT rfl hd hx hob
  ·exact zvy h hT rfl hd hx hob
end
end Go.X
