/- Part 4 of what stands below the statement. -/
import Derived.Orders
import Derived.Test.YtfgjbkjddcjlfaaGreatS3
set_option linter.defProp false
set_option linter.unusedSimpArgs false
set_option linter.unusedVariables false
namespace Go.X
open Go Go.RowKit
def okS:List Nat→Ty→Bool
 | [],_=>true
 |i::π,.pair a b=>match i with
  | 0=>okS π a
  | 1=>okS π b
  |_=>false
 |i::π,.arr n t=>decide (i<n)&&okS π t
 |i::π,.ptr t=>match i with
  | 0=>okS π t
  |_=>false
 |_,_=>false
def okS_ok{S:St}:∀{π:List Nat} {t:Ty} {p:Place},okS π t=true→okP S π t p
 | [],_,_,_=>trivial
 |i::π,.pair a b,p,h=>by
  match i with
  | 0=>exact okS_ok (π:=π) (t:=a) h
  | 1=>exact okS_ok (π:=π) (t:=b) h
  |i+2=>simp[okS]at h
 |i::π,.arr n t,p,h=>by
  have h':decide (i<n)=true∧okS π t=true:=by cases i<;>(try rename_i j;cases j)<;>(simp only[okS,xan]at h;exact h)
  rw[zew]
  exact⟨xbl h'.1,okS_ok h'.2⟩
 |i::π,.ptr t,p,h=>by
  match i with
  | 0=>exact okS_ok (π:=π) (t:=t) h
  |i+1=>simp[okS]at h
 |i::π,.slice t,_,h=>by cases i<;>(try rename_i j;cases j)<;>simp[okS]at h
 |_::_,.int _,_,h=>by simp[okS]at h
 |_::_,.bool,_,h=>by simp[okS]at h
 |_::_,.str,_,h=>by simp[okS]at h
 |_::_,.unit,_,h=>by simp[okS]at h
 |_::_,.fn1 _ _,_,h=>by simp[okS]at h
 |_::_,.fn2 _ _ _,_,h=>by simp[okS]at h
 |_::_,.alt _ _ _,_,h=>by simp[okS]at h
 |_::_,.nilI,_,h=>by simp[okS]at h
def frz1(e:Ent)(π:List Nat):Option Ent:=
 match e with
 | .v t m x=>match zbe π t m,getP π t x,setM π t m .sh with
  |some k,some y,some m'=>if okS π t&&k.nobw&&live y.t k then some (.v t m' x)else none
  |_,_,_=>none
 |_=>none
def preU:List (Nat×List Nat)→Env→Option Ups
 | [],_=>some []
 |(r,π)::fs,σ=>match frz1 (σ r).e π with
  |some e=>(preU fs (set1 σ r e 2)).map fun us=>(r,e,2)::us
  |none=>none
def dyn1(d:Nat)(a r:Ty)(g:a.den→Option r.den)(o:Opd):Option CallO:=
 match zwy a o with
 |some z=>if r.flat then some ⟨r.den,g z.x,fun y=>some [(d,.v r .sh y,0)]⟩else none
 |none=>none
def dyn2(d:Nat)(a b r:Ty)(g:a.den→b.den→Option r.den)(o o':Opd):Option CallO:=
 match zwy a o,zwy b o' with
 |some z,some z'=>if r.flat then some ⟨r.den,g z.x z'.x,fun y=>some [(d,.v r .sh y,0)]⟩else none
 |_,_=>none
def sqV{P:Program}(d:Nat)(q:SqE P)(o:Opd):Option CallO:=
 match o.val (.slice (.int .i64))with
 |some (m,x)=>if leM (.slice (.int .i64)) m .bw then some ⟨Unit,some (),fun _=>some [(d,.clo q.g [.val ⟨.ptr (.slice (.int .i64)),.bw,x⟩],0)]⟩else none
 |none=>none
noncomputable def sqS {P:Program} (d:Nat) (q:SqE P) (e:Ent):Option CallO:=
 match e with
 | .clo g [.val ⟨.ptr (.slice (.int .i64)),.bw,x⟩]=>if g=q.g then some ⟨Unit,bif decide ((x.length:Int)≤LIM)then some ()else none,fun _=>some [(d,.v (.slice (.int .i64)) (.own q.e .sh) (zdq x),0)]⟩else none
 |_=>none
noncomputable def preO {P:Program} (d:Nat) (q:PreE P) (o:Opd):Option CallO:=
 match o.val (.slice (.int q.k))with
 |some (.sh,x)=>some ⟨Unit,bif decide (((x:List Int).length:Int)≤LIM)then some ()else none,fun _=>some [(d,.v (.slice (.int q.k)) .sh ((x:List Int).take (q.g x)),0)]⟩
 |some (.bw,x)=>some ⟨Unit,bif decide (((x:List Int).length:Int)≤LIM)then some ()else none,fun _=>some [(d,.v (.slice (.int q.k)) .bw ((x:List Int).take (q.g x)),0)]⟩
 |_=>none
noncomputable def sqO {P:Program} (FT:List (TgE P)) (d f:Nat) (xs:List Operand) (σ:Env):Option CallO:=
 match findP FT f,xs with
 |some q,[x]=>preO d q (look σ x)
 |_,xs=>match findS FT,xs with
  |some q,[x]=>if f=q.fv then sqV d q (look σ x)else if f=q.fs then(match x with
   | .tmp t=>sqS d q (σ t).e
   |_=>none)else none
  |_,_=>none
noncomputable def zgf {P:Program} (FT:List (TgE P)) (o:Oper) (σ:Env):Option CallO:=
 match o.op,o.dst with
 | .call {callee:=.value (.func f),args:=xs,argTypes:=_},some d=>match sqO FT d f xs.toList σ with
  |some C=>some C
  |none=>callU FT d f (xs.toList.map fun o=>(look σ o,zia σ o))
 | .call {callee:=.value (.tmp t),args:=⟨[x]⟩,argTypes:=_},some d=>match(σ t).e with
  | .v (.fn1 a r) .bw g=>dyn1 d a r g (look σ x)
  | .v (.fn1 a r) .sh g=>dyn1 d a r g (look σ x)
  |_=>none
 | .call {callee:=.value (.tmp t),args:=⟨[x,y]⟩,argTypes:=_},some d=>match(σ t).e with
  | .v (.fn2 a b r) .bw g=>dyn2 d a b r g (look σ x) (look σ y)
  | .v (.fn2 a b r) .sh g=>dyn2 d a b r g (look σ x) (look σ y)
  |_=>none
 | .call {callee:=.invoke r nm,args:=xs,argTypes:=_},some d=>callM FT d nm ((r::xs.toList).map fun o=>(look σ o,zia σ o))
 | .nilCheck (.tmp t),some d=>match(σ t).e with
  | .mth nm e=>match findM FT nm with
   |some E=>if E.t=e.t then some ⟨Unit,bif zhu e.t e.x then none else some (),fun _=>some [(d,.dead,0)]⟩else none
   |none=>none
  | .ref r π s=>if(look σ (.tmp t)).place.isSome then some ⟨Unit,some (),fun _=>some [(d,.ref r π s,0)]⟩else none
  | .v (.ptr u) .bw x=>some ⟨Unit,some (),fun _=>some [(d,.v (.ptr u) .bw x,0)]⟩
  | .v (.ptr u) .sh x=>some ⟨Unit,some (),fun _=>some [(d,.v (.ptr u) .sh x,0)]⟩
  |_=>none
 |_,_=>none
def zhd(ops:Array Oper)(o:Oper):Option Nat:=o.guard.bind fun g=>(ops[g.1]?).bind (·.dst)
def zck(ops:Array Oper)(o:Oper)(σ:Env):Option Bool:=
 match o.guard with
 |none=>some true
 |some (_,want)=>match zhd ops o with
  |some t=>match(σ t).e with
   | .v .bool m b=>if m=.dead then none else some (b == want)
   | .skip=>some false
   |_=>none
  |none=>none
def Ok(P:Program)(T:Tab)(FT:List (TgE P))(an:An)(o:Oper)(σ:Env)(us:Ups):Prop:=
  ∃ps,preU an.frz σ=some ps ∧
    ((∃ob us1,step T an.fl o (look (upd ps σ))=some (ob,us1)∧ob=true∧us=ps++us1) ∨
     (∃C y us1,zgf FT o (upd ps σ)=some C∧C.m=some y∧C.us y=some us1∧us=ps++us1) ∨
     (∃cc x y m bv ob us1,o.op=.pick cc x y∧(look (upd ps σ) cc).val .bool=some (m,bv)∧m≠ .dead∧step T an.fl {o with op:=.move (bif bv then x else y)} (look (upd ps σ))=some (ob,us1)∧ob=true∧us=ps++us1))
def GOk(P:Program)(T:Tab)(FT:List (TgE P))(an:An)(ops:Array Oper)(o:Oper)(σ:Env)(us:Ups):Prop:=
 (zck ops o σ=some true∧Ok P T FT an o σ us)∨(zck ops o σ=some false∧us=match o.dst with | some d=>[(d,.skip,0)] | none=>[])
def zrk:Ent→List Nat
 | .ref r _ _=>[r]
 | .view r _ _=>[r]
 | .tail r _ _=>[r]
 | .clo _ caps=>zek caps
 |_=>[]
def wk1(σ:Env)(π':List Nat)(t:Nat):Option (Nat×Ty):=
 match(σ t).e with
 | .ref r π _=>match(σ r).e with
  | .v ty (.own _ _) _=>if zix π ty then none else if zix π' ty then none else some (r,ty)
  |_=>none
 |_=>none
def wkMv(σ:Env)(t:Nat):Option (Nat×Ty):=
 match(σ t).e with
 | .v (.ptr u) (.own _ _) _=>some (t,.ptr u)
 |_=>none
def wkFp(σ:Env)(π':List Nat)(t:Nat):Option (Nat×Ty):=
 match(σ t).e with
 | .v (.ptr u) (.own _ _) _=>if zix π' (.ptr u)then none else some (t,.ptr u)
 |_=>none
def wkA(an:An)(o:Oper)(σ:Env)(us:Ups):Option (Nat×Ty):=
 match an.frz,us with
 | [],[(_,.ref _ π' _,0)]=>match o.op with
  | .nilCheck (.tmp t)=>wk1 σ π' t
  | .fieldAddr _ (.tmp t) _=>match wk1 σ π' t with
   |some q=>some q
   |none=>wkFp σ π' t
  | .move (.tmp t)=>if an.fl=0 then wkMv σ t else none
  |_=>none
 |_,_=>none
def wk2(σ:Env)(π':List Nat)(t:Nat):Option (Nat×Ty×List Nat):=
 match(σ t).e with
 | .ref r π _=>if π=π' then match(σ r).e with
  | .v ty M _=>match zbe π ty M with
   |some (.own _ _)=>some (r,ty,π)
   |_=>none
  |_=>none else none
 |_=>none
def wkMv2(σ:Env)(t:Nat):Option (Nat×Ty×List Nat):=
 match(σ t).e with
 | .v (.slice u) (.own _ _) _=>some (t,.slice u,[])
 |_=>none
def wkB(an:An)(o:Oper)(σ:Env)(us:Ups):Option (Nat×Ty×List Nat):=
 match an.frz,us with
 | [],[(_,.view _ π' _,0)]=>match o.op with
  | .load _ (.tmp t)=>wk2 σ π' t
  | .move (.tmp t)=>if an.fl=0 then wkMv2 σ t else none
  |_=>none
 |_,_=>none
def zgl(an:An)(o:Oper)(σ:Env)(us:Ups):Option (Nat×Ty×Option (List Nat)):=
 match wkA an o σ us with
 |some (r,ty)=>some (r,ty,none)
 |none=>match wkB an o σ us with
  |some (r,ty,π)=>some (r,ty,some π)
  |none=>none
def zii(an:An)(ops:Array Oper)(o:Oper)(σ:Env)(us:Ups):List Nat:=
  (match zgl an o σ us with
   |some (r,_)=>o.op.operands.toList.flatMap fun x=>match x with | .tmp t=>bif decide (t=r)then []else [t] | _=>[]
   |none=>o.op.operands.toList.flatMap fun x=>match x with | .tmp t=>t::zrk (σ t).e | _=>[])++((zhd ops o).toList++an.frz.map (·.1))
section
variable {P:Program} {c:Ctx} {σ σ':Env} {a:Act} {w:World} {S:St} {T:Tab} {FT:List (TgE P)}
def frz1_sound(h:Inv P c σ a w){r:Nat}{π:List Nat}{e:Ent}(hx:frz1 (σ r).e π=some e):Inv P c (set1 σ r e 2) a w:=by
 obtain⟨S,rfl,h⟩:=h
 unfold frz1 at hx
 split at hx
 case h_2=>cases hx
 rename_i t m x hr
 split at hx
 case h_2=>cases hx
 rename_i k y m' hm hg hs
 split at hx
 case isFalse=>cases hx
 rename_i hc
 simp only[xan]at hc
 cases hx
 obtain⟨S',h1,h2⟩:=h.freeze (y:=y.x) hr hm hg (okS_ok hc.1.1) hc.1.2 hc.2 hs
 exact⟨S',h2,h1⟩
def zjt:∀{fs:List (Nat×List Nat)} {σ:Env} {ps:Ups},Inv P c σ a w→preU fs σ=some ps→Inv P c (upd ps σ) a w
 | [],σ,ps,h,hx=>by cases hx;exact h
 |(r,π)::fs,σ,ps,h,hx=>by
  simp only[preU]at hx
  split at hx
  case h_2=>cases hx
  rename_i e he
  simp only[xad]at hx
  obtain⟨us,h1,rfl⟩:=hx
  exact zjt (σ:=set1 σ r e 2) (frz1_sound h he) h1
def dyn_wp (h:InvOf P c σ a S) {o:Oper} {t d:Nat} {x:Operand} {ts:Array TypeId} (ho:o.op=.call { callee:=.value (.tmp t),args:=⟨[x]⟩,argTypes:=ts }) (hdst:o.dst=some d) (hd:d < c.N) {A R:Ty} {m:Md} {g:A.den→Option R.den}
    (hm:m=.sh∨m=.bw) (ht:(σ t).e=.v (.fn1 A R) m g) {C:CallO} (hx:dyn1 d A R g (look σ x)=some C) {y:C.R} (hy:C.m=some y) {us:Ups} (hus:C.us y=some us) {Q:Exit→Act→World→Prop}:o.wp P a S.w (Inv P c (upd us σ)) Q:=by
  unfold dyn1 at hx
  split at hx
  case h_2=>cases hx
  rename_i z hz
  split at hx
  case isFalse=>cases hx
  rename_i hfl
  cases hx
  simp only at hy
  cases hus
  obtain⟨hz1,hz2⟩:=zqh h (gs:=[]) hz (fun r _=>rfl) (0,[])
  have hfn:∃ f caps,zab (.fn1 A R) (tmv a t) 0=some (.func (.func f) #[] caps)∧zcf P f∧∀ (S':St) (x:A.den) (y:R.den),Fut m S S'→S'.WF→g x=some y→∀ v,Rel P A S' .bw (0,[]) x (zab A v)→zgg A v →
        Calls P f (#[v]++caps) S'.w fun e w''=>∃u,e=.returned u∧Rel P R {S' with w:=w''} .sh (0,[]) y (zab R u)∧zgg R u∧Ext S'.w w'':=by
    have:=(h.slot ht).1
    rcases hm with rfl|rfl<;>exact this
  obtain⟨f,caps,h1,h2,h3⟩:=hfn
  have hv:a.eval (.tmp t)=.func (.func f) #[] caps:=by
    rw[zbb]
    simpa[zab,Ty.agg]using h1
  have hcall:=h3 (S.callee []) z.x y ((calleeFut2 (S:=S)).sh m) h.calleeWF hy (a.eval x) hz2.1 hz2.2
  have hrun:(execOp a.eval o).run P S.w=.ok (.enter f (#[a.eval x]++caps)) S.w:=by
    simp[execOp,ho,resolve,hv,Deferred.ofValue,invoke,h2 _ S.w]
  unfold Oper.wp
  rw[hrun,Oper.upon_enter]
  refine Calls.mono hcall fun e w' hR=>?_
  obtain⟨u,rfl,hr,hag,hext⟩:=hR
  simp only
  rw[hdst]
  refine⟨{S with w:=w'},rfl,?_⟩
  refine InvOf.put (S':={S with w:=w'}) h hext rfl rfl hd (fun _ _ _=>rfl) (fun _=>.inl rfl) (.v (zbi σ d _ 0) ?_)
  rw[zai (by rw[h.size];exact hd)]
  exact⟨Rel.flat hfl hr,hag⟩
def dyn2_wp (h:InvOf P c σ a S) {o:Oper} {t d:Nat} {x x':Operand} {ts:Array TypeId} (ho:o.op=.call { callee:=.value (.tmp t),args:=⟨[x,x']⟩,argTypes:=ts }) (hdst:o.dst=some d) (hd:d < c.N) {A B R:Ty} {m:Md} {g:A.den→B.den→Option R.den}
    (hm:m=.sh∨m=.bw) (ht:(σ t).e=.v (.fn2 A B R) m g) {C:CallO} (hx:dyn2 d A B R g (look σ x) (look σ x')=some C) {y:C.R} (hy:C.m=some y) {us:Ups} (hus:C.us y=some us) {Q:Exit→Act→World→Prop}:o.wp P a S.w (Inv P c (upd us σ)) Q:=by
  unfold dyn2 at hx
  split at hx
  case h_2=>cases hx
  rename_i z z' hz hz'
  split at hx
  case isFalse=>cases hx
  rename_i hfl
  cases hx
  simp only at hy
  cases hus
  obtain⟨hz1,hz2⟩:=zqh h (gs:=[]) hz (fun r _=>rfl) (0,[])
  obtain⟨hz1',hz2'⟩:=zqh h (gs:=[]) hz' (fun r _=>rfl) (0,[])
  have hfn:∃ f caps,zab (.fn2 A B R) (tmv a t) 0=some (.func (.func f) #[] caps)∧zcf P f∧∀ (S':St) (x:A.den) (x2:B.den) (y:R.den),Fut m S S'→S'.WF→g x x2=some y→∀ v v',Rel P A S' .bw (0,[]) x (zab A v)→zgg A v→Rel P B S' .bw (0,[]) x2 (zab B v')→zgg B v' →
        Calls P f (#[v,v']++caps) S'.w fun e w''=>∃u,e=.returned u∧Rel P R {S' with w:=w''} .sh (0,[]) y (zab R u)∧zgg R u∧Ext S'.w w'':=by
    have:=(h.slot ht).1
    rcases hm with rfl|rfl<;>exact this
  obtain⟨f,caps,h1,h2,h3⟩:=hfn
  have hv:a.eval (.tmp t)=.func (.func f) #[] caps:=by
    rw[zbb]
    simpa[zab,Ty.agg]using h1
  have hcall:=h3 (S.callee []) z.x z'.x y ((calleeFut2 (S:=S)).sh m) h.calleeWF hy (a.eval x) (a.eval x') hz2.1 hz2.2 hz2'.1 hz2'.2
  have hrun:(execOp a.eval o).run P S.w=.ok (.enter f (#[a.eval x,a.eval x']++caps)) S.w:=by
    simp[execOp,ho,resolve,hv,Deferred.ofValue,invoke,h2 _ S.w]
  unfold Oper.wp
  rw[hrun,Oper.upon_enter]
  refine Calls.mono hcall fun e w' hR=>?_
  obtain⟨u,rfl,hr,hag,hext⟩:=hR
  simp only
  rw[hdst]
  refine⟨{S with w:=w'},rfl,?_⟩
  refine InvOf.put (S':={S with w:=w'}) h hext rfl rfl hd (fun _ _ _=>rfl) (fun _=>.inl rfl) (.v (zbi σ d _ 0) ?_)
  rw[zai (by rw[h.size];exact hd)]
  exact⟨Rel.flat hfl hr,hag⟩
def callG_wp(h:InvOf P c σ a S){o:Oper}{d:Nat}{xs:List Operand}(hdst:o.dst=some d)(hd:d<c.N){sg:Sig}{den:Arr (ptys sg.ps) (Option (Ret sg.res))}
  (hgo:∀(ys:Vals (ptys sg.ps)) (y:Ret sg.res),app _ den ys=some y→∀(S0:St),S0.WF→S0.w=S.w→(xs.map a.eval).length=(ptms sg.ps ys).length →
   (∀(i:Nat) (e:TM),(ptms sg.ps ys)[i]?=some e→∃v,(xs.map a.eval)[i]?=some v∧SR P e.t S0 e.m (i,[]) e.x v) →
   ∃f us,(execOp a.eval o).run P S.w=.ok (.enter f us) S.w∧Calls P f us S.w fun e w'=>∃v S',e=.returned v∧S'.w=w'∧Frm S0 S'∧zxb P S' (sg.resTM y) v ∧
    ∀(k:Nat) (e:TM),(k,e)∈sg.outTM y→∃u,(xs.map a.eval)[k]?=some u∧SR P e.t S' e.m (k+1,[]) e.x u)
  {C:CallO} (hx:callG FT d sg den (xs.map fun o=>(look σ o,zia σ o))=some C) {y:C.R} (hy:C.m=some y) {us:Ups} (hus:C.us y=some us) {Q:Exit→Act→World→Prop}:o.wp P a S.w (Inv P c (upd us σ)) Q:=by
 unfold callG at hx
 split at hx
 case h_2=>cases hx
 rename_i ys gs lr hargs
 split at hx
 case isFalse=>cases hx
 rename_i hc
 simp only[xan,xev,xbt,nobwS]at hc
 obtain⟨⟨⟨hk,hdn⟩,hlr⟩,hnb1,hnb2⟩:=hc
 cases hx
 simp only[callE]at hy hus
 simp only[xad]at hus
 obtain⟨us0,hg,rfl⟩:=hus
 obtain⟨hlen,hsr,hgv⟩:=ztc h hk hargs hlr (fun e he=>he) (fun k g hg _=>hg)
 obtain⟨f,us,hrun,hcall⟩:=hgo ys y hy (S.callee gs) h.calleeWF rfl (by simpa using hlen) (fun i e hi=>by
  obtain⟨o',h1,h2⟩:=hsr i e hi
  exact⟨a.eval o',by rw[xcv,h1];rfl,by rw[xdc]at h2;exact h2⟩)
 unfold Oper.wp
 rw[hrun,Oper.upon_enter]
 refine Calls.mono hcall fun e w' hR=>?_
 obtain⟨v,S',rfl,rfl,hfr,hres,hout⟩:=hR
 simp only
 rw[hdst]
 have hnbr:∀e∈sg.resTM y,e.m.nobw=true:=by
  have:∀(l:List (Ty×Md)) (x:Vals (tys l)),(∀q∈l,q.2.nobw=true)→∀e∈tms l x,e.m.nobw=true:=by
   intro l
   induction l with
   |nil=>intro x _ e he;cases he
   |cons q l ih=>
    intro x hq e he
    rcases xbd.1 he with h1|h1
    ·rw[h1];exact hq q (by simp)
    ·exact ih _ (fun q hq'=>hq q (xap _ hq')) e h1
  exact this _ _ hnb1
 have hnbo:∀(k:Nat) (e:TM),(k,e)∈sg.outTM y→e.m.nobw=true:=by
  have:∀(l:List (Ty×PM)) (i:Nat) (x:Vals (tys (zfo l))),(∀q∈zfo l,q.2.nobw=true)→∀e∈outTM i l x,e.2.m.nobw=true:=by
   intro l
   induction l with
   |nil=>intro i x _ e he;cases he
   |cons q l ih=>
    obtain⟨t,pm⟩:=q
    intro i x hq e he
    cases pm with
    |io m=>
     rcases xbd.1 he with h1|h1
     ·rw[h1];exact hq (t,m) (by simp[zfo])
     ·exact ih _ _ (fun q hq'=>hq q (xap _ hq')) e h1
    |bw=>exact ih _ _ hq e he
    |sh=>exact ih _ _ hq e he
    |give m=>exact ih _ _ hq e he
  exact fun k e he=>this _ _ _ hnb2 (k,e) he
 refine⟨S.after S' gs (sg.resTM y).length d,rfl,?_⟩
 exact h.called hk hdn hd hfr hres hnbr (vs:=xs.map a.eval) (fun k e he=>⟨hnbo k e he,hout k e he⟩) (fun k g hm=>by
  obtain⟨j,o',h1,h2,h3⟩:=hgv k g hm
  rw[xdc]at h1
  subst h1
  exact⟨a.eval o',by rw[xcv,h2];rfl,h3⟩) hg
def callU_wp(h:InvOf P c σ a S){o:Oper}{d f:Nat}{xs:Array Operand}{ts:Array TypeId}(ho:o.op=.call {callee:=.value (.func f),args:=xs,argTypes:=ts})(hdst:o.dst=some d)(hd:d<c.N)
  {C:CallO} (hx:callU FT d f (xs.toList.map fun o=>(look σ o,zia σ o))=some C) {y:C.R} (hy:C.m=some y) {us:Ups} (hus:C.us y=some us) {Q:Exit→Act→World→Prop}:o.wp P a S.w (Inv P c (upd us σ)) Q:=by
 unfold callU at hx
 split at hx
 case h_2=>cases hx
 rename_i E hE
 have hf:=findF_f hE
 subst hf
 refine callG_wp h hdst hd (fun ys y hy S0 hwf hw hlen hrel=>⟨E.f,(xs.toList.map a.eval).toArray,?_,?_⟩) hx hy hus
 ·have hv:a.eval (.func E.f)=.func (.func E.f) #[] #[]:=rfl
  simp[execOp,ho,resolve,hv,Deferred.ofValue,invoke,E.ok.1 _ S.w]
  exact xil (by simp)
 ·rw[←hw]
  exact E.ok.2 ys y hy S0 hwf _ hlen hrel
def callM_wp(h:InvOf P c σ a S){o:Oper}{d:Nat}{nm:String}{r:Operand}{xs:Array Operand}{ts:Array TypeId}(ho:o.op=.call {callee:=.invoke r nm,args:=xs,argTypes:=ts})(hdst:o.dst=some d)(hd:d<c.N)
  {C:CallO} (hx:callM FT d nm ((r::xs.toList).map fun o=>(look σ o,zia σ o))=some C) {y:C.R} (hy:C.m=some y) {us:Ups} (hus:C.us y=some us) {Q:Exit→Act→World→Prop}:o.wp P a S.w (Inv P c (upd us σ)) Q:=by
 unfold callM at hx
 split at hx
 case h_2=>cases hx
 rename_i E hE
 have hf:=findM_nm hE
 subst hf
 refine callG_wp h hdst hd (fun ys y hy S0 hwf hw hlen hrel=>?_) hx hy hus
 obtain⟨f,us,h1,h2⟩:=E.ok ys y hy S0 hwf _ hlen hrel
 refine⟨f,us,?_,by rw[←hw];exact h2⟩
 have h3:=h1 S.w
 have h4:((r::xs.toList).map a.eval).toArray=#[a.eval r]++xs.map a.eval:=xil (by simp)
 rw[h4]at h3
 simp only[execOp,ho,resolve]
 exact h3
def ahead_at{nm:String}{S:St}:∀{t:Ty} {x:t.den} {m:Md} {p:Place} {u:Value},AheadI P nm t→m≠ .dead→SR P t S m p x u→zhu t x=false →
  ∃tid v,u=.iface tid v∧∀w,(nilAhead (P.types.size+Made.depth) tid v nm).run P w=.ok (some false) w:=by
 intro t
 induction t with
 |alt tid A B iha ihb=>
  intro x m p u ha hm h hn
  cases x with
  |inl y=>
   have h1:=h.1
   rw[Rel.alt_inl hm]at h1
   obtain⟨v,h2,_⟩:=h1
   exact⟨tid,v,by simpa[zab,Ty.agg]using h2,ha.1 v⟩
  |inr z=>
   have h1:=h.1
   rw[Rel.alt_inr hm]at h1
   have hag:B.agg=false:=by
    have:=ha.2
    cases B<;>first | rfl | exact this.elim
   refine ihb (m:=m) (p:=px p 1) ha.2 hm ⟨h1.2.mono (q:=true) (.inl rfl) ⟨fun _ h=>h,fun _ _=>rfl,fun _ _ h=>.inr h,fun _ _ _=>rfl,fun _=>rfl,fun _ _ h=>⟨h,rfl⟩⟩ fun i _=>?_,fun h=>by rw[hag]at h;cases h⟩ hn
   unfold zab
   rw[hag]
   rfl
 |nilI=>intro x m p u ha hm h hn;simp[zhu]at hn
 |_=>intro x m p u ha;exact ha.elim
def sqV_wp(h:InvOf P c σ a S){o:Oper}{d:Nat}{xs:Array Operand}{x:Operand}{q:SqE P}{ts:Array TypeId}(ho:o.op=.call {callee:=.value (.func q.fv),args:=xs,argTypes:=ts})(hx0:xs.toList=[x])(hdst:o.dst=some d)(hd:d<c.N)
  {C:CallO} (hx:sqV d q (look σ x)=some C) {y:C.R} (hy:C.m=some y) {us:Ups} (hus:C.us y=some us) {Q:Exit→Act→World→Prop}:o.wp P a S.w (Inv P c (upd us σ)) Q:=by
 have hxs:xs=#[x]:=xil (by simpa using hx0)
 subst hxs
 unfold sqV at hx
 split at hx
 case h_2=>cases hx
 rename_i m z hz
 split at hx
 case isFalse=>cases hx
 rename_i hle
 cases hx
 cases hus
 obtain⟨p,hr0,_⟩:=h.val hz
 have hr:Rel P (.slice (.int .i64)) S .bw p z (zab (.slice (.int .i64)) (a.eval x)):=hr0.weaken hle
 obtain⟨A,len,cap,h0⟩:∃A len cap,zab (.slice (.int .i64)) (a.eval x) 0=some (.slice A len cap):=by
  obtain⟨_,_,A,len,cap,h0,_⟩:=hr
  exact⟨A,len,cap,h0⟩
 have hv:a.eval x=.slice A len cap:=by simpa[zab,Ty.agg]using h0
 have hv':a.eval (.func q.fv)=.func (.func q.fv) #[] #[]:=rfl
 have hrun:(execOp a.eval o).run P S.w=.ok (.enter q.fv #[a.eval x]) S.w:=by
  simp[execOp,ho,resolve,hv',Deferred.ofValue,invoke,q.entV _ S.w]
 unfold Oper.wp
 rw[hrun,Oper.upon_enter,hv]
 refine Calls.mono (q.vals S.w A len cap) fun e w' hR=>?_
 obtain⟨Bs,rfl,hext,hge,hlt,hcell⟩:=hR
 simp only
 rw[hdst]
 let S':St:={S with w:=w',F:=fun b=>S.F b∨b=Bs}
 have hnone:S.own Bs=none:=by
  cases hq:S.own Bs with
  |none=>rfl
  |some p=>exact absurd (h.owned Bs p hq).1 (by omega)
 show Inv P c (set1 σ d (.clo q.g [.val ⟨.ptr (.slice (.int .i64)),.bw,z⟩]) 0) _ _
 refine⟨S',rfl,h.rebuild (S':=S') (fun t=>t=d) (by simpa[Act.put]using h.defers) (by simpa[Act.put]using h.size) (fun t ht=>⟨zan σ _ 0 ht,zbj ht⟩) (fun r hr=>?_) (fun t ht=>?_) (fun b hb=>.inl hb) (fun b hb=>hext.block b (h.wlt (.inl hb))) rfl
  (fun b hb=>hext.block b (h.wlt (.inr (.inl hb)))) (fun _ _ _=>rfl) (fun t _ b q hb=>⟨hb,hext.block b (h.owned b _ hb).1⟩) (fun b hb=>?_) (fun b hb=>(h.borrowed b hb).1)
  (fun b p hb=>⟨xau (h.owned b p hb).1 hext.size,(h.owned b p hb).2⟩) hext.os hext.tape hext.output hext.size (fun b hb _=>hext.block b (xau hb h.grown))⟩
 ·subst hr
  exact⟨by rw[zah];exact xak _,.inl (by rw[zah];exact xct _)⟩
 ·subst ht
  unfold SlotOK
  rw[zbi]
  refine⟨[.pointer (some ⟨Bs,0,none⟩)],by rw[zai (by rw[h.size];exact hd)],rfl,fun k cc hk=>?_⟩
  cases k with
  |succ k=>simp at hk
  |zero=>
   cases hk
   refine⟨_,rfl,⟨Bs,0,by simp[zab,Ty.agg],fun _=>.inl (.inr rfl),?_⟩,fun h=>by cases h⟩
   refine hr.fut (.inr rfl) ⟨fun b hb=>.inl hb,fun b _ hb=>.inr hb,fun b hb=>hext.block b (h.wlt (hb.imp id fun h=>.inl h.2))⟩ fun i hi=>?_
   have hi0:i=0:=by simp only[Ty.size]at hi;omega
   subst hi0
   rw[h0]
   show w'.cell? ⟨Bs,0+0,none⟩=_
   rw[xdc]
   exact hcell
 ·rcases hb with hb|rfl
  ·exact⟨(h.shared b hb).1,xau (h.shared b hb).2.1 hext.size,(h.shared b hb).2.2⟩
  ·exact⟨hnone,hlt,.inr (.inl (xbb h.grown hge))⟩
def zrb{xs:List Int}{n:Int}:n∈zdq xs↔n∈xs:=by simp[zdq,List.mem_mergeSort]
def zeq(xs:List Int):(zdq xs).length=xs.length:=by simp[zdq,List.length_mergeSort]
def sqS_wp(h:InvOf P c σ a S){o:Oper}{d t:Nat}{xs:Array Operand}{q:SqE P}{ts:Array TypeId}(ho:o.op=.call {callee:=.value (.func q.fs),args:=xs,argTypes:=ts})(hx0:xs.toList=[.tmp t])(hdst:o.dst=some d)(hd:d<c.N)
  {C:CallO} (hx:sqS d q (σ t).e=some C) {y:C.R} (hy:C.m=some y) {us:Ups} (hus:C.us y=some us) {Q:Exit→Act→World→Prop}:o.wp P a S.w (Inv P c (upd us σ)) Q:=by
 have hxs:xs=#[.tmp t]:=xil (by simpa using hx0)
 subst hxs
 unfold sqS at hx
 split at hx
 case h_2=>cases hx
 rename_i g z heq
 split at hx
 case isFalse=>cases hx
 rename_i hg
 subst hg
 cases hx
 cases hus
 simp only at hy
 have hlim:z.length≤4294967296:=by
  cases hq:decide ((z.length:Int)≤LIM)with
  |false=>rw[hq]at hy;cases hy
  |true=>
   have:=xbl hq
   rw[zbv]at this
   omega
 have hs:=h.slots t
 unfold SlotOK at hs
 rw[heq]at hs
 obtain⟨ps,hv,hl,hc⟩:=hs
 obtain⟨u,hu,hR⟩:=hc 0 _ rfl
 have hps:ps=[u]:=by
  match ps,hl,hu with
  | [u'],_,hu=>simp at hu;rw[hu]
 subst hps
 obtain⟨b,o',hp,hG,hrel⟩:=hR.1
 have hu':u=.pointer (some ⟨b,o',none⟩):=by simpa[zab,Ty.agg]using hp
 subst hu'
 obtain⟨hzl,_,A,len,cap,h0,rfl,h2,h3⟩:=hrel
 have hb:b<S.w.heap.size:=h.wlt ((hG (by simp[Ty.size])).imp id fun h=>.inl h.2)
 have h0':S.w.cell? ⟨b,o',none⟩=some (.slice A z.length cap):=by simpa[blk]using h0
 have hwr:∀n∈z,IntKind.i64.wrap n=n:=by
  intro n hn
  obtain⟨i,hi,rfl⟩:=xcm hn
  rcases h3 with⟨rfl,_⟩|⟨b',o2,_,_,h4⟩
  ·simp at hi
  ·exact(h4 i hi).2
 have hcs:=q.sorts S.w b o' A cap z hlim hb h0' (by
  rcases h3 with⟨rfl,_⟩|⟨b',o2,rfl,hG2,h4⟩
  ·exact .inl rfl
  ·by_cases hz:z=[]
   ·exact .inl hz
   ·refine .inr ⟨b',o2,rfl,h.wlt ((hG2 hz).imp id fun h=>.inl h.2),fun i hi=>?_⟩
    have:=(h4 i hi).1
    simpa[blk,Ty.size]using this)
 have hev:a.eval (.tmp t)=.func (.func q.g) #[] #[.pointer (some ⟨b,o',none⟩)]:=by rw[zbb];exact hv
 have hv':a.eval (.func q.fs)=.func (.func q.fs) #[] #[]:=rfl
 have hrun:(execOp a.eval o).run P S.w=.ok (.enter q.fs #[a.eval (.tmp t)]) S.w:=by
  simp[execOp,ho,resolve,hv',Deferred.ofValue,invoke,q.entS _ S.w]
 unfold Oper.wp
 rw[hrun,Oper.upon_enter,hev]
 refine Calls.mono hcs fun e w' hR=>?_
 obtain⟨v,rfl,hext,hcase⟩:=hR
 simp only
 rw[hdst]
 have hmax:(zdq z).length≤maxL:=by rw[zeq];exact hzl
 show Inv P c (set1 σ d (.v (.slice (.int .i64)) (.own q.e .sh) (zdq z)) 0) _ _
 rcases hcase with⟨rfl,rfl⟩|⟨gb,k,cur,rfl,hge,hgb,r1,r2,r3,r4⟩
 ·let S':St:={S with w:=w',hv:=fun z=>if z=(d,[])then .slice none 0 0 else S.hv z}
  refine⟨S',rfl,h.put (S':=S') hext rfl rfl hd (fun t ht q=>if_neg (fun he=>ht (by cases he;rfl))) (fun b=>.inl rfl) (.v (zbi σ d _ 0) ?_)⟩
  rw[zai (by rw[h.size];exact hd)]
  have hhv:S'.hv (d,[])=.slice none 0 0:=if_pos rfl
  exact⟨⟨hmax,by simp[Ty.size],by rw[hhv];simp[zab,Ty.agg],.inl ⟨hhv,by simp[zdq]⟩⟩,fun h=>by cases h⟩
 ·let S':St:={S with w:=w',own:=fun b=>if b=gb then some (d,[])else S.own b,hv:=fun y=>if y=(d,[])then .slice (some ⟨gb,0,none⟩) z.length k else S.hv y}
  have hnone:S.own gb=none:=by
   cases hq:S.own gb with
   |none=>rfl
   |some p=>exact absurd (h.owned gb p hq).1 (by omega)
  refine⟨S',rfl,h.put (S':=S') hext rfl rfl hd (fun t ht q=>if_neg (fun he=>ht (by cases he;rfl))) (fun b=>?_) (.v (zbi σ d _ 0) ?_)⟩
  ·by_cases hb:b=gb
   ·subst hb;exact .inr ⟨hnone,hge,(xbg.1 hgb).1⟩
   ·exact .inl (if_neg hb)
  ·rw[zai (by rw[h.size];exact hd)]
   have hhv:S'.hv (d,[])=.slice (some ⟨gb,0,none⟩) z.length k:=if_pos rfl
   refine⟨⟨hmax,by simp[Ty.size],by rw[hhv];simp[zab,Ty.agg],.inr ⟨gb,k,cur,by rw[hhv,zeq],if_pos rfl,hgb,by rw[zeq];exact r1,r2,by simp[Ty.size,r3],fun i hi=>?_⟩⟩,fun h=>by cases h⟩
   exact⟨by simpa[Ty.size]using r4 i hi,hwr _ (zrb.1 (xbc hi))⟩
def preO_wp(h:InvOf P c σ a S){o:Oper}{d:Nat}{xs:Array Operand}{x:Operand}{q:PreE P}{ts:Array TypeId}(ho:o.op=.call {callee:=.value (.func q.f),args:=xs,argTypes:=ts})(hx0:xs.toList=[x])(hdst:o.dst=some d)(hd:d<c.N)
  {C:CallO} (hx:preO d q (look σ x)=some C) {y:C.R} (hy:C.m=some y) {us:Ups} (hus:C.us y=some us) {Q:Exit→Act→World→Prop}:o.wp P a S.w (Inv P c (upd us σ)) Q:=by
 have hxs:xs=#[x]:=xil (by simpa using hx0)
 subst hxs
 have key:∀(M:Md),M=.sh∨M=.bw→∀z:List Int,(look σ x).val (.slice (.int q.k))=some (M,z)→z.length≤4294967296→o.wp P a S.w (Inv P c (set1 σ d (.v (.slice (.int q.k)) M (z.take (q.g z))) 0)) Q:=fun M hM z hz hlim=>by
  obtain⟨p,hr⟩:=h.val hz
  obtain⟨h1,h2,h3⟩:=hr.1
  have h3':∃a' len cap,zab (.slice (.int q.k)) (a.eval x) 0=some (.slice a' len cap)∧len=z.length∧len≤cap∧((z=[]∧cap=0)∨∃b o',a'=some ⟨b,o',none⟩∧(z≠ []→S.G M b)∧∀(i:Nat) (h:i<z.length),Rel P (.int q.k) S M (px p i) z[i] (blk S.w b (o'+i*Ty.size (.int q.k)))):=by rcases hM with rfl|rfl<;>exact h3
  obtain⟨A,len,cap,h4,rfl,h6,h7⟩:=h3'
  have hv:a.eval x=.slice A z.length cap:=by simpa[zab,Ty.agg]using h4
  have hcell:∀(i:Nat) (h:i<z.length) (b o':Nat),Rel P (.int q.k) S M (px p i) z[i] (blk S.w b (o'+i*Ty.size (.int q.k)))→S.w.cell? ⟨b,o'+i,none⟩=some (.int q.k z[i])∧q.k.wrap z[i]=z[i]:=fun i hi b o' hrel=>by
   have:blk S.w b (o'+i*Ty.size (.int q.k)) 0=some (.int q.k z[i])∧q.k.wrap z[i]=z[i]:=by rcases hM with rfl|rfl<;>exact hrel
   refine⟨?_,this.2⟩
   simpa[blk,Ty.size]using this.1
  have hv':a.eval (.func q.f)=.func (.func q.f) #[] #[]:=rfl
  have hrun:(execOp a.eval o).run P S.w=.ok (.enter q.f #[a.eval x]) S.w:=by
   simp[execOp,ho,resolve,hv',Deferred.ofValue,invoke,q.ent _ S.w]
  unfold Oper.wp
  rw[hrun,Oper.upon_enter,hv]
  refine Calls.mono (q.spec S.w A cap z hlim h6 (fun n hn=>?_) ?_) fun e w' hR=>?_
  ·obtain⟨i,hi,rfl⟩:=xcm hn
   rcases h7 with⟨rfl,_⟩|⟨b,o',_,_,h8⟩
   ·simp at hi
   ·exact(hcell i hi b o' (h8 i hi)).2
  ·rcases h7 with h7|⟨b,o',rfl,_,h8⟩
   ·exact .inl h7
   ·exact .inr ⟨b,o',rfl,fun i hi=>(hcell i hi b o' (h8 i hi)).1⟩
  ·obtain⟨rfl,hg,hcase⟩:=hR
   have hlen:(z.take (q.g z)).length=q.g z:=by rw[xbj];omega
   rcases hcase with⟨rfl,h0⟩|rfl
   ·simp only
    rw[hdst]
    refine⟨S,rfl,h.putv hd ⟨⟨by omega,h2,?_⟩,fun h=>by cases h⟩⟩
    have:∃a' len cap,zab (.slice (.int q.k)) (.slice none 0 0) 0=some (.slice a' len cap)∧len=(z.take (q.g z)).length∧len≤cap∧((z.take (q.g z)=[]∧cap=0)∨∃b o',a'=some ⟨b,o',none⟩∧(z.take (q.g z)≠ []→S.G M b)∧∀(i:Nat) (h:i<(z.take (q.g z)).length),Rel P (.int q.k) S M (px (d,[]) i) (z.take (q.g z))[i] (blk S.w b (o'+i*Ty.size (.int q.k)))):=
     ⟨none,0,0,by simp[zab,Ty.agg],by omega,xak _,.inl ⟨by rw[h0];rfl,rfl⟩⟩
    rcases hM with rfl|rfl<;>exact this
   ·simp only
    rw[hdst]
    refine⟨S,rfl,h.putv hd ⟨⟨by omega,h2,?_⟩,fun h=>by cases h⟩⟩
    have:∃a' len cap',zab (.slice (.int q.k)) (.slice A (q.g z) cap) 0=some (.slice a' len cap')∧len=(z.take (q.g z)).length∧len≤cap'∧((z.take (q.g z)=[]∧cap'=0)∨∃b o',a'=some ⟨b,o',none⟩∧(z.take (q.g z)≠ []→S.G M b)∧∀(i:Nat) (h:i<(z.take (q.g z)).length),Rel P (.int q.k) S M (px (d,[]) i) (z.take (q.g z))[i] (blk S.w b (o'+i*Ty.size (.int q.k)))):=by
     refine⟨A,q.g z,cap,by simp[zab,Ty.agg],hlen.symm,by omega,?_⟩
     rcases h7 with⟨h8,h9⟩|⟨b,o',hA,hG,h8⟩
     ·exact .inl ⟨by rw[h8];simp,h9⟩
     ·refine .inr ⟨b,o',hA,fun hne=>hG (by rintro rfl;simp at hne),fun i hi=>?_⟩
      have hi':i<z.length:=by rw[hlen]at hi;omega
      have he:(z.take (q.g z))[i]=z[i]:=xhc ..
      rw[he]
      exact(h8 i hi').fut hM ((Fut2.refl S).sh _) fun _ _=>rfl
    rcases hM with rfl|rfl<;>exact this
 have hlimof:∀(z:List Int) (y:Unit),(bif decide ((z.length:Int)≤LIM)then some ()else none)=some y→z.length≤4294967296:=fun z y hy=>by
  cases hq:decide ((z.length:Int)≤LIM)with
  |false=>rw[hq]at hy;cases hy
  |true=>
   have:=xbl hq
   rw[zbv]at this
   omega
 unfold preO at hx
 split at hx
 ·rename_i z hz
  cases hx
  cases hus
  exact key .sh (.inl rfl) z hz (hlimof z y hy)
 ·rename_i z hz
  cases hx
  cases hus
  exact key .bw (.inr rfl) z hz (hlimof z y hy)
 ·cases hx
def sqO_wp(h:InvOf P c σ a S){o:Oper}{d f:Nat}{xs:Array Operand}{ts:Array TypeId}(ho:o.op=.call {callee:=.value (.func f),args:=xs,argTypes:=ts})(hdst:o.dst=some d)(hd:d<c.N)
  {C:CallO} (hx:sqO FT d f xs.toList σ=some C) {y:C.R} (hy:C.m=some y) {us:Ups} (hus:C.us y=some us) {Q:Exit→Act→World→Prop}:o.wp P a S.w (Inv P c (upd us σ)) Q:=by
 unfold sqO at hx
 split at hx
 ·rename_i q x hq hxs
  have:=findP_f hq
  subst this
  exact preO_wp h ho hxs hdst hd hx hy hus
 split at hx
 case h_2=>cases hx
 rename_i q x _ hxs
 split at hx
 ·rename_i hf
  subst hf
  exact sqV_wp h ho hxs hdst hd hx hy hus
 split at hx
 case isFalse=>cases hx
 rename_i hf
 subst hf
 split at hx
 case h_2=>cases hx
 rename_i t
 exact sqS_wp h ho hxs hdst hd hx hy hus
def call_wp(h:InvOf P c σ a S){o:Oper}(hN:within c.N o=true){C:CallO}(hx:zgf FT o σ=some C){y:C.R}(hy:C.m=some y){us:Ups}(hus:C.us y=some us){Q:Exit→Act→World→Prop}:o.wp P a S.w (Inv P c (upd us σ)) Q:=by
 unfold zgf at hx
 split at hx
 ·rename_i f xs ts d ho hdst
  split at hx
  ·rename_i C' hs
   cases hx
   exact sqO_wp h ho hdst (by unfold within at hN;rw[hdst]at hN;simpa using hN) hs hy hus
  ·exact callU_wp h ho hdst (by unfold within at hN;rw[hdst]at hN;simpa using hN) hx hy hus
 ·rename_i t x ts d ho hdst
  have hd:d<c.N:=by unfold within at hN;rw[hdst]at hN;simpa using hN
  split at hx
  ·rename_i A R g he
   exact dyn_wp h ho hdst hd (.inr rfl) he hx hy hus
  ·rename_i A R g he
   exact dyn_wp h ho hdst hd (.inl rfl) he hx hy hus
  ·cases hx
 ·rename_i t x y' ts d ho hdst
  have hd:d<c.N:=by unfold within at hN;rw[hdst]at hN;simpa using hN
  split at hx
  ·rename_i A B R g he
   exact dyn2_wp h ho hdst hd (.inr rfl) he hx hy hus
  ·rename_i A B R g he
   exact dyn2_wp h ho hdst hd (.inl rfl) he hx hy hus
  ·cases hx
 ·rename_i r nm xs ts d ho hdst
  exact callM_wp h ho hdst (by unfold within at hN;rw[hdst]at hN;simpa using hN) hx hy hus
 ·rename_i t d ho hdst
  have hd:d<c.N:=by unfold within at hN;rw[hdst]at hN;simpa using hN
  split at hx
  ·rename_i nm e he
   split at hx
   case h_2=>cases hx
   rename_i E hE
   split at hx
   case isFalse=>cases hx
   rename_i het
   cases hx
   cases hus
   simp only at hy
   have hnil:zhu e.t e.x=false:=by
    cases hn:zhu e.t e.x with
    |true=>rw[hn]at hy;cases hy
    |false=>rfl
   have hs:=h.slots t
   unfold SlotOK at hs
   rw[he]at hs
   obtain⟨u,h1,h2⟩:=hs
   have hah:=E.ahead
   rw[findM_nm hE,het]at hah
   obtain⟨tid,v,h3,h4⟩:=ahead_at hah (m:=.bw) (by simp) h2 hnil
   subst h3
   have hrun:(execOp a.eval o).run P S.w=.ok (.value (tmv a t)) S.w:=by
    simp only[execOp,ho,zbb]
    rw[h1]
    simp[h4 S.w]
   exact Does.wp ⟨S.w,.inl ⟨_,hrun,S,rfl,by rw[hdst];exact h.putE hd trivial⟩⟩
  ·rename_i r π s he
   split at hx
   case isFalse=>cases hx
   rename_i hp
   cases hx
   cases hus
   obtain⟨p,hp⟩:=Option.isSome_iff_exists.1 hp
   obtain⟨_,_,_,_,q,off,b,_,_,hv⟩:=h.place hp
   rw[zbb]at hv
   have hs:=h.slots t
   unfold SlotOK at hs
   rw[he]at hs
   have hrun:(execOp a.eval o).run P S.w=.ok (.value (tmv a t)) S.w:=by
    simp only[execOp,ho,zbb]
    rw[hv]
    rfl
   exact Does.wp ⟨S.w,.inl ⟨_,hrun,S,rfl,by rw[hdst];exact h.putref hd hs⟩⟩
  ·rename_i u x he
   cases hx
   cases hus
   have hs:=h.slot he
   obtain⟨b,off,hv,_⟩:=hs.1
   have hv':tmv a t=.pointer (some ⟨b,off,none⟩):=by simpa[zab,Ty.agg]using hv
   have hrun:(execOp a.eval o).run P S.w=.ok (.value (tmv a t)) S.w:=by
    simp only[execOp,ho,zbb]
    rw[hv']
    rfl
   exact Does.wp ⟨S.w,.inl ⟨_,hrun,S,rfl,by rw[hdst];exact h.putv hd ⟨hs.1.free rfl (.refl S) fun _ _=>rfl,hs.2⟩⟩⟩
  ·rename_i u x he
   cases hx
   cases hus
   have hs:=h.slot he
   obtain⟨b,off,hv,_⟩:=hs.1
   have hv':tmv a t=.pointer (some ⟨b,off,none⟩):=by simpa[zab,Ty.agg]using hv
   have hrun:(execOp a.eval o).run P S.w=.ok (.value (tmv a t)) S.w:=by
    simp only[execOp,ho,zbb]
    rw[hv']
    rfl
   exact Does.wp ⟨S.w,.inl ⟨_,hrun,S,rfl,by rw[hdst];exact h.putv hd ⟨hs.1.free rfl (.refl S) fun _ _=>rfl,hs.2⟩⟩⟩
  ·cases hx
 ·cases hx
def Ok.wp{an:An}{o:Oper}{us:Ups}(h:Inv P c σ a w)(hT:TabOK P T)(hN:within c.N o=true)(hok:Ok P T FT an o σ us){Q:Exit→Act→World→Prop}:o.wp P a w (Inv P c (upd us σ)) Q:=by
 obtain⟨ps,hps,hok⟩:=hok
 obtain⟨S,rfl,hf⟩:=zjt h hps
 rcases hok with⟨ob,us1,h1,h2,rfl⟩|⟨C,y,us1,h1,h2,h3,rfl⟩|⟨cc,x,y,m,bv,ob,us1,h1,h2,h3,h4,h5,rfl⟩
 ·rw[zjm]
  exact(step_does hf hT hN h1 h2).wp
 ·rw[zjm]
  exact call_wp hf hN h1 h2 h3
 ·rw[zjm]
  obtain⟨p,hb⟩:=hf.val h2
  have hcc:a.eval cc=.bool bv:=hb.bool_inv h3
  obtain⟨w',hd⟩:=step_does (o:={o with op:=.move (bif bv then x else y)}) hf hT hN h4 h5
  refine Does.wp ⟨w',?_⟩
  have hrun:(execOp a.eval {o with op:=.move (bif bv then x else y)}).run P S.w=(execOp a.eval o).run P S.w:=by
   simp only[execOp,h1,hcc,Sem.run_bind,Sem.run_pure,asBool]
   cases bv<;>rfl
  rw[←hrun]
  exact hd
def wanted_ok{ops:Array Oper}{o:Oper}{b:Bool}(h:Inv P c σ a w)(hw:zck ops o σ=some b):Region.wanted o (yielded ops a.tmps)=b:=by
 obtain⟨S,_,h⟩:=h
 unfold zck at hw
 unfold Region.wanted
 cases hg:o.guard with
 |none=>rw[hg]at hw;simpa using hw
 |some g=>
  obtain⟨j,want⟩:=g
  rw[hg]at hw
  simp only at hw ⊢
  have hgt:zhd ops o=(ops[j]?).bind (·.dst):=by unfold zhd;rw[hg];rfl
  rw[hgt]at hw
  unfold yielded
  cases ht:(ops[j]?).bind (·.dst)with
  |none=>rw[ht]at hw;cases hw
  |some t=>
   rw[ht]at hw
   simp only at hw
   split at hw
   ·rename_i m v heq
    split at hw
    ·cases hw
    rename_i hm
    cases hw
    have hv:=(h.slot heq).bool_inv hm
    have hlt:t<a.tmps.size:=by
     rcases xcy t a.tmps.size with h'|h'
     ·exact h'
     ·have:tmv a t=undef:=by unfold tmv;rw[xfg,xga h'];rfl
      rw[this]at hv;cases hv
    have hq:a.tmps[t]?=some (.bool v):=by
     have:tmv a t=.bool v:=hv
     unfold tmv at this
     rw[xfg,xcg hlt]at this
     rw[xcg hlt]
     exact xbx some this
    simp[hq]
   ·rename_i heq
    cases hw
    have hv:tmv a t=.tuple #[]:=by
     have:=h.slots t
     unfold SlotOK at this
     rw[heq]at this
     exact this
    have hq:∀u,a.tmps[t]?=some u→u=.tuple #[]:=fun u hu=>by
     have:tmv a t=u:=by unfold tmv;rw[xfg,hu];rfl
     rw[←this];exact hv
    cases hu:a.tmps[t]? with
    |none=>simp[hu]
    |some u=>simp[hu,hq u hu]
   ·cases hw
def InvK(P:Program)(c:Ctx)(σ:Env)(a:Act)(w:World):Prop:=Inv P c σ a w∧∀t v,c.K t=some v→tmv a t=v
def wp_keep{o:Oper}{K:Act→World→Prop}{Q:Exit→Act→World→Prop}(h:o.wp P a w K Q):o.wp P a w (fun a' w'=>K a' w'∧∀t,o.dst≠some t→tmv a' t=tmv a t) Q:=by
 have hput:∀(b:Act) (v:Value),b.tmps=a.tmps→∀t,o.dst≠some t→tmv (b.put o.dst v) t=tmv a t:=fun b v hb t ht=>by
  cases hd:o.dst with
  |none=>show tmv b t=_;unfold tmv;rw[hb]
  |some d=>
   rw[zbj (fun e=>ht (by rw[hd,e]))]
   unfold tmv
   rw[hb]
 unfold Oper.wp at *
 generalize(execOp a.eval o).run P w=r at *
 cases r with
 |ok n w'=>
  cases n<;>simp only[Oper.upon]at h⊢ <;>
   first
    |exact⟨h,hput _ _ rfl⟩
    |exact Calls.mono h (fun e w'' he=>by cases e<;>first | exact⟨he,hput _ _ rfl⟩ | exact he)
    |exact Rows.mono h (fun _ _ he=>⟨he,hput _ _ rfl⟩)
 |halt x w'=>cases x<;>simp only[Oper.upon]at h⊢ <;>exact h
def kept(c:Ctx)(o:Oper):Prop:=∀d,o.dst=some d→c.K d=none
def GOk.wpOp{an:An}{ops:Array Oper}{i:Nat}{o:Oper}(ho:ops[i]?=some o){us:Ups}(h:InvK P c σ a w)(hT:TabOK P T)(hN:within c.N o=true)(hkp:kept c o)(hok:GOk P T FT an ops o σ us){Q:Exit→Act→World→Prop}{K:Act→World→Prop}
  (hK:∀a w,InvK P c (upd us σ) a w→K a w):wpOp P ops Q i K a w:=by
 have hne:∀t v,c.K t=some v→o.dst≠some t:=fun t v ht hd=>by rw[hkp t hd]at ht;cases ht
 unfold Go.wpOp
 rw[ho]
 simp only
 obtain⟨h,hk⟩:=h
 rcases hok with⟨h1,h2⟩|⟨h1,h2⟩
 ·rw[wanted_ok h h1]
  exact .inl (Oper.wp_mono (fun a' w' h'=>hK a' w' ⟨h'.1,fun t v ht=>(h'.2 t (hne t v ht)).trans (hk t v ht)⟩) (wp_keep (h2.wp h hT hN)))
 ·rw[wanted_ok h h1]
  refine hK _ _ ⟨?_,?_⟩
  ·obtain⟨S,hS,h⟩:=h
   subst h2
   cases hd:o.dst with
   |none=>exact⟨S,hS,h⟩
   |some d=>
    have hdN:d<c.N:=by unfold within at hN;rw[hd]at hN;simpa using hN
    refine⟨S,hS,h.put (.refl _) rfl rfl hdN (fun _ _ _=>rfl) (fun _=>.inl rfl) ?_⟩
    unfold SlotOK
    rw[zbi]
    exact zai (by rw[h.size];exact hdN)
  ·intro t v ht
   cases hd:o.dst with
   |none=>exact hk t v ht
   |some d=>exact(zbj (fun e=>hne t v ht (by rw[hd,e]))).trans (hk t v ht)
end
def updAt:Ups→Nat→Slot→Slot
 | [],_,p=>p
 |(t,e,k)::r,u,p=>updAt r u (if u=t then bump k p e else p)
def zid:∀(us:Ups) (σ:Env) (u:Nat),upd us σ u=updAt us u (σ u)
 | [],_,_=>rfl
 |(t,e,k)::r,σ,u=>by
  show upd r (set1 σ t e k) u=_
  rw[zid r]
  simp only[updAt]
  by_cases h:u=t
  ·subst h;rw[zah,if_pos rfl]
  ·rw[zan σ e k h,if_neg h]
def zqq:∀(us:Ups) (u:Nat) (p:Slot),u∉us.map (·.1)→updAt us u p=p
 | [],_,_,_=>rfl
 |(t,e,k)::r,u,p,h=>by
  simp only[xen,xbd,not_or]at h
  unfold updAt
  rw[if_neg h.1]
  exact zqq r u p h.2
section
variable {P:Program} {T:Tab} {FT:List (TgE P)} {σ σ':Env}
def ziw{path:Nat→Option (List Nat)}{l l':Operand→Opd}{u:Ty}:∀(ps:List (Nat×Operand)) (m:Md) (x:u.den),(∀p∈ps,l p.2=l' p.2)→zsm path l u ps m x=zsm path l' u ps m x
 | [],_,_,_=>rfl
 |(i,o)::ps,m,x,h=>by
  unfold zsm
  rw[h (i,o) xdb]
  have ih:=fun m x=>ziw (path:=path) (u:=u) ps m x fun p hp=>h p (xap _ hp)
  simp only[ih]
def zmj{path:Nat→Option (List Nat)}{l l':Operand→Opd}{d:Nat}{u:Ty}:∀(ps:List (Nat×Operand)) (used:List Nat) (m:Md) (x:u.den),(∀p∈ps,l p.2=l' p.2)→zjx path l d u ps used m x=zjx path l' d u ps used m x
 | [],_,_,_,_=>rfl
 |(i,o)::ps,used,m,x,h=>by
  unfold zjx
  rw[h (i,o) xdb]
  have ih:=fun used m x=>zmj (path:=path) (d:=d) (u:=u) ps used m x fun p hp=>h p (xap _ hp)
  simp only[ih]
def zqt{α:Type}{f g:α→Bool}:∀{ps:List α},(∀p∈ps,f p=g p)→ps.takeWhile f=ps.takeWhile g∧ps.dropWhile f=ps.dropWhile g
 | [],_=>⟨rfl,rfl⟩
 |p::ps,h=>by
  have h1:=h p xdb
  have ih:=zqt (f:=f) (g:=g) (ps:=ps) fun q hq=>h q (xap _ hq)
  simp only[xfj,List.dropWhile_cons,h1,ih.1,ih.2]
  exact⟨trivial,trivial⟩
def buildN_congr{fl d t:Nat}{ps:List (Nat×Operand)}{l l':Operand→Opd}(h:∀p∈ps,l p.2=l' p.2):zuy T fl d t ps l=zuy T fl d t ps l':=by
 obtain⟨h1,h2⟩:=zqt (f:=fun p=>!ownOp (l p.2)) (g:=fun p=>!ownOp (l' p.2)) (ps:=ps) fun p hp=>by rw[h p hp]
 have h3:∀p∈ps.takeWhile fun p=>!ownOp (l' p.2),l p.2=l' p.2:=fun p hp=>h p ((List.takeWhile_prefix _).subset hp)
 have h4:∀p∈ps.dropWhile fun p=>!ownOp (l' p.2),l p.2=l' p.2:=fun p hp=>h p ((List.dropWhile_suffix _).subset hp)
 unfold zuy
 simp only[h1,h2,ziw _ _ _ h3,zmj _ _ _ _ h4]
def zsz{l l':Operand→Opd}:∀(xs:List Operand),(∀x∈xs,l x=l' x)→capsE l xs=capsE l' xs
 | [],_=>rfl
 |x::xs,h=>by
  unfold capsE
  rw[h x xdb,zsz xs fun y hy=>h y (xap _ hy)]
def step1_congr{o:Oper}{l l':Operand→Opd}(h:∀x∈o.op.operands,l x=l' x):zif T o l=zif T o l':=by
 obtain⟨dst,op,type,pos,after,guard⟩:=o
 simp only at h
 unfold zif
 simp only
 split
 case h_10 x t=>rw[h x (by simp[Op.operands,Call.operands])]
 case h_11 x y ts=>rw[h x (by simp[Op.operands,Call.operands]),h y (by simp[Op.operands,Call.operands])]
 case h_12 x y ts=>rw[h x (by simp[Op.operands,Call.operands]),h y (by simp[Op.operands,Call.operands])]
 all_goals (simp only[Op.operands]at h;simp_all)
def ztr{fl:Nat}{o:Oper}{l l':Operand→Opd}(h:∀x∈o.op.operands,l x=l' x):step T fl o l=step T fl o l':=by
 have hc:=step1_congr (T:=T) h
 obtain⟨dst,op,type,pos,after,guard⟩:=o
 simp only at h
 unfold step
 simp only
 cases dst with
 |none=>
  simp only
  split
  ·rename_i t x y;rw[h x (by simp[Op.operands]),h y (by simp[Op.operands])]
  ·rename_i x t;rw[h x (by simp[Op.operands,Call.operands])]
  ·rfl
 |some d=>
  simp only
  split
  ·rw[h _ (by simp[Op.operands])]
  ·rw[h _ (by simp[Op.operands]),hc]
  ·rfl
  ·rw[h _ (by simp[Op.operands])]
  ·rename_i x y t u;rw[h x (by simp[Op.operands,Call.operands]),h y (by simp[Op.operands,Call.operands])]
  ·rename_i t x y;rw[h x (by simp[Op.operands]),h y (by simp[Op.operands])]
  ·rename_i t n ps
   have h':∀p∈ps.toList,l p.2=l' p.2:=fun p hp=>h p.2 (by simp[Op.operands];exact⟨p.1,by simpa using hp⟩)
   unfold litU
   simp only[ziw ps.toList _ _ h']
  ·rename_i t ps
   have h':∀p∈ps.toList,l p.2=l' p.2:=fun p hp=>h p.2 (by simp[Op.operands];exact⟨p.1,by simpa using hp⟩)
   unfold buildE
   simp only[buildN_congr h',ziw ps.toList _ _ h']
  ·rename_i t x lo hi
   have h1:lo.map l=lo.map l':=by cases lo with
    |none=>rfl
    |some y=>simp only[xcn];rw[h y (by simp[Op.operands])]
   have h2:hi.map l=hi.map l':=by cases hi with
    |none=>rfl
    |some y=>simp only[xcn];rw[h y (by simp[Op.operands])]
   rw[h x (by simp[Op.operands]),h1,h2]
  ·rw[h _ (by simp[Op.operands])]
  ·rename_i f xs
   rw[zsz xs fun x hx=>h x (by simp[Op.operands];exact hx)]
  ·rename_i nm x;rw[h x (by simp[Op.operands])]
  ·rw[h _ (by simp[Op.operands])]
  ·rename_i bo t x u;rw[h x (by simp[Op.operands])]
  ·rename_i s t x;rw[h x (by simp[Op.operands]),hc]
  ·rw[hc]
def zkq{x:Operand}(h:∀t,x=.tmp t→σ' t=σ t∧∀r∈zrk (σ t).e,σ' r=σ r):look σ' x=look σ x:=by
 cases x with
 |tmp t=>
  obtain⟨h1,h2⟩:=h t rfl
  have h3:zdl σ' (σ t).e=zdl σ (σ t).e:=by
   cases hx:(σ t).e<;>rw[hx]at h2<;>first | rfl | (simp only[zdl];exact h2 _ (by simp[zrk]))
  simp only[look,h1,h3]
 |_=>rfl
def zkg:∀{cs:List Cap},(∀r∈zek cs,σ' r=σ r)→zpi σ' cs=zpi σ cs
 | [],_=>rfl
 | .ref r π s::cs,h=>by
  have h1:=h r (by simp[zek])
  have h2:=zkg (cs:=cs) fun q hq=>h q (by simp[zek,hq])
  unfold zpi
  rw[h2]
  simp only[capTM,h1]
 | .val e::cs,h=>by
  have h2:=zkg (cs:=cs) fun q hq=>h q (by simpa[zek]using hq)
  unfold zpi
  rw[h2]
  rfl
def cloOf_congr{x:Operand}(h:∀t,x=.tmp t→σ' t=σ t∧∀r∈zrk (σ t).e,σ' r=σ r):zia σ' x=zia σ x:=by
 cases x with
 |tmp t=>
  obtain⟨h1,h2⟩:=h t rfl
  simp only[zia,h1]
  cases hx:(σ t).e<;>rw[hx]at h2<;>first | rfl | skip
  simp only
  rw[zkg h2]
 |_=>rfl
def callO_congr{o:Oper}(h:∀x∈o.op.operands,look σ' x=look σ x∧zia σ' x=zia σ x∧∀t,x=.tmp t→σ' t=σ t):zgf FT o σ'=zgf FT o σ:=by
 obtain⟨dst,op,type,pos,after,guard⟩:=o
 simp only at h
 unfold zgf
 simp only
 split
 ·rename_i f xs ts d
  have:xs.toList.map (fun o=>(look σ' o,zia σ' o))=xs.toList.map (fun o=>(look σ o,zia σ o)):=xfz fun x hx=>by
   obtain⟨h1,h2,_⟩:=h x (by simp only[Op.operands,Call.operands,xjw];exact .inr (by simpa using hx))
   rw[h1,h2]
  have hsq:sqO FT d f xs.toList σ'=sqO FT d f xs.toList σ:=by
   unfold sqO
   split
   ·rename_i q x _ hxs
    have hm:x∈xs:=by
     have:x∈xs.toList:=by rw[hxs];exact xbn.2 rfl
     simpa using this
    obtain⟨h1,_,h3⟩:=h x (by simp only[Op.operands,Call.operands,xjw];exact .inr (by simpa using hm))
    rw[h1]
   split
   case h_2=>rfl
   rename_i q x _ hxs
   have hm:x∈xs:=by
    have:x∈xs.toList:=by rw[hxs];exact xbn.2 rfl
    simpa using this
   obtain⟨h1,_,h3⟩:=h x (by simp only[Op.operands,Call.operands,xjw];exact .inr (by simpa using hm))
   rw[h1]
   cases x<;>first | rfl | (simp only;rw[h3 _ rfl])
  rw[this,hsq]
 ·rename_i t x ts d
  obtain⟨_,_,h3⟩:=h (.tmp t) (by simp[Op.operands,Call.operands])
  obtain⟨h1,_,_⟩:=h x (by simp[Op.operands,Call.operands])
  rw[h3 t rfl,h1]
 ·rename_i t x y ts d
  obtain⟨_,_,h3⟩:=h (.tmp t) (by simp[Op.operands,Call.operands])
  obtain⟨h1,_,_⟩:=h x (by simp[Op.operands,Call.operands])
  obtain⟨h1',_,_⟩:=h y (by simp[Op.operands,Call.operands])
  rw[h3 t rfl,h1,h1']
 ·rename_i r nm xs ts d
  have:(r::xs.toList).map (fun o=>(look σ' o,zia σ' o))=(r::xs.toList).map (fun o=>(look σ o,zia σ o)):=xfz fun x hx=>by
   obtain⟨h1,h2,_⟩:=h x (by
    simp only[Op.operands,Call.operands,xjw]
    rcases xbd.1 hx with rfl|hx
    ·exact .inl (by simp)
    ·exact .inr (by simpa using hx))
   rw[h1,h2]
  rw[this]
 ·rename_i t d
  obtain⟨h1,_,h3⟩:=h (.tmp t) (by simp[Op.operands])
  rw[h3 t rfl,h1]
 ·rfl
def zuc:∀{fs:List (Nat×List Nat)} {σ σ':Env},(∀r∈fs.map (·.1),σ' r=σ r)→preU fs σ'=preU fs σ
 | [],_,_,_=>rfl
 |(r,π)::fs,σ,σ',h=>by
  have h1:=h r (by simp)
  unfold preU
  rw[h1]
  cases hf:frz1 (σ r).e π with
  |none=>rfl
  |some e=>
   simp only
   rw[zuc (fs:=fs) (σ:=set1 σ r e 2) (σ':=set1 σ' r e 2) fun q hq=>by
    by_cases hqr:q=r
    ·subst hqr;rw[zah,zah,h1]
    ·rw[zan _ _ _ hqr,zan _ _ _ hqr];exact h q (by simp at hq ⊢;exact .inr hq)]
def frz1_root{e e':Ent}{π:List Nat}(h:frz1 e π=some e'):zrk e'=[]:=by
 unfold frz1 at h
 split at h
 case h_2=>cases h
 split at h
 case h_2=>cases h
 split at h
 case isFalse=>cases h
 cases h
 rfl
def zub:∀{fs:List (Nat×List Nat)} {σ:Env} {ps:Ups},preU fs σ=some ps→∀u∈ps,zrk u.2.1=[]
 | [],_,_,h=>by cases h;intro u hu;cases hu
 |(r,π)::fs,σ,ps,h=>by
  simp only[preU]at h
  split at h
  case h_2=>cases h
  rename_i e he
  simp only[xad]at h
  obtain⟨us,h1,rfl⟩:=h
  intro u hu
  rcases xbd.1 hu with h2|h2
  ·rw[h2];exact frz1_root he
  ·exact zub h1 u h2
def znk:∀{ps:Ups} (t:Nat) (p:Slot),(∀u∈ps,zrk u.2.1=[])→updAt ps t p=p∨zrk (updAt ps t p).e=[]
 | [],_,_,_=>.inl rfl
 |(r,e,k)::ps,t,p,h=>by
  simp only[updAt]
  by_cases ht:t=r
  ·rw[if_pos ht]
   rcases znk t (bump k p e) fun u hu=>h u (xap _ hu)with h1|h1
   ·exact .inr (by rw[h1,zpj];exact h (r,e,k) xdb)
   ·exact .inr h1
  ·rw[if_neg ht]
   exact znk t p fun u hu=>h u (xap _ hu)
def zvt{an:An}{ops:Array Oper}{o:Oper}{us:Ups}{x:Operand}{t:Nat}(hn:zgl an o σ us=none)(hx:x∈o.op.operands)(ht:x=.tmp t):t∈zii an ops o σ us∧∀r∈zrk (σ t).e,r∈zii an ops o σ us:=by
 subst ht
 have h:∀r∈t::zrk (σ t).e,r∈zii an ops o σ us:=fun r hr=>by
  unfold zii
  rw[hn]
  exact xel _ (xhh.2 ⟨.tmp t,by simpa using hx,hr⟩)
 exact⟨h t xdb,fun r hr=>h r (xap _ hr)⟩
def GOk.frameN{an:An}{ops:Array Oper}{o:Oper}{us:Ups}(hn:zgl an o σ us=none)(hok:GOk P T FT an ops o σ us)(h:∀t∈zii an ops o σ us,σ' t=σ t):GOk P T FT an ops o σ' us:=by
 have hpre:preU an.frz σ'=preU an.frz σ:=zuc fun r hr=>h r (by unfold zii;simp only[xbq];exact .inr (.inr hr))
 have hw:zck ops o σ'=zck ops o σ:=by
  unfold zck
  cases hg:zhd ops o with
  |none=>rfl
  |some t=>
   have:=h t (by unfold zii;rw[hg];simp)
   simp only[this]
 unfold GOk at hok ⊢
 rw[hw]
 refine hok.imp (fun⟨h1,h2⟩=>⟨h1,?_⟩) id
 obtain⟨ps,h3,h4⟩:=h2
 have hroots:=zub h3
 have hsl:∀x∈o.op.operands,∀t,x=.tmp t→upd ps σ' t=upd ps σ t∧∀r∈zrk (upd ps σ t).e,upd ps σ' r=upd ps σ r:=fun x hx t ht=>by
  obtain⟨h5,h6⟩:=zvt (an:=an) (ops:=ops) (σ:=σ) hn hx ht
  refine⟨by rw[zid,zid,h t h5],fun r hr=>?_⟩
  rw[zid]at hr
  rcases znk (ps:=ps) t (σ t) hroots with h7|h7
  ·rw[h7]at hr;rw[zid,zid,h r (h6 r hr)]
  ·rw[h7]at hr;cases hr
 refine⟨ps,by rw[hpre];exact h3,?_⟩
 refine h4.imp (fun⟨ob,us1,h5,h6,h7⟩=>⟨ob,us1,?_,h6,h7⟩) fun h4=>h4.imp (fun⟨C,y,us1,h5,h6,h7,h8⟩=>⟨C,y,us1,?_,h6,h7,h8⟩) fun⟨cc,x,y,m,bv,ob,us1,h5,h6,h7,h8,h9,h10⟩=>⟨cc,x,y,m,bv,ob,us1,h5,?_,h7,?_,h9,h10⟩
 ·rw[ztr fun x hx=>zkq (hsl x hx)];exact h5
 ·rw[callO_congr fun x hx=>⟨zkq (hsl x hx),cloOf_congr (hsl x hx),fun t ht=>(hsl x hx t ht).1⟩];exact h5
 ·rw[zkq (hsl cc (by rw[h5];simp[Op.operands]))];exact h6
 ·rw[ztr (o:={o with op:=.move (bif bv then x else y)}) (l:=look (upd ps σ')) (l':=look (upd ps σ)) fun z hz=>zkq (hsl z (by
   rw[h5]
   have hz':z=(bif bv then x else y):=by simpa[Op.operands]using hz
   rw[hz']
   cases bv<;>simp[Op.operands]))]
  exact h8
def zka:∀(π:List Nat) (t:Ty) (x x':t.den),(getP π t x).map TV.t=(getP π t x').map TV.t
 | [],t,x,x'=>rfl
 |i::π,.pair a b,x,x'=>by
  match i with
  | 0=>exact zka π a _ _
  | 1=>exact zka π b _ _
  |_+2=>rfl
 |i::π,.arr _ t,x,x'=>zka π t _ _
 |i::π,.slice t,x,x'=>zka π t _ _
 |i::π,.ptr t,x,x'=>by
  match i with
  | 0=>exact zka π t _ _
  |_+1=>rfl
 |i::π,.int _,_,_=>rfl
 |i::π,.bool,_,_=>rfl
 |i::π,.str,_,_=>rfl
 |i::π,.unit,_,_=>rfl
 |i::π,.fn1 _ _,_,_=>rfl
 |i::π,.fn2 _ _ _,_,_=>rfl
 |i::π,.alt _ _ _,_,_=>rfl
 |i::π,.nilI,_,_=>rfl
def WkEq(κ:Option (List Nat))(ty:Ty)(p q:Slot):Prop:=match κ with
 |none=>(∃e m x,q.e=.v ty (.own e m) x)∧q.g=p.g
 |some π=>(∃M x e k,q.e=.v ty M x∧zbe π ty M=some (.own e k))∧q.g=p.g∧q.h=p.h
def wk1_some{π':List Nat}{t r:Nat}{ty:Ty}(h:wk1 σ π' t=some (r,ty)):∃π s e m x,(σ t).e=.ref r π s∧(σ r).e=.v ty (.own e m) x∧zix π ty=false∧zix π' ty=false:=by
 unfold wk1 at h
 split at h
 case h_2=>cases h
 rename_i r0 π s he
 split at h
 case h_2=>cases h
 rename_i ty0 e0 m x hr
 split at h
 ·cases h
 rename_i h1
 split at h
 ·cases h
 rename_i h2
 cases h
 exact⟨π,s,e0,m,x,he,hr,by simpa using h1,by simpa using h2⟩
def wkA_some{an:An}{o:Oper}{us:Ups}{r:Nat}{ty:Ty}(h:wkA an o σ us=some (r,ty)):an.frz=[]∧∃d r' π' s' t,us=[(d,.ref r' π' s',0)]∧((((o.op=.nilCheck (.tmp t)∨∃s f,o.op=.fieldAddr s (.tmp t) f)∧wk1 σ π' t=some (r,ty))∨(o.op=.move (.tmp t)∧an.fl=0∧wkMv σ t=some (r,ty)))∨((∃s f,o.op=.fieldAddr s (.tmp t) f)∧wkFp σ π' t=some (r,ty))):=by
 unfold wkA at h
 split at h
 case h_2=>cases h
 rename_i d r' π' s' hf
 split at h
 ·rename_i t ho
  exact⟨hf,d,r',π',s',t,rfl,.inl (.inl ⟨.inl ho,h⟩)⟩
 ·rename_i s t f ho
  split at h
  ·rename_i q hq
   cases h
   exact⟨hf,d,r',π',s',t,rfl,.inl (.inl ⟨.inr ⟨s,f,ho⟩,hq⟩)⟩
  ·exact⟨hf,d,r',π',s',t,rfl,.inr ⟨⟨s,f,ho⟩,h⟩⟩
 ·rename_i t ho
  split at h
  ·rename_i hfl
   exact⟨hf,d,r',π',s',t,rfl,.inl (.inr ⟨ho,hfl,h⟩)⟩
  ·cases h
 ·cases h
def GOk.frame_step{an:An}{ops:Array Oper}{o:Oper}{d:Nat}{e:Ent}(he:e≠ .skip)(hfz:an.frz=[])(hwt:zck ops o σ'=zck ops o σ)(hok:GOk P T FT an ops o σ [(d,e,0)])
  (hst:∀ob us1,step T an.fl o (look σ)=some (ob,us1)→us1=[(d,e,0)]→step T an.fl o (look σ')=some (ob,us1)) (hnc:∀C,zgf FT o σ≠some C) (hnp:∀cc x y,o.op≠ .pick cc x y):GOk P T FT an ops o σ' [(d,e,0)]:=by
 unfold GOk at hok ⊢
 rw[hwt]
 rcases hok with⟨h1,ps,h2,h3⟩|⟨h1,h2⟩
 ·left
  refine⟨h1,?_⟩
  rw[hfz]at h2
  have hps:ps=[]:=by
   have:preU [] σ=some []:=rfl
   rw[this]at h2
   cases h2
   rfl
  subst hps
  refine⟨[],by rw[hfz];rfl,?_⟩
  simp only[xci]at h3 ⊢
  change (∃ob us1,step T an.fl o (look σ)=some (ob,us1)∧ob=true∧_=us1)∨(∃C y us1,zgf FT o σ=some C∧C.m=some y∧C.us y=some us1∧_=us1)∨_ at h3
  change (∃ob us1,step T an.fl o (look σ')=some (ob,us1)∧ob=true∧_=us1)∨(∃C y us1,zgf FT o σ'=some C∧C.m=some y∧C.us y=some us1∧_=us1)∨_
  rcases h3 with⟨ob,us1,h4,h5,h6⟩|⟨C,y,us1,h4,_⟩|⟨cc,x1,y1,_,_,_,_,h4,_⟩
  ·exact .inl ⟨ob,us1,hst ob us1 h4 h6.symm,h5,h6⟩
  ·exact absurd h4 (hnc C)
  ·exact absurd h4 (hnp _ _ _)
 ·exfalso
  split at h2
  ·simp only[List.cons.injEq,xba,and_true]at h2
   exact he h2.2
  ·cases h2
def GOk.frameF{an:An}{ops:Array Oper}{o:Oper}{d r' s' t:Nat}{π':List Nat}{r:Nat}{ty:Ty}(hfz:an.frz=[])(hwt:zck ops o σ'=zck ops o σ)(hop:∃s f,o.op=.fieldAddr s (.tmp t) f)(hwk:wkFp σ π' t=some (r,ty))(hok:GOk P T FT an ops o σ [(d,.ref r' π' s',0)])(hr:WkEq none ty (σ r) (σ' r)):GOk P T FT an ops o σ' [(d,.ref r' π' s',0)]:=by
 obtain⟨ts,f,hop⟩:=hop
 obtain⟨⟨e',k',x',hre'⟩,hg⟩:=hr
 unfold wkFp at hwk
 split at hwk
 case h_2=>cases hwk
 rename_i u e0 k0 x0 hre
 split at hwk
 ·cases hwk
 rename_i hd2
 cases hwk
 have hd2:zix π' (.ptr u)=false:=by simpa using hd2
 have hpl:(look σ (.tmp t)).place=some ⟨t,σ t,.ptr u,.own e0 k0,x0,[0]⟩:=by
  show(Opd.slot t (σ t) (zdl σ (σ t).e)).place=_
  unfold Opd.place;simp only[hre]
 have hpl':(look σ' (.tmp t)).place=some ⟨t,σ' t,.ptr u,.own e' k',x',[0]⟩:=by
  show(Opd.slot t (σ' t) (zdl σ' (σ' t).e)).place=_
  unfold Opd.place;simp only[hre']
 have hfe:∀e,zkd T ts f (look σ (.tmp t))=some e→(∃r1 s1,e=.ref r1 π' s1)→zkd T ts f (look σ' (.tmp t))=some e:=fun e hfe hee=>by
  unfold zkd at hfe ⊢
  split at hfe
  case h_2=>cases hfe
  rename_i i ts0 htl
  split at hfe
  case h_2=>cases hfe
  rename_i offs hk
  split at hfe
  case h_2=>cases hfe
  rename_i o1 sz ρ h7 h8
  split at hfe
  ·cases hfe
  rename_i hsz
  rw[hpl]at hfe
  rw[hpl']
  simp only[htl,hk,h7,h8,hsz,xbf]at hfe ⊢
  have hty:=zka [0] (.ptr u) x0 x'
  split at hfe
  case h_2=>cases hfe
  rename_i y0 hy0
  split at hfe
  case isFalse=>cases hfe
  rename_i hyt
  rw[hy0]at hty
  cases hy1:getP [0] (.ptr u) x' with
  |none=>rw[hy1]at hty;cases hty
  |some y1=>
   rw[hy1]at hty
   have hyt':y1.t=ts0:=by
    have:=xbo hty
    rw[←this];exact hyt
   simp only[hyt',if_true]
   rw[←hfe]
   obtain⟨r1,s1,hee⟩:=hee
   rw[hee]at hfe
   have hπ:[0]++ρ=π':=by
    have:=xbo hfe
    injection this
   unfold zvj
   rw[hπ,hd2,hg]
   rfl
 refine GOk.frame_step (by simp) hfz hwt hok (fun ob us1 h4 h5=>?_) (fun C hC=>?_) (fun cc x1 y1 hp=>by rw[hop]at hp;cases hp)
 ·unfold step at h4 ⊢
  rw[hop]at h4 ⊢
  cases hdst:o.dst with
  |none=>rw[hdst]at h4;simp at h4
  |some d1=>
   rw[hdst]at h4
   simp only[one,zif,hop]at h4 ⊢
   cases hf:zkd T ts f (look σ (.tmp t))with
   |none=>rw[hf]at h4;simp at h4
   |some e=>
    have hee:∃r1 s1,e=.ref r1 π' s1:=by
     rw[hf]at h4
     simp only[xcn,xat,xba]at h4
     rw[←h4.2]at h5
     injection h5 with h5
     injection h5 with h5 h6
     injection h6 with h6 h7
     exact⟨_,_,h6⟩
    rw[hfe e hf hee,←hf]
    exact h4
 ·unfold zgf at hC
  rw[hop]at hC
  cases hdst:o.dst<;>rw[hdst]at hC<;>simp at hC
def GOk.frameW{an:An}{ops:Array Oper}{o:Oper}{us:Ups}{r:Nat}{ty:Ty}(hwA:wkA an o σ us=some (r,ty))(hok:GOk P T FT an ops o σ us)(h:∀t∈zii an ops o σ us,σ' t=σ t)(hr:WkEq none ty (σ r) (σ' r)):GOk P T FT an ops o σ' us:=by
 have hw:zgl an o σ us=some (r,ty,none):=by unfold zgl;rw[hwA]
 obtain⟨hfz,d,r',π',s',t,rfl,hcase⟩:=wkA_some hwA
 obtain⟨⟨e',k',x',hre'⟩,hg⟩:=hr
 have hwt:zck ops o σ'=zck ops o σ:=by
  unfold zck
  cases hg:zhd ops o with
  |none=>rfl
  |some t=>
   have:=h t (by unfold zii;rw[hg];simp)
   simp only[this]
 rcases hcase with hcase|⟨hop,hwk⟩
 rotate_left
 ·exact GOk.frameF hfz hwt hop hwk hok ⟨⟨e',k',x',hre'⟩,hg⟩
 rcases hcase with⟨hop,hwk⟩|⟨hop,hfl,hwk⟩
 rotate_left
 ·
  unfold wkMv at hwk
  split at hwk
  case h_2=>cases hwk
  rename_i u e0 k0 x0 hre
  cases hwk
  unfold GOk at hok ⊢
  rw[hwt]
  rcases hok with⟨h1,ps,h2,h3⟩|⟨h1,h2⟩
  ·left
   refine⟨h1,?_⟩
   rw[hfz]at h2
   have hps:ps=[]:=by
    have:preU [] σ=some []:=rfl
    rw[this]at h2
    cases h2
    rfl
   subst hps
   refine⟨[],by rw[hfz];rfl,?_⟩
   simp only[xci]at h3 ⊢
   change (∃ob us1,step T an.fl o (look σ)=some (ob,us1)∧ob=true∧_=us1)∨(∃C y us1,zgf FT o σ=some C∧C.m=some y∧C.us y=some us1∧_=us1)∨_ at h3
   change (∃ob us1,step T an.fl o (look σ')=some (ob,us1)∧ob=true∧_=us1)∨(∃C y us1,zgf FT o σ'=some C∧C.m=some y∧C.us y=some us1∧_=us1)∨_
   rcases h3 with⟨ob,us1,h4,h5,h6⟩|⟨C,y,us1,h4,_⟩|⟨cc,x1,y1,_,_,_,_,h4,_⟩
   ·left
    refine⟨ob,us1,?_,h5,h6⟩
    have hm:zim T o.type (look σ' (.tmp r))=zim T o.type (look σ (.tmp r)):=by
     show zim T o.type (.slot r (σ' r) (zdl σ' (σ' r).e))=zim T o.type (.slot r (σ r) (zdl σ (σ r).e))
     unfold zim
     simp only[hre,hre',Md.noown,xaw,xbf,hg]
    unfold step at h4 ⊢
    rw[hop]at h4 ⊢
    cases hdst:o.dst with
    |none=>rw[hdst]at h4;simp at h4
    |some d1=>
     rw[hdst]at h4
     simp only[hfl,one,zif,hop,hm]at h4 ⊢
     exact h4
   ·exfalso
    unfold zgf at h4
    rw[hop]at h4
    cases hdst:o.dst<;>rw[hdst]at h4<;>simp at h4
   ·rw[hop]at h4;cases h4
  ·exfalso
   split at h2
   ·cases h2
   ·cases h2
 obtain⟨π,s,e0,k0,x,he,hre,hd1,hd2⟩:=wk1_some hwk
 obtain⟨m,hm⟩:∃m,m=Md.own e0 k0:=⟨_,rfl⟩
 obtain⟨m',hm'⟩:∃m,m=Md.own e' k':=⟨_,rfl⟩
 rw[←hm]at hre
 rw[←hm']at hre'
 have htr:t≠r:=fun e=>by rw[e,hre]at he;cases he
 have hopd:Operand.tmp t∈o.op.operands:=by
  rcases hop with hop|⟨_,_,hop⟩<;>rw[hop]<;>simp[Op.operands]
 have ht:σ' t=σ t:=h t (by
  unfold zii
  rw[hw]
  exact xel _ (xhh.2 ⟨.tmp t,by simpa using hopd,by simp[htr]⟩))
 have hgen:genB (σ' r) ty π s=genB (σ r) ty π s:=by unfold genB;simp[hd1,hg]
 have hlk:look σ (.tmp t)=.slot t (σ t) (σ r):=by
  show Opd.slot t (σ t) (zdl σ (σ t).e)=_
  rw[he];rfl
 have hlk':look σ' (.tmp t)=.slot t (σ t) (σ' r):=by
  show Opd.slot t (σ' t) (zdl σ' (σ' t).e)=_
  rw[ht,he];rfl
 have hpl:(look σ (.tmp t)).place=if genB (σ r) ty π s then some ⟨r,σ r,ty,m,x,π⟩else none:=by
  rw[hlk];unfold Opd.place;simp only[he,hre]
 have hpl':(look σ' (.tmp t)).place=if genB (σ r) ty π s then some ⟨r,σ' r,ty,m',x',π⟩else none:=by
  rw[hlk'];unfold Opd.place;simp only[he,hre',hgen]
 unfold GOk at hok ⊢
 rw[hwt]
 rcases hok with⟨h1,ps,h2,h3⟩|⟨h1,h2⟩
 ·left
  refine⟨h1,?_⟩
  rw[hfz]at h2
  have hps:ps=[]:=by
   have:preU [] σ=some []:=rfl
   rw[this]at h2
   cases h2
   rfl
  subst hps
  refine⟨[],by rw[hfz];rfl,?_⟩
  simp only[xci]at h3 ⊢
  change (∃ob us1,step T an.fl o (look σ)=some (ob,us1)∧ob=true∧_=us1)∨(∃C y us1,zgf FT o σ=some C∧C.m=some y∧C.us y=some us1∧_=us1)∨_ at h3
  change (∃ob us1,step T an.fl o (look σ')=some (ob,us1)∧ob=true∧_=us1)∨(∃C y us1,zgf FT o σ'=some C∧C.m=some y∧C.us y=some us1∧_=us1)∨_
  rcases hop with hop|⟨ts,f,hop⟩
  ·rcases h3 with⟨ob,us1,h4,_⟩|⟨C,y,us1,h4,h5,h6,h7⟩|⟨cc,x1,y1,_,_,_,_,h4,_⟩
   ·exfalso
    unfold step at h4
    rw[hop]at h4
    cases hdst:o.dst<;>rw[hdst]at h4<;>simp[one,zif,hop]at h4
   ·right;left
    refine⟨C,y,us1,?_,h5,h6,h7⟩
    unfold zgf at h4 ⊢
    rw[hop]at h4 ⊢
    cases hdst:o.dst with
    |none=>rw[hdst]at h4;simp at h4
    |some d1=>
     rw[hdst]at h4
     simp only[he,ht,hpl,hpl']at h4 ⊢
     cases hgb:genB (σ r) ty π s<;>rw[hgb]at h4<;>first | (simp at h4;done) | simpa using h4
   ·rw[hop]at h4;cases h4
  ·rcases h3 with⟨ob,us1,h4,h5,h6⟩|⟨C,y,us1,h4,_⟩|⟨cc,x1,y1,_,_,_,_,h4,_⟩
   ·left
    refine⟨ob,us1,?_,h5,h6⟩
    have hfe:∀e,zkd T ts f (look σ (.tmp t))=some e→(∃r1 s1,e=.ref r1 π' s1)→zkd T ts f (look σ' (.tmp t))=some e:=fun e hfe hee=>by
     unfold zkd at hfe ⊢
     split at hfe
     case h_2=>cases hfe
     rename_i i ts0 htl
     split at hfe
     case h_2=>cases hfe
     rename_i offs hk
     split at hfe
     case h_2=>cases hfe
     rename_i o1 sz ρ h7 h8
     split at hfe
     ·cases hfe
     rename_i hsz
     rw[hpl]at hfe
     rw[hpl']
     cases hgb:genB (σ r) ty π s
     ·exfalso
      rw[hgb]at hfe
      simp only[xaw,xbf]at hfe
      have hro:(look σ (.tmp t)).ro=none:=by rw[hlk];unfold Opd.ro;simp only[he]
      rw[hro]at hfe
      cases hfe
     ·rw[hgb]at hfe
      simp only[if_true]at hfe ⊢
      simp only[htl,hk,h7,h8,hsz,xbf]
      have hty:=zka π ty x x'
      split at hfe
      case h_2=>cases hfe
      rename_i y0 hy0
      split at hfe
      case isFalse=>cases hfe
      rename_i hyt
      rw[hy0]at hty
      cases hy1:getP π ty x' with
      |none=>rw[hy1]at hty;cases hty
      |some y1=>
       rw[hy1]at hty
       have hyt':y1.t=ts0:=by
        have:=xbo hty
        rw[←this];exact hyt
       simp only[hyt',if_true]
       rw[←hfe]
       obtain⟨r1,s1,hee⟩:=hee
       rw[hee]at hfe
       have hπ:π++ρ=π':=by
        have:=xbo hfe
        injection this
       unfold zvj
       rw[hπ,hd2,hg]
       rfl
    unfold step at h4 ⊢
    rw[hop]at h4 ⊢
    cases hdst:o.dst with
    |none=>rw[hdst]at h4;simp at h4
    |some d1=>
     rw[hdst]at h4
     simp only[one,zif,hop]at h4 ⊢
     cases hf:zkd T ts f (look σ (.tmp t))with
     |none=>rw[hf]at h4;simp at h4
     |some e=>
      have hee:∃r1 s1,e=.ref r1 π' s1:=by
       rw[hf]at h4
       simp only[xcn,xat,xba]at h4
       rw[←h4.2]at h6
       injection h6 with h6
       injection h6 with h6 h7
       injection h7 with h7 h8
       exact⟨_,_,h7.symm⟩
      rw[hfe e hf hee,←hf]
      exact h4
   ·exfalso
    unfold zgf at h4
    rw[hop]at h4
    cases hdst:o.dst<;>rw[hdst]at h4<;>simp at h4
   ·rw[hop]at h4;cases h4
 ·exfalso
  split at h2
  ·cases h2
  ·cases h2
def wkB_some{an:An}{o:Oper}{us:Ups}{r:Nat}{ty:Ty}{π:List Nat}(h:wkB an o σ us=some (r,ty,π)):an.frz=[]∧∃d r' π' s' t,us=[(d,.view r' π' s',0)]∧(((∃ts,o.op=.load ts (.tmp t))∧wk2 σ π' t=some (r,ty,π))∨(o.op=.move (.tmp t)∧an.fl=0∧wkMv2 σ t=some (r,ty,π))):=by
 unfold wkB at h
 split at h
 case h_2=>cases h
 rename_i d r' π' s' hf
 split at h
 ·rename_i ts t ho
  exact⟨hf,d,r',π',s',t,rfl,.inl ⟨⟨ts,ho⟩,h⟩⟩
 ·rename_i t ho
  split at h
  ·rename_i hfl
   exact⟨hf,d,r',π',s',t,rfl,.inr ⟨ho,hfl,h⟩⟩
  ·cases h
 ·cases h
def wk2_some{π' π:List Nat}{t r:Nat}{ty:Ty}(h:wk2 σ π' t=some (r,ty,π)):π=π'∧∃s M x e k,(σ t).e=.ref r π s∧(σ r).e=.v ty M x∧zbe π ty M=some (.own e k):=by
 unfold wk2 at h
 split at h
 case h_2=>cases h
 rename_i r0 π0 s he
 split at h
 case isFalse=>cases h
 rename_i hπ
 split at h
 case h_2=>cases h
 rename_i ty0 M x hr
 split at h
 case h_2=>cases h
 rename_i e k hm
 cases h
 exact⟨hπ,s,M,x,e,k,he,hr,hm⟩
def GOk.frameB{an:An}{ops:Array Oper}{o:Oper}{us:Ups}{r:Nat}{ty:Ty}{π:List Nat}(hwA:wkA an o σ us=none)(hwB:wkB an o σ us=some (r,ty,π))(hok:GOk P T FT an ops o σ us)(h:∀t∈zii an ops o σ us,σ' t=σ t)(hr:WkEq (some π) ty (σ r) (σ' r)):GOk P T FT an ops o σ' us:=by
 have hw:zgl an o σ us=some (r,ty,some π):=by unfold zgl;rw[hwA,hwB]
 obtain⟨hfz,d,r',π',s',t,rfl,hcase⟩:=wkB_some hwB
 obtain⟨⟨M',x',e',k',hre',hmo'⟩,hg,hh⟩:=hr
 have hwt:zck ops o σ'=zck ops o σ:=by
  unfold zck
  cases hg:zhd ops o with
  |none=>rfl
  |some t=>
   have:=h t (by unfold zii;rw[hg];simp)
   simp only[this]
 have key:∀(hst:∀ob us1,step T an.fl o (look σ)=some (ob,us1)→us1=[(d,.view r' π' s',0)]→step T an.fl o (look σ')=some (ob,us1)) (hnc:∀C,zgf FT o σ≠some C) (hnp:∀cc x y,o.op≠ .pick cc x y),GOk P T FT an ops o σ' [(d,.view r' π' s',0)]:=fun hst hnc hnp=>by
  unfold GOk at hok ⊢
  rw[hwt]
  rcases hok with⟨h1,ps,h2,h3⟩|⟨h1,h2⟩
  ·left
   refine⟨h1,?_⟩
   rw[hfz]at h2
   have hps:ps=[]:=by
    have:preU [] σ=some []:=rfl
    rw[this]at h2
    cases h2
    rfl
   subst hps
   refine⟨[],by rw[hfz];rfl,?_⟩
   simp only[xci]at h3 ⊢
   change (∃ob us1,step T an.fl o (look σ)=some (ob,us1)∧ob=true∧_=us1)∨(∃C y us1,zgf FT o σ=some C∧C.m=some y∧C.us y=some us1∧_=us1)∨_ at h3
   change (∃ob us1,step T an.fl o (look σ')=some (ob,us1)∧ob=true∧_=us1)∨(∃C y us1,zgf FT o σ'=some C∧C.m=some y∧C.us y=some us1∧_=us1)∨_
   rcases h3 with⟨ob,us1,h4,h5,h6⟩|⟨C,y,us1,h4,_⟩|⟨cc,x1,y1,_,_,_,_,h4,_⟩
   ·exact .inl ⟨ob,us1,hst ob us1 h4 h6.symm,h5,h6⟩
   ·exact absurd h4 (hnc C)
   ·exact absurd h4 (hnp _ _ _)
  ·exfalso
   split at h2
   ·cases h2
   ·cases h2
 rcases hcase with⟨⟨ts,hop⟩,hwk⟩|⟨hop,hfl,hwk⟩
 ·obtain⟨rfl,s,M,x,e,k,he,hre,hmo⟩:=wk2_some hwk
  have htr:t≠r:=fun e=>by rw[e,hre]at he;cases he
  have ht:σ' t=σ t:=h t (by
   unfold zii
   rw[hw]
   exact xel _ (xhh.2 ⟨.tmp t,by rw[hop];simp[Op.operands],by simp[htr]⟩))
  have hgen:genB (σ' r) ty π s=genB (σ r) ty π s:=by unfold genB;simp[hg,hh]
  have hlk:look σ (.tmp t)=.slot t (σ t) (σ r):=by
   show Opd.slot t (σ t) (zdl σ (σ t).e)=_
   rw[he];rfl
  have hlk':look σ' (.tmp t)=.slot t (σ t) (σ' r):=by
   show Opd.slot t (σ' t) (zdl σ' (σ' t).e)=_
   rw[ht,he];rfl
  have hpl:(look σ (.tmp t)).place=if genB (σ r) ty π s then some ⟨r,σ r,ty,M,x,π⟩else none:=by
   rw[hlk];unfold Opd.place;simp only[he,hre]
  have hpl':(look σ' (.tmp t)).place=if genB (σ r) ty π s then some ⟨r,σ' r,ty,M',x',π⟩else none:=by
   rw[hlk'];unfold Opd.place;simp only[he,hre',hgen]
  have hld:∀e0,loadE T ts (look σ (.tmp t))=some e0→e0=.view r' π s'→loadE T ts (look σ' (.tmp t))=some e0:=fun e0 h0 hee=>by
   unfold loadE at h0 ⊢
   cases htl:tl T ts with
   |none=>rw[htl]at h0;cases h0
   |some q=>
    obtain⟨i0,u⟩:=q
    rw[htl]at h0
    simp only[hpl,hpl']at h0 ⊢
    cases hgb:genB (σ r) ty π s
    ·rw[hgb]at h0
     simp only[xaw,xbf]at h0
     have hro:(look σ (.tmp t)).ro=none:=by rw[hlk];unfold Opd.ro;simp only[he]
     rw[hro]at h0
     cases h0
    ·rw[hgb]at h0
     simp only[if_true]at h0 ⊢
     unfold Pl.deref at h0 ⊢
     simp only[hmo,hmo']at h0 ⊢
     have hty:=zka π ty x x'
     cases hy:getP π ty x with
     |none=>rw[hy]at h0;cases h0
     |some y=>
      rw[hy]at h0 hty
      cases hy':getP π ty x' with
      |none=>rw[hy']at hty;cases hty
      |some y'=>
       rw[hy']at hty
       have hyt:y.t=y'.t:=xbo hty
       simp only[Md.noown,xaw,xbf,←hyt]at h0 ⊢
       by_cases hu:y.t=u
       ·rw[if_pos hu]at h0 ⊢
        cases hk:y.t<;>rw[hk]at h0<;>simp only[hk]at h0⊢ <;>first | (cases h0;done) | skip
        ·rw[hh];exact h0
        ·subst hee;cases h0
       ·rw[if_neg hu]at h0;cases h0
  refine key (fun ob us1 h4 h5=>?_) (fun C hC=>?_) (fun cc x1 y1 hp=>by rw[hop]at hp;cases hp)
  ·unfold step at h4 ⊢
   rw[hop]at h4 ⊢
   cases hdst:o.dst with
   |none=>rw[hdst]at h4;simp at h4
   |some d1=>
    rw[hdst]at h4
    simp only[one,zif,hop]at h4 ⊢
    cases hf:loadE T ts (look σ (.tmp t))with
    |none=>rw[hf]at h4;simp at h4
    |some e0=>
     have hee:e0=.view r' π s':=by
      rw[hf]at h4
      simp only[xcn,xat,xba]at h4
      rw[←h4.2]at h5
      injection h5 with h5
      injection h5 with h5 h6
      injection h6
     rw[hld e0 hf hee,←hf]
     exact h4
  ·unfold zgf at hC
   rw[hop]at hC
   cases hdst:o.dst<;>rw[hdst]at hC<;>simp at hC
 ·unfold wkMv2 at hwk
  split at hwk
  case h_2=>cases hwk
  rename_i u e0 k0 x0 hre
  cases hwk
  simp only[zbe,xat]at hmo'
  subst hmo'
  refine key (fun ob us1 h4 h5=>?_) (fun C hC=>?_) (fun cc x1 y1 hp=>by rw[hop]at hp;cases hp)
  ·have hm:zim T o.type (look σ' (.tmp r))=zim T o.type (look σ (.tmp r)):=by
    show zim T o.type (.slot r (σ' r) (zdl σ' (σ' r).e))=zim T o.type (.slot r (σ r) (zdl σ (σ r).e))
    unfold zim
    simp only[hre,hre',Md.noown,xaw,xbf,hh]
   unfold step at h4 ⊢
   rw[hop]at h4 ⊢
   cases hdst:o.dst with
   |none=>rw[hdst]at h4;simp at h4
   |some d1=>
    rw[hdst]at h4
    simp only[hfl,one,zif,hop,hm]at h4 ⊢
    exact h4
  ·unfold zgf at hC
   rw[hop]at hC
   cases hdst:o.dst<;>rw[hdst]at hC<;>simp at hC
def GOk.frame{an:An}{ops:Array Oper}{o:Oper}{us:Ups}(hok:GOk P T FT an ops o σ us)(h:∀t∈zii an ops o σ us,σ' t=σ t)(hw:∀r ty κ,zgl an o σ us=some (r,ty,κ)→WkEq κ ty (σ r) (σ' r)):GOk P T FT an ops o σ' us:=by
 cases hA:wkA an o σ us with
 |some q=>obtain⟨r,ty⟩:=q;exact hok.frameW hA h (hw r ty none (by unfold zgl;rw[hA]))
 |none=>
  cases hB:wkB an o σ us with
  |some q=>obtain⟨r,ty,π⟩:=q;exact hok.frameB hA hB h (hw r ty (some π) (by unfold zgl;rw[hA,hB]))
  |none=>exact hok.frameN (by unfold zgl;rw[hA,hB]) h
end
def adj(s:List Nat):List Nat→List Nat
 | []=>s
 |x::r=>bif s.contains x then adj s r else adj (x::s) r
def adj_mem:∀(l s:List Nat) (i:Nat),i∈adj s l→i∈l∨i∈s
 | [],s,i,h=>.inr h
 |x::r,s,i,h=>by
  unfold adj at h
  cases hc:s.contains x with
  |true=>
   rw[hc]at h
   exact(adj_mem r s i h).imp (xap _) fun h=>h
  |false=>
   rw[hc]at h
   rcases adj_mem r (x::s) i h with h1|h1
   ·exact .inl (xap _ h1)
   ·rcases xbd.1 h1 with h2|h2
    ·exact .inl (by rw[h2];exact xdb)
    ·exact .inr h2
def zfy(acc:List (List Nat))(o:Oper):List (List Nat):=
 acc++[o.after.toList.foldl (fun s e=>if Region.binds .any e then adj s (e.on::acc.getD e.on [])else s) []]
def ancs(ops:List Oper):List (List Nat):=ops.foldl zfy []
def acyc(ops:List Oper):Bool:=ops.zipIdx.all fun(o,k)=>o.after.all fun e=>!Region.binds .any e||decide (e.on<k)
def meets(x y:List Nat×List Nat):Bool:=x.1.any (y.2.contains ·)||x.2.any (y.1.contains ·)||x.2.any (y.2.contains ·)
def indep(an:List (List Nat))(fs:List (List Nat×List Nat)):Bool:=
 fs.zipIdx.all fun(y,k)=>(fs.take k).zipIdx.all fun(x,i)=>!meets x y||(an.getD k []).contains i
def zsh{acc:List (List Nat)}:∀(l:List Edge) (s:List Nat) (i:Nat),i∈l.foldl (fun s e=>if Region.binds .any e then adj s (e.on::acc.getD e.on [])else s) s→i∈s∨∃e∈l,Region.binds .any e=true∧(e.on=i∨i∈acc.getD e.on [])
 | [],s,i,h=>.inl h
 |e::l,s,i,h=>by
  rcases zsh l _ i h with h1|⟨e',h1,h2⟩
  ·by_cases hb:Region.binds .any e=true
   ·dsimp only at h1
    rw[if_pos hb]at h1
    rcases adj_mem _ _ _ h1 with h1|h1
    ·rcases xbd.1 h1 with h1|h1
     ·exact .inr ⟨e,xdb,hb,.inl h1.symm⟩
     ·exact .inr ⟨e,xdb,hb,.inr h1⟩
    ·exact .inl h1
   ·dsimp only at h1;rw[if_neg hb]at h1;exact .inl h1
  ·exact .inr ⟨e',xap _ h1,h2⟩
def ancs_spec:∀(l:List Oper) (acc:List (List Nat)),(l.foldl zfy acc).length=acc.length+l.length∧(∀j,j<acc.length→(l.foldl zfy acc).getD j []=acc.getD j []) ∧
  ∀(k:Nat) (o:Oper) (i:Nat),l[k]?=some o→i∈(l.foldl zfy acc).getD (acc.length+k) []→∃e∈o.after.toList,Region.binds .any e=true∧(e.on=i∨(i∈(l.foldl zfy acc).getD e.on []∧e.on<acc.length+k))
 | [],acc=>⟨rfl,fun _ _=>rfl,fun k o i h=>by simp at h⟩
 |x::l,acc=>by
  have hl:(zfy acc x).length=acc.length+1:=by simp[zfy]
  obtain⟨h1,h2,h3⟩:=ancs_spec l (zfy acc x)
  refine⟨by simp only[xgk];rw[h1,hl,xaz];omega,fun j hj=>?_,fun k o i hk hi=>?_⟩
  ·simp only[xgk]
   rw[h2 j (by omega)]
   unfold zfy
   rw[xae,xek hj,←xae]
  ·simp only[xgk]at hi ⊢
   cases k with
   |zero=>
    simp at hk
    subst hk
    rw[h2 _ (by omega)]at hi
    have he:(zfy acc x).getD (acc.length+0) []=x.after.toList.foldl (fun s e=>if Region.binds .any e then adj s (e.on::acc.getD e.on [])else s) []:=by
     simp[zfy]
    rw[he]at hi
    rcases zsh _ _ _ hi with h4|⟨e,h4,h5,h6⟩
    ·cases h4
    ·refine⟨e,h4,h5,h6.imp id fun h7=>?_⟩
     have hlt:e.on<acc.length:=by
      rcases xcy e.on acc.length with h'|h'
      ·exact h'
      ·rw[xae,xdh h']at h7;cases h7
     refine⟨?_,by omega⟩
     rw[h2 _ (by omega)]
     unfold zfy
     rw[xae,xek hlt,←xae]
     exact h7
   |succ k=>
    obtain⟨e,h4,h5,h6⟩:=h3 k o i (by simpa using hk) (by rw[hl];rw[show acc.length+1+k=acc.length+(k+1)from by omega];exact hi)
    exact⟨e,h4,h5,h6.imp id fun⟨h7,h8⟩=>⟨h7,by rw[hl]at h8;omega⟩⟩
section
variable (us:Nat→Ups)
def envAt(t:Nat)(L:List Nat)(p:Slot):Slot:=L.foldl (fun p k=>updAt (us k) t p) p
def envL(L:List Nat)(σ:Env):Env:=L.foldl (fun σ k=>upd (us k) σ) σ
def wr(k:Nat):List Nat:=(us k).map (·.1)
def zwu(t:Nat):∀(L:List Nat) (σ:Env),envL us L σ t=envAt us t L (σ t)
 | [],_=>rfl
 |k::L,σ=>by
  show envL us L (upd (us k) σ) t=envAt us t L (updAt (us k) t (σ t))
  rw[zwu t L,zid]
def zhf(t:Nat):∀(L:List Nat) (p:Slot),envAt us t L p=envAt us t (L.filter fun k=>(wr us k).contains t) p
 | [],_=>rfl
 |k::L,p=>by
  show envAt us t L (updAt (us k) t p)=_
  rw[xey]
  by_cases h:(wr us k).contains t=true
  ·rw[if_pos h];exact zhf t L _
  ·rw[if_neg h,zqq _ _ _ (by simpa[wr]using h)];exact zhf t L p
def zum{L L':List Nat}{σ:Env}{t:Nat}(h:(L.filter fun k=>(wr us k).contains t)=L'.filter fun k=>(wr us k).contains t):envL us L σ t=envL us L' σ t:=by
 rw[zwu,zwu,zhf,zhf us t L',h]
end
section
variable {P:Program} {T:Tab} {FT:List (TgE P)} {c:Ctx} {an:Nat→An} {ops:Array Oper} {us:Nat→Ups} {σ:Env}
def zft(n:Nat)(listed:Array Bool):List Nat:=(List.range n).filter fun k=>listed.getD k false
def zfx{n:Nat}{listed:Array Bool}{q:Nat→Bool}{i:Nat}(hi:i≤n)(h:∀k,k<n→q k=true→(listed.getD k false=true↔k<i)) :
  (zft n listed).filter q=(List.range i).filter q:=by
 unfold zft
 rw[xiz]
 have h1:(List.range n).filter (fun a=>q a&&listed.getD a false)=(List.range n).filter (fun a=>q a&&decide (a<i)):=by
  apply xfa
  intro k hk
  rw[xbu]at hk
  cases hq:q k with
  |false=>simp
  |true=>
   have:=h k hk hq
   cases hl:listed.getD k false<;>simp[hl]at this⊢ <;>omega
 rw[h1]
 have h2:List.range n=List.range i++(List.range' i (n-i)):=by
  have:=List.range'_append_1 (s:=0) (m:=i) (n:=n-i)
  rw[xdc,Nat.add_sub_cancel' hi]at this
  rw[xkj,xkj]
  exact this.symm
 rw[h2,xfe]
 have h3:(List.range' i (n-i)).filter (fun a=>q a&&decide (a<i))=[]:=by
  rw[xgr]
  intro k hk
  rw[List.mem_range'_1]at hk
  simp;omega
 rw[h3,xco]
 apply xfa
 intro k hk
 rw[xbu]at hk
 simp[hk]
def Mild(κ:Option (List Nat))(ty:Ty)(u:Nat×Ent×Nat):Prop:=match κ with
 |none=>(∃e m x,u.2.1=.v ty (.own e m) x)∧(u.2.2=1∨u.2.2=2)
 |some π=>(∃M x e k,u.2.1=.v ty M x∧zbe π ty M=some (.own e k))∧u.2.2=2
def ztn{κ:Option (List Nat)}{ty:Ty}{r:Nat}{p0:Slot}:∀(us:Ups) (p:Slot),(∀u∈us,u.1=r→Mild κ ty u)→WkEq κ ty p0 p→WkEq κ ty p0 (updAt us r p)
 | [],p,_,h=>h
 |(t,e,k)::us,p,hu,h=>by
  unfold updAt
  refine ztn us _ (fun u hm=>hu u (xap _ hm)) ?_
  split
  ·rename_i heq
   have hm:=hu (t,e,k) (by simp) heq.symm
   cases κ with
   |none=>
    obtain⟨⟨e1,m,x,he⟩,hk⟩:=hm
    simp only at he hk
    refine⟨⟨e1,m,x,by rw[zpj];exact he⟩,?_⟩
    rcases hk with rfl|rfl
    ·exact h.2
    ·exact h.2
   |some π=>
    obtain⟨⟨M,x,e1,k1,he,hm1⟩,hk⟩:=hm
    simp only at he hk
    subst hk
    exact⟨⟨M,x,e1,k1,by rw[zpj];exact he,hm1⟩,h.2⟩
  ·exact h
def envL_mild{us:Nat→Ups}{σ:Env}{κ:Option (List Nat)}{ty:Ty}{r:Nat}{p0:Slot}:∀(L:List Nat) (p:Slot),(∀j∈L,∀u∈us j,u.1=r→Mild κ ty u)→WkEq κ ty p0 p→WkEq κ ty p0 (envAt us r L p)
 | [],p,_,h=>h
 |k::L,p,hu,h=>by
  show WkEq κ ty p0 (envAt us r L (updAt (us k) r p))
  exact envL_mild (σ:=σ) L _ (fun j hj=>hu j (xap _ hj)) (ztn _ _ (hu k (by simp)) h)
def WkEq.trans'{κ:Option (List Nat)}{ty:Ty}{p q q':Slot}(h:WkEq κ ty p q)(h':WkEq κ ty p q'):WkEq κ ty q q':=by
 cases κ with
 |none=>exact⟨h'.1,h'.2.trans h.2.symm⟩
 |some π=>exact⟨h'.1,h'.2.1.trans h.2.1.symm,h'.2.2.trans h.2.2.symm⟩
structure Text(P:Program)(T:Tab)(FT:List (TgE P))(an:Nat→An)(N:Nat)(kp:Oper→Prop)(ops:Array Oper)(σ:Env)(us:Nat→Ups)(rd:Nat→List Nat):Prop where
 ok:∀(k:Nat) (o:Oper),ops[k]?=some o→GOk P T FT (an k) ops o (envL us (List.range k) σ) (us k)∧(within N o=true∧kp o)∧zii (an k) ops o (envL us (List.range k) σ) (us k)=rd k
 weak:∀(k:Nat) (o:Oper) (r:Nat) (ty:Ty) (κ:Option (List Nat)),ops[k]?=some o→zgl (an k) o (envL us (List.range k) σ) (us k)=some (r,ty,κ)→WkEq κ ty (σ r) (σ r)∧∀j,j<ops.size→j<k∨k∉(ancs ops.toList).getD j []→∀u∈us j,u.1=r→Mild κ ty u
 acyc:∀(k:Nat) (o:Oper),ops[k]?=some o→∀e∈o.after,Region.binds .any e=true→e.on<k
 ind:∀(i k:Nat),i<k→k<ops.size→(∃t,(t∈rd i∧t∈wr us k)∨(t∈wr us i∧t∈rd k)∨(t∈wr us i∧t∈wr us k))→i∈(ancs ops.toList).getD k []
def zva{listed:Array Bool}(hcl:∀(k:Nat) (o:Oper),ops[k]?=some o→listed.getD k false=true→∀e∈o.after,Region.binds .any e=true→listed.getD e.on false=true) :
  ∀(k i:Nat) (o:Oper),ops[k]?=some o→i∈(ancs ops.toList).getD k []→(∀e∈o.after,Region.binds .any e=true→listed.getD e.on false=true)→listed.getD i false=true:=by
 intro k
 induction k using Nat.strongRecOn with
 |_ k ih=>
  intro i o ho hi he
  obtain⟨_,_,hspec⟩:=ancs_spec ops.toList []
  obtain⟨e,h1,h2,h3⟩:=hspec k o i (by simpa using ho) (by rw[show([]:List (List Nat)).length+k=k from by simp];exact hi)
  have h1':e∈o.after:=by simpa using h1
  have hle:=he e h1' h2
  rcases h3 with h3|⟨h3,h4⟩
  ·rw[←h3];exact hle
  ·have hlt:e.on<k:=by simpa using h4
   have hk:k<ops.size:=(xbg.1 ho).1
   have hoe:ops[e.on]?=some ops[e.on]:=xcg (by omega)
   exact ih e.on hlt i _ hoe h3 (hcl e.on _ hoe hle)
def order_any{rd:Nat→List Nat}(hT:TabOK P T)(Tx:Text P T FT an c.N (kept c) ops σ us rd){Q:Exit→Act→World→Prop}(hQ:∀a w,InvK P c (envL us (List.range ops.size) σ) a w→Q .normal a w) :
  ∀(fuel:Nat) (listed:Array Bool) (a:Act) (w:World),listed.size=ops.size→((List.range ops.size).filter fun k=>!listed.getD k true).length=fuel →
   (∀(k:Nat) (o:Oper),ops[k]?=some o→listed.getD k false=true→∀e∈o.after,Region.binds .any e=true→listed.getD e.on false=true) →
   InvK P c (envL us (zft ops.size listed) σ) a w→wpAny P .any ops Q fuel listed a w:=by
 have hdone:∀(listed:Array Bool),listed.size=ops.size→(∀k,k<ops.size→listed.getD k true=true)→zft ops.size listed=List.range ops.size:=fun listed hs hall=>by
  unfold zft
  rw[xhn]
  intro k hk
  rw[xbu]at hk
  have:=hall k hk
  simpa[hs,hk]using this
 have hready:∀(listed:Array Bool),listed.size=ops.size→Region.ready .any ops listed=[]→∀k,k<ops.size→listed.getD k true=true:=fun listed hs hr=>by
  intro k
  induction k using Nat.strongRecOn with
  |_ k ih=>
   intro hk
   cases hl:listed.getD k true with
   |true=>rfl
   |false=>
    exfalso
    have hmem:k∈Region.ready .any ops listed:=mem_ready.2 ⟨hl,ops[k],xcg hk,fun e he hb=>by
     have hlt:=Tx.acyc k _ (xcg hk) e he hb
     have:=ih e.on hlt (by omega)
     simpa[hs,show e.on<ops.size from by omega]using this⟩
    rw[hr]at hmem
    cases hmem
 intro fuel
 induction fuel with
 |zero=>
  intro listed a w hs hf hcl h
  have hall:∀k,k<ops.size→listed.getD k true=true:=fun k hk=>by
   have:=xcf hf
   rw[xgr]at this
   simpa using this k (xbu.2 hk)
  refine⟨?_,hQ a w (by rw[←hdone listed hs hall];exact h)⟩
  apply List.eq_nil_iff_forall_not_mem.2
  intro k hk
  obtain⟨h1,o,ho,_⟩:=mem_ready.1 hk
  rw[hall k (xbg.1 ho).1]at h1
  cases h1
 |succ fuel ih=>
  intro listed a w hs hf hcl h
  refine⟨fun hr=>hQ a w (by rw[←hdone listed hs (hready listed hs hr)];exact h),fun i hi=>?_⟩
  obtain⟨hun,o,ho,hedge⟩:=mem_ready.1 hi
  have hin:i<ops.size:=(xbg.1 ho).1
  obtain⟨hok,hN,hrd⟩:=Tx.ok i o ho
  have hanc:∀k,k∈(ancs ops.toList).getD i []→listed.getD k false=true:=fun k hk=>zva hcl i k o ho hk hedge
  have hno:∀k,k<ops.size→i∈(ancs ops.toList).getD k []→listed.getD k false=false:=fun k hk hik=>by
   cases hl:listed.getD k false with
   |false=>rfl
   |true=>
    have:=zva hcl k i ops[k] (xcg hk) hik (hcl k _ (xcg hk) hl)
    simp[hs,hin]at this hun
    rw[hun]at this
    cases this
  have hiun:listed.getD i false=false:=by simpa[hs,hin]using hun
  have hside:∀t k,k<ops.size→k≠i→t∈wr us k→(t∈rd i∨t∈wr us i)→(listed.getD k false=true↔k<i):=fun t k hk hki htk hti=>by
   rcases xcy k i with hlt|hge
   ·exact⟨fun _=>hlt,fun _=>hanc k (Tx.ind k i hlt hin ⟨t,hti.elim (fun h=>.inr (.inl ⟨htk,h⟩)) fun h=>.inr (.inr ⟨htk,h⟩)⟩)⟩
   ·have hgt:i<k:=by omega
    have:=hno k hk (Tx.ind i k hgt hk ⟨t,hti.elim (fun h=>.inl ⟨h,htk⟩) fun h=>.inr (.inr ⟨h,htk⟩)⟩)
    exact⟨fun h=>(by rw[this]at h;cases h),fun h=>by omega⟩
  have hframe:∀t∈zii (an i) ops o (envL us (List.range i) σ) (us i),envL us (zft ops.size listed) σ t=envL us (List.range i) σ t:=fun t ht=>by
   rw[hrd]at ht
   refine zum us (zfx (xfm hin) fun k hk hq=>?_)
   have htk:t∈wr us k:=by simpa using hq
   by_cases hki:k=i
   ·subst hki;rw[hiun];simp
   ·exact hside t k hk hki htk (.inl ht)
  have hok':=hok.frame hframe fun r ty κ hwk=>by
   obtain⟨hb,hmild⟩:=Tx.weak i o r ty κ ho hwk
   have h0:∀L:List Nat,(∀j∈L,j<ops.size∧(j<i∨i∉(ancs ops.toList).getD j []))→WkEq κ ty (σ r) (envL us L σ r):=fun L hL=>by
    rw[zwu]
    exact envL_mild (σ:=σ) L _ (fun j hj=>hmild j (hL j hj).1 (hL j hj).2) hb
   have h1:=h0 (List.range i) fun j hj=>by have:=xbu.1 hj;exact⟨by omega,.inl this⟩
   have h2:=h0 (zft ops.size listed) fun j hj=>by
    unfold zft at hj
    obtain⟨h3,h4⟩:=xfy.1 hj
    have h3:=xbu.1 h3
    refine⟨h3,.inr fun h5=>?_⟩
    rw[hno j h3 h5]at h4
    cases h4
   exact h1.trans' h2
  refine hok'.wpOp ho h hT hN.1 hN.2 fun a' w' h'=>?_
  have hset:(listed.setIfInBounds i true).size=ops.size:=by simpa using hs
  refine ih _ a' w' hset ?_ (fun k o' hk hl e he hb=>?_) ?_
  ·have hsplit:((List.range ops.size).filter fun k=>!listed.getD k true).length=((List.range ops.size).filter fun k=>!(listed.setIfInBounds i true).getD k true).length+1:=by
    have key:∀(l:List Nat),l.Nodup→i∈l→(l.filter fun k=>!listed.getD k true).length=(l.filter fun k=>!(listed.setIfInBounds i true).getD k true).length+1:=by
     intro l
     induction l with
     |nil=>intro _ h;cases h
     |cons x l ih2=>
      intro hnd hmem
      obtain⟨hx,hnd'⟩:=xdx.1 hnd
      rw[xey,xey]
      by_cases hxi:x=i
      ·subst hxi
       have e1:(!listed.getD x true)=true:=by rw[hun];rfl
       have e2:(!(listed.setIfInBounds x true).getD x true)=false:=by simp[hs,hin]
       rw[if_pos e1,e2]
       simp only[xaw,xbf,xaz]
       congr 1
       congr 1
       apply xfa
       intro k hk
       have hkx:x≠k:=fun he=>hx (he▸hk)
       rw[getD_set_ne true hkx]
      ·have hmem':i∈l:=(xbd.1 hmem).resolve_left (fun e=>hxi e.symm)
       have:=ih2 hnd' hmem'
       rw[getD_set_ne true (Ne.symm hxi)]
       split
       ·rw[xaz,xaz,this]
       ·exact this
    exact key _ xii (xbu.2 hin)
   omega
  ·by_cases hki:k=i
   ·subst hki
    rw[ho]at hk
    cases hk
    exact getD_set_true (hedge e he hb)
   ·rw[getD_set_ne false (Ne.symm hki)]at hl
    exact getD_set_true (hcl k o' hk hl e he hb)
  ·have henv:upd (us i) (envL us (zft ops.size listed) σ)=envL us (zft ops.size (listed.setIfInBounds i true)) σ:=by
    funext t
    have e1:upd (us i) (envL us (zft ops.size listed) σ)=envL us (zft ops.size listed++[i]) σ:=by
     unfold envL;rw[xec];rfl
    rw[e1]
    refine zum us ?_
    rw[xfe]
    by_cases hti:t∈wr us i
    ·have e2:([i].filter fun k=>(wr us k).contains t)=[i]:=by simp[hti]
     rw[e2]
     have e3:(zft ops.size listed).filter (fun k=>(wr us k).contains t)=(List.range i).filter fun k=>(wr us k).contains t:=
      zfx (xfm hin) fun k hk hq=>by
       have htk:t∈wr us k:=by simpa using hq
       by_cases hki:k=i
       ·subst hki;rw[hiun];simp
       ·exact hside t k hk hki htk (.inr hti)
     have e4:(zft ops.size (listed.setIfInBounds i true)).filter (fun k=>(wr us k).contains t)=(List.range (i+1)).filter fun k=>(wr us k).contains t:=
      zfx hin fun k hk hq=>by
       have htk:t∈wr us k:=by simpa using hq
       by_cases hki:k=i
       ·subst hki;simp[hs,hin]
       ·rw[getD_set_ne false (Ne.symm hki),hside t k hk hki htk (.inr hti)]
        omega
     rw[e3,e4,xfx,xfe,e2]
    ·have e2:([i].filter fun k=>(wr us k).contains t)=[]:=by simp[hti]
     rw[e2,xco]
     unfold zft
     rw[xiz,xiz]
     apply xfa
     intro k _
     by_cases hki:k=i
     ·subst hki;simp[hti]
     ·rw[getD_set_ne false (Ne.symm hki)]
   rw[←henv]
   exact h'
end
end Go.X
