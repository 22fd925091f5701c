/- A part of the proof. -/
import Derived.Orders
import Derived.Test.YtamgmpngdmnadaaGreatJ3
set_option linter.defProp false
set_option linter.unusedSimpArgs false
set_option linter.unusedVariables false
namespace Go.X
open Go Go.RowKit
def okS:List Nat->Ty->Bool
 | [],_=>true
 |i::π,.pair a b=>match i with
  | 0=>okS π a
  | 1=>okS π b
  |_=>false
 |i::π,.arr n t=>decide (i<n)&&okS π t
 |i::π,.ptr t=>match i with
  | 0=>okS π t
  |_=>false
 |_,_=>false
def okS_ok{S:St}:∀{π:List Nat} {t:Ty} {p:Place},okS π t=true->okP S π t p
 | [],_,_,_=>trivial
 |i::π,.pair a b,p,h=>by
  match i with
  | 0=>exact okS_ok (π:=π) (t:=a) h
  | 1=>exact okS_ok (π:=π) (t:=b) h
  |i+2=>simp[okS]at h
 |i::π,.arr n t,p,h=>by
  have h':decide (i<n)=true/\okS π t=true:=by cases i<;>(try rename_i j;cases j)<;>(simp only[okS,xal]at h;exact h)
  rw[zex];exact⟨xbc h'.1,okS_ok h'.2⟩
 |i::π,.ptr t,p,h=>by
  match i with
  | 0=>exact okS_ok (π:=π) (t:=t) h
  |i+1=>simp[okS]at h
 |i::π,.slice t,_,h=>by cases i<;>(try rename_i j;cases j)<;>simp[okS]at h
 |_::_,.int _,_,h=>by simp[okS]at h
 |_::_,.bool,_,h=>by simp[okS]at h
 |_::_,.str,_,h=>by simp[okS]at h
 |_::_,.unit,_,h=>by simp[okS]at h
 |_::_,.fn1 _ _,_,h=>by simp[okS]at h
 |_::_,.fn2 _ _ _,_,h=>by simp[okS]at h
 |_::_,.alt _ _ _,_,h=>by simp[okS]at h
 |_::_,.nilI,_,h=>by simp[okS]at h
def frz1(e:Ent)(π:List Nat):Option Ent:=
 match e with
 | .v t m x=>match zbr π t m,zcc π t x,zfl π t m .sh with
  |some k,some y,some m'=>if okS π t&&k.nobw&&zkh y.t k then some (.v t m' x)else none
  |_,_,_=>none
 |_=>none
def zyd:List (Nat×List Nat)->Env->Option Ups
 | [],_=>some []
 |(r,π)::fs,σ=>match frz1 (σ r).e π with
  |some e=>(zyd fs (zdv σ r e 2)).map λus=>(r,e,2)::us
  |none=>none
def dyn1(d:Nat)(a r:Ty)(g:a.den->Option r.den)(o:Opd):Option CallO:=
 match zzm a o with
 |some z=>if r.flat then some ⟨r.den,g z.x,λy=>some [(d,.v r .sh y,0)]⟩else none
 |none=>none
def dyn2(d:Nat)(a b r:Ty)(g:a.den->b.den->Option r.den)(o o':Opd):Option CallO:=
 match zzm a o,zzm b o' with
 |some z,some z'=>if r.flat then some ⟨r.den,g z.x z'.x,λy=>some [(d,.v r .sh y,0)]⟩else none
 |_,_=>none
noncomputable def preO {P:Program} (d:Nat) (q:PreE P) (o:Opd):Option CallO:=
 match o.val (.slice (.int q.k))with
 |some (.sh,x)=>some ⟨Unit,bif decide (((x:List Int).length:Int)<=LIM)then some ()else none,λ_=>some [(d,.v (.slice (.int q.k)) .sh ((x:List Int).take (q.g x)),0)]⟩
 |some (.bw,x)=>some ⟨Unit,bif decide (((x:List Int).length:Int)<=LIM)then some ()else none,λ_=>some [(d,.v (.slice (.int q.k)) .bw ((x:List Int).take (q.g x)),0)]⟩
 |_=>none
noncomputable def sqO {P:Program} (FT:List (TgE P)) (d f:Nat) (xs:List Operand) (σ:Env):Option CallO:=
 match findP FT f,xs with
 |some q,[x]=>preO d q (zar σ x)
 |_,_=>none
noncomputable def zgs {P:Program} (FT:List (TgE P)) (o:Oper) (σ:Env):Option CallO:=
 match o.op,o.dst with
 | .call {callee:=.value (.func f),args:=xs,argTypes:=_},some d=>match sqO FT d f xs.toList σ with
  |some C=>some C
  |none=>callU FT d f (xs.toList.map λo=>(zar σ o,zix σ o))
 | .call {callee:=.value (.tmp t),args:=⟨[x]⟩,argTypes:=_},some d=>match(σ t).e with
  | .v (.fn1 a r) .bw g=>dyn1 d a r g (zar σ x)
  | .v (.fn1 a r) .sh g=>dyn1 d a r g (zar σ x)
  |_=>none
 | .call {callee:=.value (.tmp t),args:=⟨[x,y]⟩,argTypes:=_},some d=>match(σ t).e with
  | .v (.fn2 a b r) .bw g=>dyn2 d a b r g (zar σ x) (zar σ y)
  | .v (.fn2 a b r) .sh g=>dyn2 d a b r g (zar σ x) (zar σ y)
  |_=>none
 | .call {callee:=.invoke r nm,args:=xs,argTypes:=_},some d=>callM FT d nm ((r::xs.toList).map λo=>(zar σ o,zix σ o))
 | .nilCheck (.tmp t),some d=>match(σ t).e with
  | .mth nm e=>match findM FT nm with
   |some E=>if E.t=e.t then some ⟨Unit,bif zir e.t e.x then none else some (),λ_=>some [(d,.dead,0)]⟩else none
   |none=>none
  | .ref r π s=>if(zar σ (.tmp t)).place.isSome then some ⟨Unit,some (),λ_=>some [(d,.ref r π s,0)]⟩else none
  | .v (.ptr u) .bw x=>some ⟨Unit,some (),λ_=>some [(d,.v (.ptr u) .bw x,0)]⟩
  | .v (.ptr u) .sh x=>some ⟨Unit,some (),λ_=>some [(d,.v (.ptr u) .sh x,0)]⟩
  |_=>none
 |_,_=>none
def zhu(ops:Array Oper)(o:Oper):Option Nat:=o.guard.bind λg=>(ops[g.1]?).bind (·.dst)
def zcu(ops:Array Oper)(o:Oper)(σ:Env):Option Bool:=
 match o.guard with
 |none=>some true
 |some (_,want)=>match zhu ops o with
  |some t=>match(σ t).e with
   | .v .bool m b=>if m=.dead then none else some (b == want)
   | .skip=>some false
   |_=>none
  |none=>none
def Ok(P:Program)(T:Tab)(FT:List (TgE P))(an:An)(o:Oper)(σ:Env)(us:Ups):Prop:=
  ∃ps,zyd an.frz σ=some ps /\
    ((∃ob us1,zlm T an.fl o (zar (upd ps σ))=some (ob,us1)/\ob=true/\us=ps++us1) \/
     (∃C y us1,zgs FT o (upd ps σ)=some C/\C.m=some y/\C.us y=some us1/\us=ps++us1) \/
     (∃cc x y m bv ob us1,o.op=.pick cc x y/\(zar (upd ps σ) cc).val .bool=some (m,bv)/\m≠ .dead/\zlm T an.fl {o with op:=.move (bif bv then x else y)} (zar (upd ps σ))=some (ob,us1)/\ob=true/\us=ps++us1))
def GOk(P:Program)(T:Tab)(FT:List (TgE P))(an:An)(ops:Array Oper)(o:Oper)(σ:Env)(us:Ups):Prop:=
 (zcu ops o σ=some true/\Ok P T FT an o σ us)\/(zcu ops o σ=some false/\us=match o.dst with | some d=>[(d,.skip,0)] | none=>[])
def zsj:Ent->List Nat
 | .ref r _ _=>[r]
 | .view r _ _=>[r]
 | .tail r _ _=>[r]
 | .rbox r _ _=>[r]
 | .clo _ caps=>zda caps
 |_=>[]
def wk1(σ:Env)(π':List Nat)(t:Nat):Option (Nat×Ty):=
 match(σ t).e with
 | .ref r π _=>match(σ r).e with
  | .v ty (.own _ _) _=>if zjr π ty then none else if zjr π' ty then none else some (r,ty)
  |_=>none
 |_=>none
def wkMv(σ:Env)(t:Nat):Option (Nat×Ty):=
 match(σ t).e with
 | .v (.ptr u) (.own _ _) _=>some (t,.ptr u)
 |_=>none
def wkFp(σ:Env)(π':List Nat)(t:Nat):Option (Nat×Ty):=
 match(σ t).e with
 | .v (.ptr u) (.own _ _) _=>if zjr π' (.ptr u)then none else some (t,.ptr u)
 |_=>none
def wkA(an:An)(o:Oper)(σ:Env)(us:Ups):Option (Nat×Ty):=
 match an.frz,us with
 | [],[(_,.ref _ π' _,0)]=>match o.op with
  | .nilCheck (.tmp t)=>wk1 σ π' t
  | .fieldAddr _ (.tmp t) _=>if an.fl=0 then match wk1 σ π' t with
   |some q=>some q
   |none=>wkFp σ π' t else none
  | .move (.tmp t)=>if an.fl=0 then wkMv σ t else none
  |_=>none
 |_,_=>none
def wk2(σ:Env)(π':List Nat)(t:Nat):Option (Nat×Ty×List Nat):=
 match(σ t).e with
 | .ref r π _=>if π=π' then match(σ r).e with
  | .v ty M _=>match zbr π ty M with
   |some (.own _ _)=>some (r,ty,π)
   |_=>none
  |_=>none else none
 |_=>none
def wkMv2(σ:Env)(t:Nat):Option (Nat×Ty×List Nat):=
 match(σ t).e with
 | .v (.slice u) (.own _ _) _=>some (t,.slice u,[])
 |_=>none
def wkB(an:An)(o:Oper)(σ:Env)(us:Ups):Option (Nat×Ty×List Nat):=
 match an.frz,us with
 | [],[(_,.view _ π' _,0)]=>match o.op with
  | .load _ (.tmp t)=>if an.fl=0 then wk2 σ π' t else none
  | .move (.tmp t)=>if an.fl=0 then wkMv2 σ t else none
  |_=>none
 |_,_=>none
def zgz(an:An)(o:Oper)(σ:Env)(us:Ups):Option (Nat×Ty×Option (List Nat)):=
 match wkA an o σ us with
 |some (r,ty)=>some (r,ty,none)
 |none=>match wkB an o σ us with
  |some (r,ty,π)=>some (r,ty,some π)
  |none=>none
def zje(an:An)(ops:Array Oper)(o:Oper)(σ:Env)(us:Ups):List Nat:=
  (match zgz an o σ us with
   |some (r,_)=>o.op.operands.toList.flatMap λx=>match x with | .tmp t=>bif decide (t=r)then []else [t] | _=>[]
   |none=>o.op.operands.toList.flatMap λx=>match x with | .tmp t=>t::zsj (σ t).e | _=>[])++((zhu ops o).toList++an.frz.map (·.1))
section
variable {P:Program} {c:Ctx} {σ σ':Env} {a:Act} {w:World} {S:St} {T:Tab} {FT:List (TgE P)}
def frz1_sound(h:Inv P c σ a w){r:Nat}{π:List Nat}{e:Ent}(hx:frz1 (σ r).e π=some e):Inv P c (zdv σ r e 2) a w:=by
 obtain⟨S,rfl,h⟩:=h;unfold frz1 at hx;split at hx;case h_2=>cases hx
 rename_i t m x hr;split at hx;case h_2=>cases hx
 rename_i k y m' hm hg hs;split at hx;case isFalse=>cases hx
 rename_i hc;simp only[xal]at hc;cases hx;obtain⟨S',h1,h2⟩:=h.freeze (y:=y.x) hr hm hg (okS_ok hc.1.1) hc.1.2 hc.2 hs;exact⟨S',h2,h1⟩
def zkr:∀{fs:List (Nat×List Nat)} {σ:Env} {ps:Ups},Inv P c σ a w->zyd fs σ=some ps->Inv P c (upd ps σ) a w
 | [],σ,ps,h,hx=>by cases hx;exact h
 |(r,π)::fs,σ,ps,h,hx=>by
  simp only[zyd]at hx;split at hx;case h_2=>cases hx
  rename_i e he;simp only[xac]at hx;obtain⟨us,h1,rfl⟩:=hx;exact zkr (σ:=zdv σ r e 2) (frz1_sound h he) h1
def dyn_wp (h:InvOf P c σ a S) {o:Oper} {t d:Nat} {x:Operand} {ts:Array TypeId} (ho:o.op=.call { callee:=.value (.tmp t),args:=⟨[x]⟩,argTypes:=ts }) (hdst:o.dst=some d) (hd:d < c.N) {A R:Ty} {m:Md} {g:A.den->Option R.den}
    (hm:m=.sh\/m=.bw) (ht:(σ t).e=.v (.fn1 A R) m g) {C:CallO} (hx:dyn1 d A R g (zar σ x)=some C) {y:C.R} (hy:C.m=some y) {us:Ups} (hus:C.us y=some us) {Q:Exit->Act->World->Prop}:o.wp P a S.w (Inv P c (upd us σ)) Q:=by
  unfold dyn1 at hx;split at hx;case h_2=>cases hx
  rename_i z hz;split at hx;case isFalse=>cases hx
  rename_i hh;cases hx;simp only at hy;cases hus;obtain⟨hi,he⟩:=zrp h (gs:=[]) hz (λr _=>rfl) (0,[]);have hf:∃ f caps,zab (.fn1 A R) (tmv a t) 0=some (.func (.func f) #[] caps)/\zdn P f/\∀ (S':St) (x:A.den) (y:R.den),Fut m S S'->S'.WF->g x=some y->∀ v,Rel P A S' .bw (0,[]) x (zab A v)->zgt A v ->
        Calls P f (#[v]++caps) S'.w λe w''=>∃u,e=.returned u/\Rel P R {S' with w:=w''} .sh (0,[]) y (zab R u)/\zgt R u/\Ext S'.w w'':=by
    have:=(h.slot ht).1;rcases hm with rfl|rfl<;>exact this
  obtain⟨f,caps,h1,h2,h3⟩:=hf;have hv:a.eval (.tmp t)=.func (.func f) #[] caps:=by rw[zbf];simpa[zab,Ty.agg]using h1
  have ha:=h3 (S.callee []) z.x y ((calleeFut2 (S:=S)).sh m) h.calleeWF hy (a.eval x) he.1 he.2;have hb:(execOp a.eval o).run P S.w=.ok (.enter f (#[a.eval x]++caps)) S.w:=by simp[execOp,ho,resolve,hv,Deferred.ofValue,invoke,h2 _ S.w]
  unfold Oper.wp;rw[hb,Oper.upon_enter];refine Calls.mono ha λe w' hR=>?_;obtain⟨u,rfl,hr,hg,hc⟩:=hR;simp only;rw[hdst];refine⟨{S with w:=w'},rfl,?_⟩;refine InvOf.put (S':={S with w:=w'}) h hc rfl rfl hd (λ_ _ _=>rfl) (λ_=>.inl rfl) (.v (zbs σ d _ 0) ?_);rw[zak (by rw[h.size];exact hd)];exact⟨Rel.flat hh hr,hg⟩
def dyn2_wp (h:InvOf P c σ a S) {o:Oper} {t d:Nat} {x x':Operand} {ts:Array TypeId} (ho:o.op=.call { callee:=.value (.tmp t),args:=⟨[x,x']⟩,argTypes:=ts }) (hdst:o.dst=some d) (hd:d < c.N) {A B R:Ty} {m:Md} {g:A.den->B.den->Option R.den}
    (hm:m=.sh\/m=.bw) (ht:(σ t).e=.v (.fn2 A B R) m g) {C:CallO} (hx:dyn2 d A B R g (zar σ x) (zar σ x')=some C) {y:C.R} (hy:C.m=some y) {us:Ups} (hus:C.us y=some us) {Q:Exit->Act->World->Prop}:o.wp P a S.w (Inv P c (upd us σ)) Q:=by
  unfold dyn2 at hx;split at hx;case h_2=>cases hx
  rename_i z z' hz hh;split at hx;case isFalse=>cases hx
  rename_i hk;cases hx;simp only at hy;cases hus;obtain⟨hl,hf⟩:=zrp h (gs:=[]) hz (λr _=>rfl) (0,[]);obtain⟨hj,hb⟩:=zrp h (gs:=[]) hh (λr _=>rfl) (0,[]);have hg:∃ f caps,zab (.fn2 A B R) (tmv a t) 0=some (.func (.func f) #[] caps)/\zdn P f/\∀ (S':St) (x:A.den) (x2:B.den) (y:R.den),Fut m S S'->S'.WF->g x x2=some y->∀ v v',Rel P A S' .bw (0,[]) x (zab A v)->zgt A v->Rel P B S' .bw (0,[]) x2 (zab B v')->zgt B v' ->
        Calls P f (#[v,v']++caps) S'.w λe w''=>∃u,e=.returned u/\Rel P R {S' with w:=w''} .sh (0,[]) y (zab R u)/\zgt R u/\Ext S'.w w'':=by
    have:=(h.slot ht).1;rcases hm with rfl|rfl<;>exact this
  obtain⟨f,caps,h1,h2,h3⟩:=hg;have hv:a.eval (.tmp t)=.func (.func f) #[] caps:=by rw[zbf];simpa[zab,Ty.agg]using h1
  have ha:=h3 (S.callee []) z.x z'.x y ((calleeFut2 (S:=S)).sh m) h.calleeWF hy (a.eval x) (a.eval x') hf.1 hf.2 hb.1 hb.2;have hc:(execOp a.eval o).run P S.w=.ok (.enter f (#[a.eval x,a.eval x']++caps)) S.w:=by simp[execOp,ho,resolve,hv,Deferred.ofValue,invoke,h2 _ S.w]
  unfold Oper.wp;rw[hc,Oper.upon_enter];refine Calls.mono ha λe w' hR=>?_;obtain⟨u,rfl,hr,hi,he⟩:=hR;simp only;rw[hdst];refine⟨{S with w:=w'},rfl,?_⟩;refine InvOf.put (S':={S with w:=w'}) h he rfl rfl hd (λ_ _ _=>rfl) (λ_=>.inl rfl) (.v (zbs σ d _ 0) ?_);rw[zak (by rw[h.size];exact hd)];exact⟨Rel.flat hk hr,hi⟩
def callG_wp(h:InvOf P c σ a S){o:Oper}{d:Nat}{xs:List Operand}(hdst:o.dst=some d)(hd:d<c.N){sg:Sig}{den:Arr (zft sg.ps) (Option (Ret sg.res))}
  (hgo:∀(ys:zek (zft sg.ps)) (y:Ret sg.res),app _ den ys=some y->∀(S0:St),S0.WF->S0.w=S.w->(xs.map a.eval).length=(zkg sg.ps ys).length ->
   (∀(i:Nat) (e:TM),(zkg sg.ps ys)[i]?=some e->∃v,(xs.map a.eval)[i]?=some v/\SR P e.t S0 e.m (i,[]) e.x v) ->
   ∃f us,(execOp a.eval o).run P S.w=.ok (.enter f us) S.w/\Calls P f us S.w λe w'=>∃v S',e=.returned v/\S'.w=w'/\Frm S0 S'/\ResOK P S' (sg.resTM y) v /\
    ∀(k:Nat) (e:TM),(k,e)∈sg.outTM y->∃u,(xs.map a.eval)[k]?=some u/\SR P e.t S' e.m (k+1,[]) e.x u)
  {C:CallO} (hx:callG FT d sg den (xs.map λo=>(zar σ o,zix σ o))=some C) {y:C.R} (hy:C.m=some y) {us:Ups} (hus:C.us y=some us) {Q:Exit->Act->World->Prop}:o.wp P a S.w (Inv P c (upd us σ)) Q:=by
 unfold callG at hx;split at hx;case h_2=>cases hx
 rename_i ys gs lr hb;split at hx;case isFalse=>cases hx
 rename_i hc;simp only[xal,xfk,xbl,nobwS]at hc;obtain⟨⟨⟨hk,hu⟩,hw⟩,hl,hh⟩:=hc;cases hx;simp only[callE]at hy hus;simp only[xac]at hus;obtain⟨us0,hg,rfl⟩:=hus;obtain⟨ho,hs,hv⟩:=zul h hk hb hw (λe he=>he) (λk g hg _=>hg);obtain⟨f,us,hf,ha⟩:=hgo ys y hy (S.callee gs) h.calleeWF rfl (by simpa using ho) (λi e hi=>by obtain⟨o',h1,h2⟩:=hs i e hi;exact⟨a.eval o',by rw[xci,h1];rfl,by rw[xck]at h2;exact h2⟩)
 unfold Oper.wp;rw[hf,Oper.upon_enter];refine Calls.mono ha λe w' hR=>?_;obtain⟨v,S',rfl,rfl,ht,hj,hp⟩:=hR;simp only;rw[hdst];have hr:∀e∈sg.resTM y,e.m.nobw=true:=by
  have:∀(l:List (Ty×Md)) (x:zek (tys l)),(∀q∈l,q.2.nobw=true)->∀e∈tms l x,e.m.nobw=true:=by
   intro l;induction l with
   |nil=>intro x _ e he;cases he
   |cons q l ih=>
    intro x hq e he;rcases xar.1 he with h1|h1
    ·rw[h1];exact hq q (by simp)
    ·exact ih _ (λq hq'=>hq q (xan _ hq')) e h1
  exact this _ _ hl
 have hn:∀(k:Nat) (e:TM),(k,e)∈sg.outTM y->e.m.nobw=true:=by
  have:∀(l:List (Ty×PM)) (i:Nat) (x:zek (tys (zgc l))),(∀q∈zgc l,q.2.nobw=true)->∀e∈outTM i l x,e.2.m.nobw=true:=by
   intro l;induction l with
   |nil=>intro i x _ e he;cases he
   |cons q l ih=>
    obtain⟨t,pm⟩:=q;intro i x hq e he;cases pm with
    |io m=>
     rcases xar.1 he with h1|h1
     ·rw[h1];exact hq (t,m) (by simp[zgc])
     ·exact ih _ _ (λq hq'=>hq q (xan _ hq')) e h1
    |bw=>exact ih _ _ hq e he
    |sh=>exact ih _ _ hq e he
    |give m=>exact ih _ _ hq e he
  exact λk e he=>this _ _ _ hh (k,e) he
 refine⟨S.after S' gs (sg.resTM y).length d,rfl,?_⟩;exact h.called hk hu hd ht hj hr (vs:=xs.map a.eval) (λk e he=>⟨hn k e he,hp k e he⟩) (λk g hm=>by obtain⟨j,o',h1,h2,h3⟩:=hv k g hm;rw[xck]at h1;subst h1;exact⟨a.eval o',by rw[xci,h2];rfl,h3⟩) hg
def callU_wp(h:InvOf P c σ a S){o:Oper}{d f:Nat}{xs:Array Operand}{ts:Array TypeId}(ho:o.op=.call {callee:=.value (.func f),args:=xs,argTypes:=ts})(hdst:o.dst=some d)(hd:d<c.N)
  {C:CallO} (hx:callU FT d f (xs.toList.map λo=>(zar σ o,zix σ o))=some C) {y:C.R} (hy:C.m=some y) {us:Ups} (hus:C.us y=some us) {Q:Exit->Act->World->Prop}:o.wp P a S.w (Inv P c (upd us σ)) Q:=by
 unfold callU at hx;split at hx;case h_2=>cases hx
 rename_i E hE;have hf:=findF_f hE;subst hf;refine callG_wp h hdst hd (λys y hy S0 hwf hw hlen hrel=>⟨E.f,(xs.toList.map a.eval).toArray,?_,?_⟩) hx hy hus;·have hv:a.eval (.func E.f)=.func (.func E.f) #[] #[]:=rfl;simp[execOp,ho,resolve,hv,Deferred.ofValue,invoke,E.ok.1 _ S.w];exact xij (by simp)
 ·rw[<-hw];exact E.ok.2 ys y hy S0 hwf _ hlen hrel
def callM_wp(h:InvOf P c σ a S){o:Oper}{d:Nat}{nm:String}{r:Operand}{xs:Array Operand}{ts:Array TypeId}(ho:o.op=.call {callee:=.invoke r nm,args:=xs,argTypes:=ts})(hdst:o.dst=some d)(hd:d<c.N)
  {C:CallO} (hx:callM FT d nm ((r::xs.toList).map λo=>(zar σ o,zix σ o))=some C) {y:C.R} (hy:C.m=some y) {us:Ups} (hus:C.us y=some us) {Q:Exit->Act->World->Prop}:o.wp P a S.w (Inv P c (upd us σ)) Q:=by
 unfold callM at hx;split at hx;case h_2=>cases hx
 rename_i E hE;have hf:=findM_nm hE;subst hf;refine callG_wp h hdst hd (λys y hy S0 hwf hw hlen hrel=>?_) hx hy hus;obtain⟨f,us,h1,h2⟩:=E.ok ys y hy S0 hwf _ hlen hrel;refine⟨f,us,?_,by rw[<-hw];exact h2⟩;have h3:=h1 S.w;have h4:((r::xs.toList).map a.eval).toArray=#[a.eval r]++xs.map a.eval:=xij (by simp);rw[h4]at h3;simp only[execOp,ho,resolve];exact h3
def ahead_at{nm:String}{S:St}:∀{t:Ty} {x:t.den} {p:Place} {u:Value},AheadI P nm t->SR P t S .bw p x u->zir t x=false ->
  ∃tid v,u=.iface tid v/\∀w,(nilAhead (P.types.size+Made.depth) tid v nm).run P w=.ok (some false) w:=by
 intro t;induction t with
 |alt tid A B iha ihb=>
  intro x p u ha h hn;have hm:Md.bw≠ .dead:=by simp
  cases x with
  |inl y=>have h1:=h.1;rw[Rel.alt_inl hm]at h1;obtain⟨v,h2,_⟩:=h1;exact⟨tid,v,by simpa[zab,Ty.agg]using h2,ha.1 v⟩
  |inr z=>
   have h1:=h.1;rw[Rel.alt_inr hm]at h1;have hb:B.agg=false:=by have:=ha.2;cases B<;>first | rfl | exact this.elim
   refine ihb (p:=px p 1) ha.2 ⟨h1.2.mono (q:=true) (.inl rfl) ⟨λ_ h=>h,λ_ _=>rfl,λ_ _ h=>.inr h,λ_ _ _=>rfl,λ_=>rfl,λ_ _ h=>⟨h,rfl⟩⟩ λi _=>?_,λh=>by rw[hb]at h;cases h⟩ hn;unfold zab;rw[hb];rfl
 |nilI=>intro x p u ha h hn;simp[zir]at hn
 |_=>intro x p u ha;exact ha.elim
def sortI_mem{xs:List Int}{n:Int}:n∈zcf xs↔n∈xs:=by simp[zcf,List.mem_mergeSort]
def sortI_length(xs:List Int):(zcf xs).length=xs.length:=by simp[zcf,List.length_mergeSort]
def preO_wp(h:InvOf P c σ a S){o:Oper}{d:Nat}{xs:Array Operand}{x:Operand}{q:PreE P}{ts:Array TypeId}(ho:o.op=.call {callee:=.value (.func q.f),args:=xs,argTypes:=ts})(hx0:xs.toList=[x])(hdst:o.dst=some d)(hd:d<c.N)
  {C:CallO} (hx:preO d q (zar σ x)=some C) {y:C.R} (hy:C.m=some y) {us:Ups} (hus:C.us y=some us) {Q:Exit->Act->World->Prop}:o.wp P a S.w (Inv P c (upd us σ)) Q:=by
 have hk:xs=#[x]:=xij (by simpa using hx0);subst hk;have key:∀(M:Md),M=.sh\/M=.bw->∀z:List Int,(zar σ x).val (.slice (.int q.k))=some (M,z)->z.length<=4294967296->o.wp P a S.w (Inv P c (zdv σ d (.v (.slice (.int q.k)) M (z.take (q.g z))) 0)) Q:=λM hM z hz hlim=>by
  obtain⟨p,hr⟩:=h.val hz;obtain⟨h1,h2,h3⟩:=hr.1;have hl:∃a' len cap,zab (.slice (.int q.k)) (a.eval x) 0=some (.slice a' len cap)/\len=z.length/\len<=cap/\((z=[]/\cap=0)\/∃b o',a'=some ⟨b,o',none⟩/\(z≠ []->S.G M b)/\∀(i:Nat) (h:i<z.length),Rel P (.int q.k) S M (px p i) z[i] (blk S.w b (o'+i*Ty.size (.int q.k)))):=by rcases hM with rfl|rfl<;>exact h3
  obtain⟨A,len,cap,h4,rfl,h6,h7⟩:=hl;have hv:a.eval x=.slice A z.length cap:=by simpa[zab,Ty.agg]using h4
  have hb:∀(i:Nat) (h:i<z.length) (b o':Nat),Rel P (.int q.k) S M (px p i) z[i] (blk S.w b (o'+i*Ty.size (.int q.k)))->S.w.cell? ⟨b,o'+i,none⟩=some (.int q.k z[i])/\q.k.wrap z[i]=z[i]:=λi hi b o' hrel=>by
   have:blk S.w b (o'+i*Ty.size (.int q.k)) 0=some (.int q.k z[i])/\q.k.wrap z[i]=z[i]:=by rcases hM with rfl|rfl<;>exact hrel
   refine⟨?_,this.2⟩;simpa[blk,Ty.size]using this.1
  have hm:a.eval (.func q.f)=.func (.func q.f) #[] #[]:=rfl;have hh:(execOp a.eval o).run P S.w=.ok (.enter q.f #[a.eval x]) S.w:=by simp[execOp,ho,resolve,hm,Deferred.ofValue,invoke,q.ent _ S.w]
  unfold Oper.wp;rw[hh,Oper.upon_enter,hv];refine Calls.mono (q.spec S.w A cap z hlim h6 (λn hn=>?_) ?_) λe w' hR=>?_
  ·obtain⟨i,hi,rfl⟩:=xdi hn;rcases h7 with⟨rfl,_⟩|⟨b,o',_,_,h8⟩
   ·simp at hi
   ·exact(hb i hi b o' (h8 i hi)).2
  ·rcases h7 with h7|⟨b,o',rfl,_,h8⟩
   ·exact .inl h7
   ·exact .inr ⟨b,o',rfl,λi hi=>(hb i hi b o' (h8 i hi)).1⟩
  ·obtain⟨rfl,hg,hc⟩:=hR;have hf:(z.take (q.g z)).length=q.g z:=by rw[xax];omega
   rcases hc with⟨rfl,h0⟩|rfl
   ·simp only;rw[hdst];refine⟨S,rfl,h.putv hd ⟨⟨by omega,h2,?_⟩,λh=>by cases h⟩⟩;have:∃a' len cap,zab (.slice (.int q.k)) (.slice none 0 0) 0=some (.slice a' len cap)/\len=(z.take (q.g z)).length/\len<=cap/\((z.take (q.g z)=[]/\cap=0)\/∃b o',a'=some ⟨b,o',none⟩/\(z.take (q.g z)≠ []->S.G M b)/\∀(i:Nat) (h:i<(z.take (q.g z)).length),Rel P (.int q.k) S M (px (d,[]) i) (z.take (q.g z))[i] (blk S.w b (o'+i*Ty.size (.int q.k)))):=
     ⟨none,0,0,by simp[zab,Ty.agg],by omega,xag _,.inl ⟨by rw[h0];rfl,rfl⟩⟩
    rcases hM with rfl|rfl<;>exact this
   ·simp only;rw[hdst];refine⟨S,rfl,h.putv hd ⟨⟨by omega,h2,?_⟩,λh=>by cases h⟩⟩;have:∃a' len cap',zab (.slice (.int q.k)) (.slice A (q.g z) cap) 0=some (.slice a' len cap')/\len=(z.take (q.g z)).length/\len<=cap'/\((z.take (q.g z)=[]/\cap'=0)\/∃b o',a'=some ⟨b,o',none⟩/\(z.take (q.g z)≠ []->S.G M b)/\∀(i:Nat) (h:i<(z.take (q.g z)).length),Rel P (.int q.k) S M (px (d,[]) i) (z.take (q.g z))[i] (blk S.w b (o'+i*Ty.size (.int q.k)))):=by
     refine⟨A,q.g z,cap,by simp[zab,Ty.agg],hf.symm,by omega,?_⟩;rcases h7 with⟨h8,h9⟩|⟨b,o',hA,hG,h8⟩
     ·exact .inl ⟨by rw[h8];simp,h9⟩
     ·refine .inr ⟨b,o',hA,λhne=>hG (by rintro rfl;simp at hne),λi hi=>?_⟩;have hj:i<z.length:=by rw[hf]at hi;omega
      have he:(z.take (q.g z))[i]=z[i]:=xgj ..;rw[he];exact(h8 i hj).fut hM ((Fut2.refl S).sh _) λ_ _=>rfl
    rcases hM with rfl|rfl<;>exact this
 have ha:∀(z:List Int) (y:Unit),(bif decide ((z.length:Int)<=LIM)then some ()else none)=some y->z.length<=4294967296:=λz y hy=>by
  cases hq:decide ((z.length:Int)<=LIM)with
  |false=>rw[hq]at hy;cases hy
  |true=>
   have:=xbc hq;rw[zia]at this;omega
 unfold preO at hx;split at hx;·rename_i z hz;cases hx;cases hus;exact key .sh (.inl rfl) z hz (ha z y hy)
 ·rename_i z hz;cases hx;cases hus;exact key .bw (.inr rfl) z hz (ha z y hy)
 ·cases hx
def sqO_wp(h:InvOf P c σ a S){o:Oper}{d f:Nat}{xs:Array Operand}{ts:Array TypeId}(ho:o.op=.call {callee:=.value (.func f),args:=xs,argTypes:=ts})(hdst:o.dst=some d)(hd:d<c.N)
  {C:CallO} (hx:sqO FT d f xs.toList σ=some C) {y:C.R} (hy:C.m=some y) {us:Ups} (hus:C.us y=some us) {Q:Exit->Act->World->Prop}:o.wp P a S.w (Inv P c (upd us σ)) Q:=by
 unfold sqO at hx;split at hx;·rename_i q x hq ha;have:=findP_f hq;subst this;exact preO_wp h ho ha hdst hd hx hy hus
 ·cases hx
def call_wp(h:InvOf P c σ a S){o:Oper}(hN:within c.N o=true){C:CallO}(hx:zgs FT o σ=some C){y:C.R}(hy:C.m=some y){us:Ups}(hus:C.us y=some us){Q:Exit->Act->World->Prop}:o.wp P a S.w (Inv P c (upd us σ)) Q:=by
 unfold zgs at hx;split at hx
 ·rename_i f xs ts d ho ha;split at hx;·rename_i C' hs;cases hx;exact sqO_wp h ho ha (by unfold within at hN;rw[ha]at hN;simpa using hN) hs hy hus
  ·exact callU_wp h ho ha (by unfold within at hN;rw[ha]at hN;simpa using hN) hx hy hus
 ·rename_i t x ts d ho ha;have hd:d<c.N:=by unfold within at hN;rw[ha]at hN;simpa using hN
  split at hx;·rename_i A R g he;exact dyn_wp h ho ha hd (.inr rfl) he hx hy hus
  ·rename_i A R g he;exact dyn_wp h ho ha hd (.inl rfl) he hx hy hus
  ·cases hx
 ·rename_i t x y' ts d ho ha;have hd:d<c.N:=by unfold within at hN;rw[ha]at hN;simpa using hN
  split at hx;·rename_i A B R g he;exact dyn2_wp h ho ha hd (.inr rfl) he hx hy hus
  ·rename_i A B R g he;exact dyn2_wp h ho ha hd (.inl rfl) he hx hy hus
  ·cases hx
 ·rename_i r nm xs ts d ho ha;exact callM_wp h ho ha (by unfold within at hN;rw[ha]at hN;simpa using hN) hx hy hus
 ·rename_i t d ho ha;have hd:d<c.N:=by unfold within at hN;rw[ha]at hN;simpa using hN
  split at hx
  ·rename_i nm e he;split at hx;case h_2=>cases hx
   rename_i E hE;split at hx;case isFalse=>cases hx
   rename_i hh;cases hx;cases hus;simp only at hy;have hf:zir e.t e.x=false:=by
    cases hn:zir e.t e.x with
    |true=>rw[hn]at hy;cases hy
    |false=>rfl
   have hs:=h.slots t;unfold SlotOK at hs;rw[he]at hs;obtain⟨u,h1,h2⟩:=hs;have hg:=E.ahead;rw[findM_nm hE,hh]at hg;obtain⟨tid,v,h3,h4⟩:=ahead_at hg h2 hf;subst h3;have hb:(execOp a.eval o).run P S.w=.ok (.value (tmv a t)) S.w:=by simp only[execOp,ho,zbf];rw[h1];simp[h4 S.w]
   exact Does.wp ⟨S.w,.inl ⟨_,hb,S,rfl,by rw[ha];exact h.putE hd trivial⟩⟩
  ·rename_i r π s he;split at hx;case isFalse=>cases hx
   rename_i hp;cases hx;cases hus;obtain⟨p,hp⟩:=Option.isSome_iff_exists.1 hp;obtain⟨_,_,_,_,q,off,b,_,_,hv⟩:=h.place hp;rw[zbf]at hv;have hs:=h.slots t;unfold SlotOK at hs;rw[he]at hs;have hb:(execOp a.eval o).run P S.w=.ok (.value (tmv a t)) S.w:=by simp only[execOp,ho,zbf];rw[hv];rfl
   exact Does.wp ⟨S.w,.inl ⟨_,hb,S,rfl,by rw[ha];exact h.putref hd hs⟩⟩
  ·rename_i u x he;cases hx;cases hus;have hs:=h.slot he;obtain⟨b,off,hv,_⟩:=hs.1;have hc:tmv a t=.pointer (some ⟨b,off,none⟩):=by simpa[zab,Ty.agg]using hv
   have hb:(execOp a.eval o).run P S.w=.ok (.value (tmv a t)) S.w:=by simp only[execOp,ho,zbf];rw[hc];rfl
   exact Does.wp ⟨S.w,.inl ⟨_,hb,S,rfl,by rw[ha];exact h.putv hd ⟨hs.1.free rfl (.refl S) λ_ _=>rfl,hs.2⟩⟩⟩
  ·rename_i u x he;cases hx;cases hus;have hs:=h.slot he;obtain⟨b,off,hv,_⟩:=hs.1;have hc:tmv a t=.pointer (some ⟨b,off,none⟩):=by simpa[zab,Ty.agg]using hv
   have hb:(execOp a.eval o).run P S.w=.ok (.value (tmv a t)) S.w:=by simp only[execOp,ho,zbf];rw[hc];rfl
   exact Does.wp ⟨S.w,.inl ⟨_,hb,S,rfl,by rw[ha];exact h.putv hd ⟨hs.1.free rfl (.refl S) λ_ _=>rfl,hs.2⟩⟩⟩
  ·cases hx
 ·cases hx
def Ok.wp{an:An}{o:Oper}{us:Ups}(h:Inv P c σ a w)(hT:TabOK P T)(hN:within c.N o=true)(hok:Ok P T FT an o σ us){Q:Exit->Act->World->Prop}:o.wp P a w (Inv P c (upd us σ)) Q:=by
 obtain⟨ps,he,hok⟩:=hok;obtain⟨S,rfl,hf⟩:=zkr h he;rcases hok with⟨ob,us1,h1,h2,rfl⟩|⟨C,y,us1,h1,h2,h3,rfl⟩|⟨cc,x,y,m,bv,ob,us1,h1,h2,h3,h4,h5,rfl⟩
 ·rw[zmj];exact(step_does hf hT hN h1 h2).wp
 ·rw[zmj];exact call_wp hf hN h1 h2 h3
 ·rw[zmj];obtain⟨p,hb⟩:=hf.val h2;have hc:a.eval cc=.bool bv:=hb.bool_inv h3;obtain⟨w',hd⟩:=step_does (o:={o with op:=.move (bif bv then x else y)}) hf hT hN h4 h5;refine Does.wp ⟨w',?_⟩;have ha:(execOp a.eval {o with op:=.move (bif bv then x else y)}).run P S.w=(execOp a.eval o).run P S.w:=by simp only[execOp,h1,hc,Sem.run_bind,Sem.run_pure,asBool];cases bv<;>rfl
  rw[<-ha];exact hd
def wanted_ok{ops:Array Oper}{o:Oper}{b:Bool}(h:Inv P c σ a w)(hw:zcu ops o σ=some b):Region.wanted o (yielded ops a.tmps)=b:=by
 obtain⟨S,_,h⟩:=h;unfold zcu at hw;unfold Region.wanted;cases hg:o.guard with
 |none=>rw[hg]at hw;simpa using hw
 |some g=>
  obtain⟨j,want⟩:=g;rw[hg]at hw;simp only at hw ⊢;have hc:zhu ops o=(ops[j]?).bind (·.dst):=by unfold zhu;rw[hg];rfl
  rw[hc]at hw;unfold yielded;cases ht:(ops[j]?).bind (·.dst)with
  |none=>rw[ht]at hw;cases hw
  |some t=>
   rw[ht]at hw;simp only at hw;split at hw
   ·rename_i m v ha;split at hw;·cases hw
    rename_i hm;cases hw;have hv:=(h.slot ha).bool_inv hm;have hb:t<a.tmps.size:=by
     rcases xeo t a.tmps.size with h'|h'
     ·exact h'
     ·have:tmv a t=undef:=by unfold tmv;rw[xfe,xfz h'];rfl
      rw[this]at hv;cases hv
    have hq:a.tmps[t]?=some (.bool v):=by have:tmv a t=.bool v:=hv;unfold tmv at this;rw[xfe,xcf hb]at this;rw[xcf hb];exact xbr some this
    simp[hq]
   ·rename_i ha;cases hw;have hv:tmv a t=.tuple #[]:=by have:=h.slots t;unfold SlotOK at this;rw[ha]at this;exact this
    have hq:∀u,a.tmps[t]?=some u->u=.tuple #[]:=λu hu=>by
     have:tmv a t=u:=by unfold tmv;rw[xfe,hu];rfl
     rw[<-this];exact hv
    cases hu:a.tmps[t]? with
    |none=>simp[hu]
    |some u=>simp[hu,hq u hu]
   ·cases hw
def InvK(P:Program)(c:Ctx)(σ:Env)(a:Act)(w:World):Prop:=Inv P c σ a w/\∀t v,c.K t=some v->tmv a t=v
def wp_keep{o:Oper}{K:Act->World->Prop}{Q:Exit->Act->World->Prop}(h:o.wp P a w K Q):o.wp P a w (λa' w'=>K a' w'/\∀t,o.dst≠some t->tmv a' t=tmv a t) Q:=by
 have ha:∀(b:Act) (v:Value),b.tmps=a.tmps->∀t,o.dst≠some t->tmv (b.put o.dst v) t=tmv a t:=λb v hb t ht=>by
  cases hd:o.dst with
  |none=>show tmv b t=_;unfold tmv;rw[hb]
  |some d=>rw[zbn (λe=>ht (by rw[hd,e]))];unfold tmv;rw[hb]
 unfold Oper.wp at *;generalize(execOp a.eval o).run P w=r at *;cases r with
 |ok n w'=>
  cases n<;>simp only[Oper.upon]at h⊢ <;>
   first
    |exact⟨h,ha _ _ rfl⟩
    |exact Calls.mono h (λe w'' he=>by cases e<;>first | exact⟨he,ha _ _ rfl⟩ | exact he)
    |exact Rows.mono h (λ_ _ he=>⟨he,ha _ _ rfl⟩)
 |halt x w'=>cases x<;>simp only[Oper.upon]at h⊢ <;>exact h
def kept(c:Ctx)(o:Oper):Prop:=∀d,o.dst=some d->c.K d=none
def GOk.wpOp{an:An}{ops:Array Oper}{i:Nat}{o:Oper}(ho:ops[i]?=some o){us:Ups}(h:InvK P c σ a w)(hT:TabOK P T)(hN:within c.N o=true)(hkp:kept c o)(hok:GOk P T FT an ops o σ us){Q:Exit->Act->World->Prop}{K:Act->World->Prop}
  (hK:∀a w,InvK P c (upd us σ) a w->K a w):wpOp P ops Q i K a w:=by
 have hb:∀t v,c.K t=some v->o.dst≠some t:=λt v ht hd=>by rw[hkp t hd]at ht;cases ht
 unfold Go.wpOp;rw[ho];simp only;obtain⟨h,hk⟩:=h;rcases hok with⟨h1,h2⟩|⟨h1,h2⟩
 ·rw[wanted_ok h h1];exact .inl (Oper.wp_mono (λa' w' h'=>hK a' w' ⟨h'.1,λt v ht=>(h'.2 t (hb t v ht)).trans (hk t v ht)⟩) (wp_keep (h2.wp h hT hN)))
 ·rw[wanted_ok h h1];refine hK _ _ ⟨?_,?_⟩
  ·obtain⟨S,hS,h⟩:=h;subst h2;cases hd:o.dst with
   |none=>exact⟨S,hS,h⟩
   |some d=>
    have ha:d<c.N:=by unfold within at hN;rw[hd]at hN;simpa using hN
    refine⟨S,hS,h.put (.refl _) rfl rfl ha (λ_ _ _=>rfl) (λ_=>.inl rfl) ?_⟩;unfold SlotOK;rw[zbs];exact zak (by rw[h.size];exact ha)
  ·intro t v ht;cases hd:o.dst with
   |none=>exact hk t v ht
   |some d=>exact(zbn (λe=>hb t v ht (by rw[hd,e]))).trans (hk t v ht)
end
def updAt:Ups->Nat->Slot->Slot
 | [],_,p=>p
 |(t,e,k)::r,u,p=>updAt r u (if u=t then bump k p e else p)
def zjb:∀(us:Ups) (σ:Env) (u:Nat),upd us σ u=updAt us u (σ u)
 | [],_,_=>rfl
 |(t,e,k)::r,σ,u=>by
  show upd r (zdv σ t e k) u=_;rw[zjb r];simp only[updAt];by_cases h:u=t;·subst h;rw[zah,if_pos rfl]
  ·rw[zao σ e k h,if_neg h]
def zru:∀(us:Ups) (u:Nat) (p:Slot),u∉us.map (·.1)->updAt us u p=p
 | [],_,_,_=>rfl
 |(t,e,k)::r,u,p,h=>by simp only[xdo,xar,not_or]at h;unfold updAt;rw[if_neg h.1];exact zru r u p h.2
section
variable {P:Program} {T:Tab} {FT:List (TgE P)} {σ σ':Env}
def zjp{path:Nat->Option (List Nat)}{l l':Operand->Opd}{u:Ty}:∀(ps:List (Nat×Operand)) (m:Md) (x:u.den),(∀p∈ps,l p.2=l' p.2)->ztf path l u ps m x=ztf path l' u ps m x
 | [],_,_,_=>rfl
 |(i,o)::ps,m,x,h=>by unfold ztf;rw[h (i,o) xcz];have ih:=λm x=>zjp (path:=path) (u:=u) ps m x λp hp=>h p (xan _ hp);simp only[ih]
def zns{path:Nat->Option (List Nat)}{l l':Operand->Opd}{d:Nat}{u:Ty}:∀(ps:List (Nat×Operand)) (used:List Nat) (m:Md) (x:u.den),(∀p∈ps,l p.2=l' p.2)->zjg path l d u ps used m x=zjg path l' d u ps used m x
 | [],_,_,_,_=>rfl
 |(i,o)::ps,used,m,x,h=>by unfold zjg;rw[h (i,o) xcz];have ih:=λused m x=>zns (path:=path) (d:=d) (u:=u) ps used m x λp hp=>h p (xan _ hp);simp only[ih]
def zrx{α:Type}{f g:α->Bool}:∀{ps:List α},(∀p∈ps,f p=g p)->ps.takeWhile f=ps.takeWhile g/\ps.dropWhile f=ps.dropWhile g
 | [],_=>⟨rfl,rfl⟩
 |p::ps,h=>by have h1:=h p xcz;have ih:=zrx (f:=f) (g:=g) (ps:=ps) λq hq=>h q (xan _ hq);simp only[xfg,List.dropWhile_cons,h1,ih.1,ih.2];exact⟨trivial,trivial⟩
def buildN_congr{fl d t:Nat}{ps:List (Nat×Operand)}{l l':Operand->Opd}(h:∀p∈ps,l p.2=l' p.2):zxb T fl d t ps l=zxb T fl d t ps l':=by
 obtain⟨h1,h2⟩:=zrx (f:=λp=>!ownOp (l p.2)) (g:=λp=>!ownOp (l' p.2)) (ps:=ps) λp hp=>by rw[h p hp]
 have h3:∀p∈ps.takeWhile λp=>!ownOp (l' p.2),l p.2=l' p.2:=λp hp=>h p ((List.takeWhile_prefix _).subset hp);have h4:∀p∈ps.dropWhile λp=>!ownOp (l' p.2),l p.2=l' p.2:=λp hp=>h p ((List.dropWhile_suffix _).subset hp);unfold zxb;simp only[h1,h2,zjp _ _ _ h3,zns _ _ _ _ h4]
def zuh{l l':Operand->Opd}:∀(xs:List Operand),(∀x∈xs,l x=l' x)->capsE l xs=capsE l' xs
 | [],_=>rfl
 |x::xs,h=>by unfold capsE;rw[h x xcz,zuh xs λy hy=>h y (xan _ hy)]
def step1_congr{o:Oper}{l l':Operand->Opd}(h:∀x∈o.op.operands,l x=l' x):zfj T o l=zfj T o l':=by
 obtain⟨dst,op,type,pos,after,guard⟩:=o;simp only at h;unfold zfj;simp only;split;case h_10 x t=>rw[h x (by simp[Op.operands,Call.operands])]
 case h_11 x y ts=>rw[h x (by simp[Op.operands,Call.operands]),h y (by simp[Op.operands,Call.operands])]
 case h_12 x y ts=>rw[h x (by simp[Op.operands,Call.operands]),h y (by simp[Op.operands,Call.operands])]
 all_goals (simp only[Op.operands]at h;simp_all)
def zve{fl:Nat}{o:Oper}{l l':Operand->Opd}(h:∀x∈o.op.operands,l x=l' x):zlm T fl o l=zlm T fl o l':=by
 have hc:=step1_congr (T:=T) h;obtain⟨dst,op,type,pos,after,guard⟩:=o;simp only at h;unfold zlm;simp only;cases dst with
 |none=>
  simp only;split;·rename_i t x y;rw[h x (by simp[Op.operands]),h y (by simp[Op.operands])]
  ·rename_i x t;rw[h x (by simp[Op.operands,Call.operands])]
  ·rfl
 |some d=>
  simp only;split;·rw[h _ (by simp[Op.operands])]
  ·rw[h _ (by simp[Op.operands]),hc]
  ·rw[h _ (by simp[Op.operands]),hc]
  ·rw[h _ (by simp[Op.operands]),hc]
  ·rfl
  ·rw[h _ (by simp[Op.operands])]
  ·rename_i x y t u;rw[h x (by simp[Op.operands,Call.operands]),h y (by simp[Op.operands,Call.operands])]
  ·rename_i t x y;rw[h x (by simp[Op.operands]),h y (by simp[Op.operands])]
  ·rename_i t n ps;have h':∀p∈ps.toList,l p.2=l' p.2:=λp hp=>h p.2 (by simp[Op.operands];exact⟨p.1,by simpa using hp⟩);unfold litU;simp only[zjp ps.toList _ _ h']
  ·rename_i t ps;have h':∀p∈ps.toList,l p.2=l' p.2:=λp hp=>h p.2 (by simp[Op.operands];exact⟨p.1,by simpa using hp⟩);unfold buildE;simp only[buildN_congr h',zjp ps.toList _ _ h']
  ·rename_i t x lo hi;have h1:lo.map l=lo.map l':=by cases lo with
    |none=>rfl
    |some y=>simp only[xch];rw[h y (by simp[Op.operands])]
   have h2:hi.map l=hi.map l':=by cases hi with
    |none=>rfl
    |some y=>simp only[xch];rw[h y (by simp[Op.operands])]
   rw[h x (by simp[Op.operands]),h1,h2]
  ·rw[h _ (by simp[Op.operands])]
  ·rename_i f xs;rw[zuh xs λx hx=>h x (by simp[Op.operands];exact hx)]
  ·rename_i nm x;rw[h x (by simp[Op.operands])]
  ·rw[h _ (by simp[Op.operands])]
  ·rename_i bo t x u;rw[h x (by simp[Op.operands])]
  ·rename_i s t x;rw[h x (by simp[Op.operands]),hc]
  ·rw[hc]
def zlr{x:Operand}(h:∀t,x=.tmp t->σ' t=σ t/\∀r∈zsj (σ t).e,σ' r=σ r):zar σ' x=zar σ x:=by
 cases x with
 |tmp t=>
  obtain⟨h1,h2⟩:=h t rfl;have h3:zdj σ' (σ t).e=zdj σ (σ t).e:=by cases hx:(σ t).e<;>rw[hx]at h2<;>first | rfl | (simp only[zdj];exact h2 _ (by simp[zsj]))
  simp only[zar,h1,h3]
 |_=>rfl
def zhx:∀{cs:List Cap},(∀r∈zda cs,σ' r=σ r)->zol σ' cs=zol σ cs
 | [],_=>rfl
 | .ref r π s::cs,h=>by have h1:=h r (by simp[zda]);have h2:=zhx (cs:=cs) λq hq=>h q (by simp[zda,hq]);unfold zol;rw[h2];simp only[capTM,h1]
 | .rb r π s::cs,h=>by have h1:=h r (by simp[zda]);have h2:=zhx (cs:=cs) λq hq=>h q (by simp[zda,hq]);unfold zol;rw[h2];simp only[capTM,h1]
 | .val e::cs,h=>by have h2:=zhx (cs:=cs) λq hq=>h q (by simpa[zda]using hq);unfold zol;rw[h2];rfl
def cloOf_congr{x:Operand}(h:∀t,x=.tmp t->σ' t=σ t/\∀r∈zsj (σ t).e,σ' r=σ r):zix σ' x=zix σ x:=by
 cases x with
 |tmp t=>
  obtain⟨h1,h2⟩:=h t rfl;simp only[zix,h1];cases hx:(σ t).e<;>rw[hx]at h2<;>first | rfl | skip
  simp only;rw[zhx h2]
 |_=>rfl
def callO_congr{o:Oper}(h:∀x∈o.op.operands,zar σ' x=zar σ x/\zix σ' x=zix σ x/\∀t,x=.tmp t->σ' t=σ t):zgs FT o σ'=zgs FT o σ:=by
 obtain⟨dst,op,type,pos,after,guard⟩:=o;simp only at h;unfold zgs;simp only;split
 ·rename_i f xs ts d;have:xs.toList.map (λo=>(zar σ' o,zix σ' o))=xs.toList.map (λo=>(zar σ o,zix σ o)):=xfx λx hx=>by obtain⟨h1,h2,_⟩:=h x (by simp only[Op.operands,Call.operands,Array.mem_append];exact .inr (by simpa using hx));rw[h1,h2]
  have hb:sqO FT d f xs.toList σ'=sqO FT d f xs.toList σ:=by
   unfold sqO;split
   ·rename_i q x _ ha;have hm:x∈xs:=by
     have:x∈xs.toList:=by rw[ha];exact xba.2 rfl
     simpa using this
    obtain⟨h1,_,h3⟩:=h x (by simp only[Op.operands,Call.operands,Array.mem_append];exact .inr (by simpa using hm));rw[h1]
   ·rfl
  rw[this,hb]
 ·rename_i t x ts d;obtain⟨_,_,h3⟩:=h (.tmp t) (by simp[Op.operands,Call.operands]);obtain⟨h1,_,_⟩:=h x (by simp[Op.operands,Call.operands]);rw[h3 t rfl,h1]
 ·rename_i t x y ts d;obtain⟨_,_,h3⟩:=h (.tmp t) (by simp[Op.operands,Call.operands]);obtain⟨h1,_,_⟩:=h x (by simp[Op.operands,Call.operands]);obtain⟨hc,_,_⟩:=h y (by simp[Op.operands,Call.operands]);rw[h3 t rfl,h1,hc]
 ·rename_i r nm xs ts d;have:(r::xs.toList).map (λo=>(zar σ' o,zix σ' o))=(r::xs.toList).map (λo=>(zar σ o,zix σ o)):=xfx λx hx=>by
   obtain⟨h1,h2,_⟩:=h x (by
    simp only[Op.operands,Call.operands,Array.mem_append];rcases xar.1 hx with rfl|hx
    ·exact .inl (by simp)
    ·exact .inr (by simpa using hx))
   rw[h1,h2]
  rw[this]
 ·rename_i t d;obtain⟨h1,_,h3⟩:=h (.tmp t) (by simp[Op.operands]);rw[h3 t rfl,h1]
 ·rfl
def zvm:∀{fs:List (Nat×List Nat)} {σ σ':Env},(∀r∈fs.map (·.1),σ' r=σ r)->zyd fs σ'=zyd fs σ
 | [],_,_,_=>rfl
 |(r,π)::fs,σ,σ',h=>by
  have h1:=h r (by simp);unfold zyd;rw[h1];cases hf:frz1 (σ r).e π with
  |none=>rfl
  |some e=>
   simp only;rw[zvm (fs:=fs) (σ:=zdv σ r e 2) (σ':=zdv σ' r e 2) λq hq=>by
    by_cases hqr:q=r;·subst hqr;rw[zah,zah,h1]
    ·rw[zao _ _ _ hqr,zao _ _ _ hqr];exact h q (by simp at hq ⊢;exact .inr hq)]
def frz1_root{e e':Ent}{π:List Nat}(h:frz1 e π=some e'):zsj e'=[]:=by
 unfold frz1 at h;split at h;case h_2=>cases h
 split at h;case h_2=>cases h
 split at h;case isFalse=>cases h
 cases h;rfl
def zvl:∀{fs:List (Nat×List Nat)} {σ:Env} {ps:Ups},zyd fs σ=some ps->∀u∈ps,zsj u.2.1=[]
 | [],_,_,h=>by cases h;intro u hu;cases hu
 |(r,π)::fs,σ,ps,h=>by
  simp only[zyd]at h;split at h;case h_2=>cases h
  rename_i e he;simp only[xac]at h;obtain⟨us,h1,rfl⟩:=h;intro u hu;rcases xar.1 hu with h2|h2
  ·rw[h2];exact frz1_root he
  ·exact zvl h1 u h2
def zor:∀{ps:Ups} (t:Nat) (p:Slot),(∀u∈ps,zsj u.2.1=[])->updAt ps t p=p\/zsj (updAt ps t p).e=[]
 | [],_,_,_=>.inl rfl
 |(r,e,k)::ps,t,p,h=>by
  simp only[updAt];by_cases ht:t=r
  ·rw[if_pos ht];rcases zor t (bump k p e) λu hu=>h u (xan _ hu)with h1|h1
   ·exact .inr (by rw[h1,zom];exact h (r,e,k) xcz)
   ·exact .inr h1
  ·rw[if_neg ht];exact zor t p λu hu=>h u (xan _ hu)
def zxx{an:An}{ops:Array Oper}{o:Oper}{us:Ups}{x:Operand}{t:Nat}(hn:zgz an o σ us=none)(hx:x∈o.op.operands)(ht:x=.tmp t):t∈zje an ops o σ us/\∀r∈zsj (σ t).e,r∈zje an ops o σ us:=by
 subst ht;have h:∀r∈t::zsj (σ t).e,r∈zje an ops o σ us:=λr hr=>by unfold zje;rw[hn];exact xdq _ (List.mem_flatMap.2 ⟨.tmp t,by simpa using hx,hr⟩)
 exact⟨h t xcz,λr hr=>h r (xan _ hr)⟩
def GOk.frameN{an:An}{ops:Array Oper}{o:Oper}{us:Ups}(hn:zgz an o σ us=none)(hok:GOk P T FT an ops o σ us)(h:∀t∈zje an ops o σ us,σ' t=σ t):GOk P T FT an ops o σ' us:=by
 have hc:zyd an.frz σ'=zyd an.frz σ:=zvm λr hr=>h r (by unfold zje;simp only[xbp];exact .inr (.inr hr));have hw:zcu ops o σ'=zcu ops o σ:=by
  unfold zcu;cases hg:zhu ops o with
  |none=>rfl
  |some t=>
   have:=h t (by unfold zje;rw[hg];simp);simp only[this]
 unfold GOk at hok ⊢;rw[hw];refine hok.imp (λ⟨h1,h2⟩=>⟨h1,?_⟩) id;obtain⟨ps,h3,h4⟩:=h2;have ha:=zvl h3;have hb:∀x∈o.op.operands,∀t,x=.tmp t->upd ps σ' t=upd ps σ t/\∀r∈zsj (upd ps σ t).e,upd ps σ' r=upd ps σ r:=λx hx t ht=>by
  obtain⟨h5,h6⟩:=zxx (an:=an) (ops:=ops) (σ:=σ) hn hx ht;refine⟨by rw[zjb,zjb,h t h5],λr hr=>?_⟩;rw[zjb]at hr;rcases zor (ps:=ps) t (σ t) ha with h7|h7
  ·rw[h7]at hr;rw[zjb,zjb,h r (h6 r hr)]
  ·rw[h7]at hr;cases hr
 refine⟨ps,by rw[hc];exact h3,?_⟩;refine h4.imp (λ⟨ob,us1,h5,h6,h7⟩=>⟨ob,us1,?_,h6,h7⟩) λh4=>h4.imp (λ⟨C,y,us1,h5,h6,h7,h8⟩=>⟨C,y,us1,?_,h6,h7,h8⟩) λ⟨cc,x,y,m,bv,ob,us1,h5,h6,h7,h8,h9,h10⟩=>⟨cc,x,y,m,bv,ob,us1,h5,?_,h7,?_,h9,h10⟩;·rw[zve λx hx=>zlr (hb x hx)];exact h5
 ·rw[callO_congr λx hx=>⟨zlr (hb x hx),cloOf_congr (hb x hx),λt ht=>(hb x hx t ht).1⟩];exact h5
 ·rw[zlr (hb cc (by rw[h5];simp[Op.operands]))];exact h6
 ·rw[zve (o:={o with op:=.move (bif bv then x else y)}) (l:=zar (upd ps σ')) (l':=zar (upd ps σ)) λz hz=>zlr (hb z (by
   rw[h5];have hd:z=(bif bv then x else y):=by simpa[Op.operands]using hz
   rw[hd];cases bv<;>simp[Op.operands]))]
  exact h8
def zky:∀(π:List Nat) (t:Ty) (x x':t.den),(zcc π t x).map TV.t=(zcc π t x').map TV.t
 | [],t,x,x'=>rfl
 |i::π,.pair a b,x,x'=>by
  match i with
  | 0=>exact zky π a _ _
  | 1=>exact zky π b _ _
  |_+2=>rfl
 |i::π,.arr _ t,x,x'=>zky π t _ _
 |i::π,.slice t,x,x'=>zky π t _ _
 |i::π,.ptr t,x,x'=>by
  match i with
  | 0=>exact zky π t _ _
  |_+1=>rfl
 |i::π,.int _,_,_=>rfl
 |i::π,.bool,_,_=>rfl
 |i::π,.str,_,_=>rfl
 |i::π,.unit,_,_=>rfl
 |i::π,.fn1 _ _,_,_=>rfl
 |i::π,.fn2 _ _ _,_,_=>rfl
 |i::π,.alt _ _ _,_,_=>rfl
 |i::π,.nilI,_,_=>rfl
def WkEq(κ:Option (List Nat))(ty:Ty)(p q:Slot):Prop:=match κ with
 |none=>(∃e m x,q.e=.v ty (.own e m) x)/\q.g=p.g
 |some π=>(∃M x e k,q.e=.v ty M x/\zbr π ty M=some (.own e k))/\q.g=p.g/\q.h=p.h
def wk1_some{π':List Nat}{t r:Nat}{ty:Ty}(h:wk1 σ π' t=some (r,ty)):∃π s e m x,(σ t).e=.ref r π s/\(σ r).e=.v ty (.own e m) x/\zjr π ty=false/\zjr π' ty=false:=by
 unfold wk1 at h;split at h;case h_2=>cases h
 rename_i r0 π s he;split at h;case h_2=>cases h
 rename_i ty0 e0 m x hr;split at h;·cases h
 rename_i h1;split at h;·cases h
 rename_i h2;cases h;exact⟨π,s,e0,m,x,he,hr,by simpa using h1,by simpa using h2⟩
def wkA_some{an:An}{o:Oper}{us:Ups}{r:Nat}{ty:Ty}(h:wkA an o σ us=some (r,ty)):an.frz=[]/\∃d r' π' s' t,us=[(d,.ref r' π' s',0)]/\((((o.op=.nilCheck (.tmp t)\/∃s f,o.op=.fieldAddr s (.tmp t) f/\an.fl=0)/\wk1 σ π' t=some (r,ty))\/(o.op=.move (.tmp t)/\an.fl=0/\wkMv σ t=some (r,ty)))\/((∃s f,o.op=.fieldAddr s (.tmp t) f/\an.fl=0)/\wkFp σ π' t=some (r,ty))):=by
 unfold wkA at h;split at h;case h_2=>cases h
 rename_i d r' π' s' hf;split at h;·rename_i t ho;exact⟨hf,d,r',π',s',t,rfl,.inl (.inl ⟨.inl ho,h⟩)⟩
 ·rename_i s t f ho;split at h;case isFalse=>cases h
  rename_i ha;split at h;·rename_i q hq;cases h;exact⟨hf,d,r',π',s',t,rfl,.inl (.inl ⟨.inr ⟨s,f,ho,ha⟩,hq⟩)⟩
  ·exact⟨hf,d,r',π',s',t,rfl,.inr ⟨⟨s,f,ho,ha⟩,h⟩⟩
 ·rename_i t ho;split at h;·rename_i ha;exact⟨hf,d,r',π',s',t,rfl,.inl (.inr ⟨ho,ha,h⟩)⟩
  ·cases h
 ·cases h
def GOk.frame_step{an:An}{ops:Array Oper}{o:Oper}{d:Nat}{e:Ent}(he:e≠ .skip)(hfz:an.frz=[])(hwt:zcu ops o σ'=zcu ops o σ)(hok:GOk P T FT an ops o σ [(d,e,0)])
  (hst:∀ob us1,zlm T an.fl o (zar σ)=some (ob,us1)->us1=[(d,e,0)]->zlm T an.fl o (zar σ')=some (ob,us1)) (hnc:∀C,zgs FT o σ≠some C) (hnp:∀cc x y,o.op≠ .pick cc x y):GOk P T FT an ops o σ' [(d,e,0)]:=by
 unfold GOk at hok ⊢;rw[hwt];rcases hok with⟨h1,ps,h2,h3⟩|⟨h1,h2⟩
 ·left;refine⟨h1,?_⟩;rw[hfz]at h2;have ha:ps=[]:=by have:zyd [] σ=some []:=rfl;rw[this]at h2;cases h2;rfl
  subst ha;refine⟨[],by rw[hfz];rfl,?_⟩;simp only[xdp]at h3 ⊢;change (∃ob us1,zlm T an.fl o (zar σ)=some (ob,us1)/\ob=true/\_=us1)\/(∃C y us1,zgs FT o σ=some C/\C.m=some y/\C.us y=some us1/\_=us1)\/_ at h3;change (∃ob us1,zlm T an.fl o (zar σ')=some (ob,us1)/\ob=true/\_=us1)\/(∃C y us1,zgs FT o σ'=some C/\C.m=some y/\C.us y=some us1/\_=us1)\/_;rcases h3 with⟨ob,us1,h4,h5,h6⟩|⟨C,y,us1,h4,_⟩|⟨cc,x1,y1,_,_,_,_,h4,_⟩
  ·exact .inl ⟨ob,us1,hst ob us1 h4 h6.symm,h5,h6⟩
  ·exact absurd h4 (hnc C)
  ·exact absurd h4 (hnp _ _ _)
 ·exfalso;split at h2;·simp only[xio,xaw,and_true]at h2;exact he h2.2
  ·cases h2
def GOk.frameF{an:An}{ops:Array Oper}{o:Oper}{d r' s' t:Nat}{π':List Nat}{r:Nat}{ty:Ty}(hfz:an.frz=[])(hwt:zcu ops o σ'=zcu ops o σ)(hop:∃s f,o.op=.fieldAddr s (.tmp t) f/\an.fl=0)(hwk:wkFp σ π' t=some (r,ty))(hok:GOk P T FT an ops o σ [(d,.ref r' π' s',0)])(hr:WkEq none ty (σ r) (σ' r)):GOk P T FT an ops o σ' [(d,.ref r' π' s',0)]:=by
 obtain⟨ts,f,hop,hq⟩:=hop;obtain⟨⟨e',k',x',hi⟩,hg⟩:=hr;unfold wkFp at hwk;split at hwk;case h_2=>cases hwk
 rename_i u e0 k0 x0 hj;split at hwk;·cases hwk
 rename_i hd;cases hwk;have hd:zjr π' (.ptr u)=false:=by simpa using hd
 have hs:(zar σ (.tmp t)).place=some ⟨t,σ t,.ptr u,.own e0 k0,x0,[0]⟩:=by show(Opd.slot t (σ t) (zdj σ (σ t).e)).place=_;unfold Opd.place;simp only[hj]
 have hh:(zar σ' (.tmp t)).place=some ⟨t,σ' t,.ptr u,.own e' k',x',[0]⟩:=by show(Opd.slot t (σ' t) (zdj σ' (σ' t).e)).place=_;unfold Opd.place;simp only[hi]
 have ha:∀e,zld T ts f (zar σ (.tmp t))=some e->(∃r1 s1,e=.ref r1 π' s1)->zld T ts f (zar σ' (.tmp t))=some e:=λe ha hb=>by
  unfold zld at ha ⊢;split at ha;case h_2=>cases ha
  rename_i i ts0 hl;split at ha;case h_2=>cases ha
  rename_i offs hk;split at ha;case h_2=>cases ha
  rename_i o1 sz ρ h7 h8;split at ha;·cases ha
  rename_i hm;rw[hs]at ha;rw[hh];simp only[hl,hk,h7,h8,hm,xcg]at ha ⊢;have hc:=zky [0] (.ptr u) x0 x';split at ha;case h_2=>cases ha
  rename_i y0 ho;split at ha;case isFalse=>cases ha
  rename_i hn;rw[ho]at hc;cases hy1:zcc [0] (.ptr u) x' with
  |none=>rw[hy1]at hc;cases hc
  |some y1=>
   rw[hy1]at hc;have he:y1.t=ts0:=by have:=xbi hc;rw[<-this];exact hn
   simp only[he,if_true];rw[<-ha];obtain⟨r1,s1,hb⟩:=hb;rw[hb]at ha;have hπ:[0]++ρ=π':=by have:=xbi ha;injection this
   unfold zke;rw[hπ,hd,hg];rfl
 refine GOk.frame_step (by simp) hfz hwt hok (λob us1 h4 h5=>?_) (λC hC=>?_) (λcc x1 y1 hp=>by rw[hop]at hp;cases hp)
 ·unfold zlm at h4 ⊢;rw[hop]at h4 ⊢;cases hdst:o.dst with
  |none=>rw[hdst]at h4;simp at h4
  |some d1=>
   rw[hdst]at h4;simp only[hq,one,zfj,hop]at h4 ⊢;simp only[show ¬(0:Nat)=12 by decide,xcg]at h4 ⊢;cases hf:zld T ts f (zar σ (.tmp t))with
   |none=>rw[hf]at h4;simp at h4
   |some e=>
    have hb:∃r1 s1,e=.ref r1 π' s1:=by
     rw[hf]at h4;simp only[xch,xaq,xaw]at h4;rw[<-h4.2]at h5;injection h5 with h5
     injection h5 with h5 h6
     injection h6 with h6 h7
     exact⟨_,_,h6⟩
    rw[ha e hf hb,<-hf];exact h4
 ·unfold zgs at hC;rw[hop]at hC;cases hdst:o.dst<;>rw[hdst]at hC<;>simp at hC
def GOk.frameW{an:An}{ops:Array Oper}{o:Oper}{us:Ups}{r:Nat}{ty:Ty}(hwA:wkA an o σ us=some (r,ty))(hok:GOk P T FT an ops o σ us)(h:∀t∈zje an ops o σ us,σ' t=σ t)(hr:WkEq none ty (σ r) (σ' r)):GOk P T FT an ops o σ' us:=by
 have hw:zgz an o σ us=some (r,ty,none):=by unfold zgz;rw[hwA]
 obtain⟨hh,d,r',π',s',t,rfl,hb⟩:=wkA_some hwA;obtain⟨⟨e',k',x',hc⟩,hg⟩:=hr;have hn:zcu ops o σ'=zcu ops o σ:=by
  unfold zcu;cases hg:zhu ops o with
  |none=>rfl
  |some t=>
   have:=h t (by unfold zje;rw[hg];simp);simp only[this]
 rcases hb with hb|⟨hop,hwk⟩
 rotate_left;·exact GOk.frameF hh hn hop hwk hok ⟨⟨e',k',x',hc⟩,hg⟩
 rcases hb with⟨hop,hwk⟩|⟨hop,hfl,hwk⟩
 rotate_left
 ·
  unfold wkMv at hwk;split at hwk;case h_2=>cases hwk
  rename_i u e0 k0 x0 hd;cases hwk;unfold GOk at hok ⊢;rw[hn];rcases hok with⟨h1,ps,h2,h3⟩|⟨h1,h2⟩
  ·left;refine⟨h1,?_⟩;rw[hh]at h2;have hs:ps=[]:=by have:zyd [] σ=some []:=rfl;rw[this]at h2;cases h2;rfl
   subst hs;refine⟨[],by rw[hh];rfl,?_⟩;simp only[xdp]at h3 ⊢;change (∃ob us1,zlm T an.fl o (zar σ)=some (ob,us1)/\ob=true/\_=us1)\/(∃C y us1,zgs FT o σ=some C/\C.m=some y/\C.us y=some us1/\_=us1)\/_ at h3;change (∃ob us1,zlm T an.fl o (zar σ')=some (ob,us1)/\ob=true/\_=us1)\/(∃C y us1,zgs FT o σ'=some C/\C.m=some y/\C.us y=some us1/\_=us1)\/_;rcases h3 with⟨ob,us1,h4,h5,h6⟩|⟨C,y,us1,h4,_⟩|⟨cc,x1,y1,_,_,_,_,h4,_⟩
   ·left;refine⟨ob,us1,?_,h5,h6⟩;have hm:zjh T o.type (zar σ' (.tmp r))=zjh T o.type (zar σ (.tmp r)):=by show zjh T o.type (.slot r (σ' r) (zdj σ' (σ' r).e))=zjh T o.type (.slot r (σ r) (zdj σ (σ r).e));unfold zjh;simp only[hd,hc,Md.noown,xbb,xcg,hg]
    unfold zlm at h4 ⊢;rw[hop]at h4 ⊢;cases hdst:o.dst with
    |none=>rw[hdst]at h4;simp at h4
    |some d1=>rw[hdst]at h4;simp only[hfl,one,zfj,hop,hm]at h4 ⊢;exact h4
   ·exfalso;unfold zgs at h4;rw[hop]at h4;cases hdst:o.dst<;>rw[hdst]at h4<;>simp at h4
   ·rw[hop]at h4;cases h4
  ·exfalso;split at h2;·cases h2
   ·cases h2
 obtain⟨π,s,e0,k0,x,he,hd,ja,h9⟩:=wk1_some hwk;obtain⟨m,hm⟩:∃m,m=Md.own e0 k0:=⟨_,rfl⟩;obtain⟨m',jc⟩:∃m,m=Md.own e' k':=⟨_,rfl⟩;rw[<-hm]at hd;rw[<-jc]at hc;have hz:t≠r:=λe=>by rw[e,hd]at he;cases he
 have hq:Operand.tmp t∈o.op.operands:=by rcases hop with hop|⟨_,_,hop,_⟩<;>rw[hop]<;>simp[Op.operands]
 have ht:σ' t=σ t:=h t (by unfold zje;rw[hw];exact xdq _ (List.mem_flatMap.2 ⟨.tmp t,by simpa using hq,by simp[hz]⟩))
 have ho:zri (σ' r) ty π s=zri (σ r) ty π s:=by unfold zri;simp[ja,hg]
 have hv:zar σ (.tmp t)=.slot t (σ t) (σ r):=by show Opd.slot t (σ t) (zdj σ (σ t).e)=_;rw[he];rfl
 have hu:zar σ' (.tmp t)=.slot t (σ t) (σ' r):=by show Opd.slot t (σ' t) (zdj σ' (σ' t).e)=_;rw[ht,he];rfl
 have hx:(zar σ (.tmp t)).place=if zri (σ r) ty π s then some ⟨r,σ r,ty,m,x,π⟩else none:=by rw[hv];unfold Opd.place;simp only[he,hd]
 have hi:(zar σ' (.tmp t)).place=if zri (σ r) ty π s then some ⟨r,σ' r,ty,m',x',π⟩else none:=by rw[hu];unfold Opd.place;simp only[he,hc,ho]
 unfold GOk at hok ⊢;rw[hn];rcases hok with⟨h1,ps,h2,h3⟩|⟨h1,h2⟩
 ·left;refine⟨h1,?_⟩;rw[hh]at h2;have hs:ps=[]:=by have:zyd [] σ=some []:=rfl;rw[this]at h2;cases h2;rfl
  subst hs;refine⟨[],by rw[hh];rfl,?_⟩;simp only[xdp]at h3 ⊢;change (∃ob us1,zlm T an.fl o (zar σ)=some (ob,us1)/\ob=true/\_=us1)\/(∃C y us1,zgs FT o σ=some C/\C.m=some y/\C.us y=some us1/\_=us1)\/_ at h3;change (∃ob us1,zlm T an.fl o (zar σ')=some (ob,us1)/\ob=true/\_=us1)\/(∃C y us1,zgs FT o σ'=some C/\C.m=some y/\C.us y=some us1/\_=us1)\/_;rcases hop with hop|⟨ts,f,hop,hfl⟩
  ·rcases h3 with⟨ob,us1,h4,_⟩|⟨C,y,us1,h4,h5,h6,h7⟩|⟨cc,x1,y1,_,_,_,_,h4,_⟩
   ·exfalso;unfold zlm at h4;rw[hop]at h4;cases hdst:o.dst<;>rw[hdst]at h4<;>simp[one,zfj,hop]at h4
   ·right;left;refine⟨C,y,us1,?_,h5,h6,h7⟩;unfold zgs at h4 ⊢;rw[hop]at h4 ⊢;cases hdst:o.dst with
    |none=>rw[hdst]at h4;simp at h4
    |some d1=>rw[hdst]at h4;simp only[he,ht,hx,hi]at h4 ⊢;cases hgb:zri (σ r) ty π s<;>rw[hgb]at h4<;>first | (simp at h4;done) | simpa using h4
   ·rw[hop]at h4;cases h4
  ·rcases h3 with⟨ob,us1,h4,h5,h6⟩|⟨C,y,us1,h4,_⟩|⟨cc,x1,y1,_,_,_,_,h4,_⟩
   ·left;refine⟨ob,us1,?_,h5,h6⟩;have ha:∀e,zld T ts f (zar σ (.tmp t))=some e->(∃r1 s1,e=.ref r1 π' s1)->zld T ts f (zar σ' (.tmp t))=some e:=λe ha hj=>by
     unfold zld at ha ⊢;split at ha;case h_2=>cases ha
     rename_i i ts0 hy;split at ha;case h_2=>cases ha
     rename_i offs hk;split at ha;case h_2=>cases ha
     rename_i o1 sz ρ h7 h8;split at ha;·cases ha
     rename_i h0;rw[hx]at ha;rw[hi];cases hgb:zri (σ r) ty π s
     ·exfalso;rw[hgb]at ha;simp only[xbb,xcg]at ha;have jb:(zar σ (.tmp t)).ro=none:=by rw[hv];unfold Opd.ro;simp only[he]
      rw[jb]at ha;cases ha
     ·rw[hgb]at ha;simp only[if_true]at ha ⊢;simp only[hy,hk,h7,h8,h0,xcg];have hl:=zky π ty x x';split at ha;case h_2=>cases ha
      rename_i y0 je;split at ha;case isFalse=>cases ha
      rename_i jd;rw[je]at hl;cases hy1:zcc π ty x' with
      |none=>rw[hy1]at hl;cases hl
      |some y1=>
       rw[hy1]at hl;have hp:y1.t=ts0:=by have:=xbi hl;rw[<-this];exact jd
       simp only[hp,if_true];rw[<-ha];obtain⟨r1,s1,hj⟩:=hj;rw[hj]at ha;have hπ:π++ρ=π':=by have:=xbi ha;injection this
       unfold zke;rw[hπ,h9,hg];rfl
    unfold zlm at h4 ⊢;rw[hop]at h4 ⊢;cases hdst:o.dst with
    |none=>rw[hdst]at h4;simp at h4
    |some d1=>
     rw[hdst]at h4;simp only[hfl,one,zfj,hop]at h4 ⊢;simp only[show ¬(0:Nat)=12 by decide,xcg]at h4 ⊢;cases hf:zld T ts f (zar σ (.tmp t))with
     |none=>rw[hf]at h4;simp at h4
     |some e=>
      have hj:∃r1 s1,e=.ref r1 π' s1:=by
       rw[hf]at h4;simp only[xch,xaq,xaw]at h4;rw[<-h4.2]at h6;injection h6 with h6
       injection h6 with h6 h7
       injection h7 with h7 h8
       exact⟨_,_,h7.symm⟩
      rw[ha e hf hj,<-hf];exact h4
   ·exfalso;unfold zgs at h4;rw[hop]at h4;cases hdst:o.dst<;>rw[hdst]at h4<;>simp at h4
   ·rw[hop]at h4;cases h4
 ·exfalso;split at h2;·cases h2
  ·cases h2
def wkB_some{an:An}{o:Oper}{us:Ups}{r:Nat}{ty:Ty}{π:List Nat}(h:wkB an o σ us=some (r,ty,π)):an.frz=[]/\∃d r' π' s' t,us=[(d,.view r' π' s',0)]/\(((∃ts,o.op=.load ts (.tmp t))/\an.fl=0/\wk2 σ π' t=some (r,ty,π))\/(o.op=.move (.tmp t)/\an.fl=0/\wkMv2 σ t=some (r,ty,π))):=by
 unfold wkB at h;split at h;case h_2=>cases h
 rename_i d r' π' s' hf;split at h
 ·rename_i ts t ho;split at h;·rename_i ha;exact⟨hf,d,r',π',s',t,rfl,.inl ⟨⟨ts,ho⟩,ha,h⟩⟩
  ·cases h
 ·rename_i t ho;split at h;·rename_i ha;exact⟨hf,d,r',π',s',t,rfl,.inr ⟨ho,ha,h⟩⟩
  ·cases h
 ·cases h
def wk2_some{π' π:List Nat}{t r:Nat}{ty:Ty}(h:wk2 σ π' t=some (r,ty,π)):π=π'/\∃s M x e k,(σ t).e=.ref r π s/\(σ r).e=.v ty M x/\zbr π ty M=some (.own e k):=by
 unfold wk2 at h;split at h;case h_2=>cases h
 rename_i r0 π0 s he;split at h;case isFalse=>cases h
 rename_i hπ;split at h;case h_2=>cases h
 rename_i ty0 M x hr;split at h;case h_2=>cases h
 rename_i e k hm;cases h;exact⟨hπ,s,M,x,e,k,he,hr,hm⟩
def GOk.frameB{an:An}{ops:Array Oper}{o:Oper}{us:Ups}{r:Nat}{ty:Ty}{π:List Nat}(hwA:wkA an o σ us=none)(hwB:wkB an o σ us=some (r,ty,π))(hok:GOk P T FT an ops o σ us)(h:∀t∈zje an ops o σ us,σ' t=σ t)(hr:WkEq (some π) ty (σ r) (σ' r)):GOk P T FT an ops o σ' us:=by
 have hw:zgz an o σ us=some (r,ty,some π):=by unfold zgz;rw[hwA,hwB]
 obtain⟨hv,d,r',π',s',t,rfl,hb⟩:=wkB_some hwB;obtain⟨⟨M',x',e',k',hd,ha⟩,hg,hh⟩:=hr;have hx:zcu ops o σ'=zcu ops o σ:=by
  unfold zcu;cases hg:zhu ops o with
  |none=>rfl
  |some t=>
   have:=h t (by unfold zje;rw[hg];simp);simp only[this]
 have key:∀(hst:∀ob us1,zlm T an.fl o (zar σ)=some (ob,us1)->us1=[(d,.view r' π' s',0)]->zlm T an.fl o (zar σ')=some (ob,us1)) (hnc:∀C,zgs FT o σ≠some C) (hnp:∀cc x y,o.op≠ .pick cc x y),GOk P T FT an ops o σ' [(d,.view r' π' s',0)]:=λhst hnc hnp=>by
  unfold GOk at hok ⊢;rw[hx];rcases hok with⟨h1,ps,h2,h3⟩|⟨h1,h2⟩
  ·left;refine⟨h1,?_⟩;rw[hv]at h2;have jc:ps=[]:=by have:zyd [] σ=some []:=rfl;rw[this]at h2;cases h2;rfl
   subst jc;refine⟨[],by rw[hv];rfl,?_⟩;simp only[xdp]at h3 ⊢;change (∃ob us1,zlm T an.fl o (zar σ)=some (ob,us1)/\ob=true/\_=us1)\/(∃C y us1,zgs FT o σ=some C/\C.m=some y/\C.us y=some us1/\_=us1)\/_ at h3;change (∃ob us1,zlm T an.fl o (zar σ')=some (ob,us1)/\ob=true/\_=us1)\/(∃C y us1,zgs FT o σ'=some C/\C.m=some y/\C.us y=some us1/\_=us1)\/_;rcases h3 with⟨ob,us1,h4,h5,h6⟩|⟨C,y,us1,h4,_⟩|⟨cc,x1,y1,_,_,_,_,h4,_⟩
   ·exact .inl ⟨ob,us1,hst ob us1 h4 h6.symm,h5,h6⟩
   ·exact absurd h4 (hnc C)
   ·exact absurd h4 (hnp _ _ _)
  ·exfalso;split at h2;·cases h2
   ·cases h2
 rcases hb with⟨⟨ts,hop⟩,hfl,hwk⟩|⟨hop,hfl,hwk⟩
 ·obtain⟨rfl,s,M,x,e,k,he,hj,hz⟩:=wk2_some hwk;have h7:t≠r:=λe=>by rw[e,hj]at he;cases he
  have ht:σ' t=σ t:=h t (by unfold zje;rw[hw];exact xdq _ (List.mem_flatMap.2 ⟨.tmp t,by rw[hop];simp[Op.operands],by simp[h7]⟩))
  have hn:zri (σ' r) ty π s=zri (σ r) ty π s:=by unfold zri;simp[hg,hh]
  have ho:zar σ (.tmp t)=.slot t (σ t) (σ r):=by show Opd.slot t (σ t) (zdj σ (σ t).e)=_;rw[he];rfl
  have hc:zar σ' (.tmp t)=.slot t (σ t) (σ' r):=by show Opd.slot t (σ' t) (zdj σ' (σ' t).e)=_;rw[ht,he];rfl
  have jd:(zar σ (.tmp t)).place=if zri (σ r) ty π s then some ⟨r,σ r,ty,M,x,π⟩else none:=by rw[ho];unfold Opd.place;simp only[he,hj]
  have hq:(zar σ' (.tmp t)).place=if zri (σ r) ty π s then some ⟨r,σ' r,ty,M',x',π⟩else none:=by rw[hc];unfold Opd.place;simp only[he,hd,hn]
  have h9:∀e0,loadE T ts (zar σ (.tmp t))=some e0->e0=.view r' π s'->loadE T ts (zar σ' (.tmp t))=some e0:=λe0 h0 hs=>by
   have h8:(zar σ (.tmp t)).rb=none:=by rw[ho];unfold Opd.rb;simp only[he]
   have hl:(zar σ' (.tmp t)).rb=none:=by rw[hc];unfold Opd.rb;simp only[he]
   unfold loadE at h0 ⊢;rw[h8]at h0;rw[hl];simp only at h0 ⊢;cases htl:tl T ts with
   |none=>rw[htl]at h0;cases h0
   |some q=>
    obtain⟨i0,u⟩:=q;rw[htl]at h0;simp only[jd,hq]at h0 ⊢;cases hgb:zri (σ r) ty π s
    ·rw[hgb]at h0;simp only[xbb,xcg]at h0;have ja:(zar σ (.tmp t)).ro=none:=by rw[ho];unfold Opd.ro;simp only[he]
     rw[ja]at h0;cases h0
    ·rw[hgb]at h0;simp only[if_true]at h0 ⊢;unfold Pl.deref at h0 ⊢;simp only[hz,ha]at h0 ⊢;have hi:=zky π ty x x';cases hy:zcc π ty x with
     |none=>rw[hy]at h0;cases h0
     |some y=>
      rw[hy]at h0 hi;cases hy':zcc π ty x' with
      |none=>rw[hy']at hi;cases hi
      |some y'=>
       rw[hy']at hi;have jb:y.t=y'.t:=xbi hi;simp only[Md.noown,xbb,xcg,<-jb]at h0 ⊢;by_cases hu:y.t=u
       ·rw[if_pos hu]at h0 ⊢;cases hk:y.t<;>rw[hk]at h0<;>simp only[hk]at h0⊢ <;>first | (cases h0;done) | skip
        ·rw[hh];exact h0
        ·subst hs;cases h0
       ·rw[if_neg hu]at h0;cases h0
  refine key (λob us1 h4 h5=>?_) (λC hC=>?_) (λcc x1 y1 hp=>by rw[hop]at hp;cases hp)
  ·unfold zlm at h4 ⊢;rw[hop]at h4 ⊢;cases hdst:o.dst with
   |none=>rw[hdst]at h4;simp at h4
   |some d1=>
    rw[hdst]at h4;simp only[hfl,one,zfj,hop]at h4 ⊢;simp only[show ¬(0:Nat)=1 by decide,xcg]at h4 ⊢;cases hf:loadE T ts (zar σ (.tmp t))with
    |none=>rw[hf]at h4;simp at h4
    |some e0=>
     have hs:e0=.view r' π s':=by
      rw[hf]at h4;simp only[xch,xaq,xaw]at h4;rw[<-h4.2]at h5;injection h5 with h5
      injection h5 with h5 h6
      injection h6
     rw[h9 e0 hf hs,<-hf];exact h4
  ·unfold zgs at hC;rw[hop]at hC;cases hdst:o.dst<;>rw[hdst]at hC<;>simp at hC
 ·unfold wkMv2 at hwk;split at hwk;case h_2=>cases hwk
  rename_i u e0 k0 x0 hj;cases hwk;simp only[zbr,xaq]at ha;subst ha;refine key (λob us1 h4 h5=>?_) (λC hC=>?_) (λcc x1 y1 hp=>by rw[hop]at hp;cases hp)
  ·have hm:zjh T o.type (zar σ' (.tmp r))=zjh T o.type (zar σ (.tmp r)):=by show zjh T o.type (.slot r (σ' r) (zdj σ' (σ' r).e))=zjh T o.type (.slot r (σ r) (zdj σ (σ r).e));unfold zjh;simp only[hj,hd,Md.noown,xbb,xcg,hh]
   unfold zlm at h4 ⊢;rw[hop]at h4 ⊢;cases hdst:o.dst with
   |none=>rw[hdst]at h4;simp at h4
   |some d1=>rw[hdst]at h4;simp only[hfl,one,zfj,hop,hm]at h4 ⊢;exact h4
  ·unfold zgs at hC;rw[hop]at hC;cases hdst:o.dst<;>rw[hdst]at hC<;>simp at hC
def GOk.frame{an:An}{ops:Array Oper}{o:Oper}{us:Ups}(hok:GOk P T FT an ops o σ us)(h:∀t∈zje an ops o σ us,σ' t=σ t)(hw:∀r ty κ,zgz an o σ us=some (r,ty,κ)->WkEq κ ty (σ r) (σ' r)):GOk P T FT an ops o σ' us:=by
 cases hA:wkA an o σ us with
 |some q=>obtain⟨r,ty⟩:=q;exact hok.frameW hA h (hw r ty none (by unfold zgz;rw[hA]))
 |none=>
  cases hB:wkB an o σ us with
  |some q=>obtain⟨r,ty,π⟩:=q;exact hok.frameB hA hB h (hw r ty (some π) (by unfold zgz;rw[hA,hB]))
  |none=>exact hok.frameN (by unfold zgz;rw[hA,hB]) h
end
def adj(s:List Nat):List Nat->List Nat
 | []=>s
 |x::r=>bif s.contains x then adj s r else adj (x::s) r
def adj_mem:∀(l s:List Nat) (i:Nat),i∈adj s l->i∈l\/i∈s
 | [],s,i,h=>.inr h
 |x::r,s,i,h=>by
  unfold adj at h;cases hc:s.contains x with
  |true=>rw[hc]at h;exact(adj_mem r s i h).imp (xan _) λh=>h
  |false=>
   rw[hc]at h;rcases adj_mem r (x::s) i h with h1|h1
   ·exact .inl (xan _ h1)
   ·rcases xar.1 h1 with h2|h2
    ·exact .inl (by rw[h2];exact xcz)
    ·exact .inr h2
def zgm(acc:List (List Nat))(o:Oper):List (List Nat):=
 acc++[o.after.toList.foldl (λs e=>if Region.binds .any e then adj s (e.on::acc.getD e.on [])else s) []]
def ancs(ops:List Oper):List (List Nat):=ops.foldl zgm []
def acyc(ops:List Oper):Bool:=ops.zipIdx.all λ(o,k)=>o.after.all λe=>!Region.binds .any e||decide (e.on<k)
def meets(x y:List Nat×List Nat):Bool:=x.1.any (y.2.contains ·)||x.2.any (y.1.contains ·)||x.2.any (y.2.contains ·)
def indep(an:List (List Nat))(fs:List (List Nat×List Nat)):Bool:=
 fs.zipIdx.all λ(y,k)=>(fs.take k).zipIdx.all λ(x,i)=>!meets x y||(an.getD k []).contains i
def zsz{acc:List (List Nat)}:∀(l:List Edge) (s:List Nat) (i:Nat),i∈l.foldl (λs e=>if Region.binds .any e then adj s (e.on::acc.getD e.on [])else s) s->i∈s\/∃e∈l,Region.binds .any e=true/\(e.on=i\/i∈acc.getD e.on [])
 | [],s,i,h=>.inl h
 |e::l,s,i,h=>by
  rcases zsz l _ i h with h1|⟨e',h1,h2⟩
  ·by_cases hb:Region.binds .any e=true
   ·dsimp only at h1;rw[if_pos hb]at h1;rcases adj_mem _ _ _ h1 with h1|h1
    ·rcases xar.1 h1 with h1|h1
     ·exact .inr ⟨e,xcz,hb,.inl h1.symm⟩
     ·exact .inr ⟨e,xcz,hb,.inr h1⟩
    ·exact .inl h1
   ·dsimp only at h1;rw[if_neg hb]at h1;exact .inl h1
  ·exact .inr ⟨e',xan _ h1,h2⟩
def ancs_spec:∀(l:List Oper) (acc:List (List Nat)),(l.foldl zgm acc).length=acc.length+l.length/\(∀j,j<acc.length->(l.foldl zgm acc).getD j []=acc.getD j []) /\
  ∀(k:Nat) (o:Oper) (i:Nat),l[k]?=some o->i∈(l.foldl zgm acc).getD (acc.length+k) []->∃e∈o.after.toList,Region.binds .any e=true/\(e.on=i\/(i∈(l.foldl zgm acc).getD e.on []/\e.on<acc.length+k))
 | [],acc=>⟨rfl,λ_ _=>rfl,λk o i h=>by simp at h⟩
 |x::l,acc=>by
  have hl:(zgm acc x).length=acc.length+1:=by simp[zgm]
  obtain⟨h1,h2,h3⟩:=ancs_spec l (zgm acc x);refine⟨by simp only[xfd];rw[h1,hl,xbd];omega,λj hj=>?_,λk o i hk hi=>?_⟩;·simp only[xfd];rw[h2 j (by omega)];unfold zgm;rw[xad,xfl hj,<-xad]
  ·simp only[xfd]at hi ⊢;cases k with
   |zero=>
    simp at hk;subst hk;rw[h2 _ (by omega)]at hi;have he:(zgm acc x).getD (acc.length+0) []=x.after.toList.foldl (λs e=>if Region.binds .any e then adj s (e.on::acc.getD e.on [])else s) []:=by simp[zgm]
    rw[he]at hi;rcases zsz _ _ _ hi with h4|⟨e,h4,h5,h6⟩
    ·cases h4
    ·refine⟨e,h4,h5,h6.imp id λh7=>?_⟩;have ha:e.on<acc.length:=by
      rcases xeo e.on acc.length with h'|h'
      ·exact h'
      ·rw[xad,xdm h']at h7;cases h7
     refine⟨?_,by omega⟩;rw[h2 _ (by omega)];unfold zgm;rw[xad,xfl ha,<-xad];exact h7
   |succ k=>
    obtain⟨e,h4,h5,h6⟩:=h3 k o i (by simpa using hk) (by rw[hl];rw[show acc.length+1+k=acc.length+(k+1)from by omega];exact hi);exact⟨e,h4,h5,h6.imp id λ⟨h7,h8⟩=>⟨h7,by rw[hl]at h8;omega⟩⟩
section
variable (us:Nat->Ups)
def envAt(t:Nat)(L:List Nat)(p:Slot):Slot:=L.foldl (λp k=>updAt (us k) t p) p
def zwp(L:List Nat)(σ:Env):Env:=L.foldl (λσ k=>upd (us k) σ) σ
def wr(k:Nat):List Nat:=(us k).map (·.1)
def zzc(t:Nat):∀(L:List Nat) (σ:Env),zwp us L σ t=envAt us t L (σ t)
 | [],_=>rfl
 |k::L,σ=>by show zwp us L (upd (us k) σ) t=envAt us t L (updAt (us k) t (σ t));rw[zzc t L,zjb]
def zhw(t:Nat):∀(L:List Nat) (p:Slot),envAt us t L p=envAt us t (L.filter λk=>(wr us k).contains t) p
 | [],_=>rfl
 |k::L,p=>by
  show envAt us t L (updAt (us k) t p)=_;rw[xer];by_cases h:(wr us k).contains t=true;·rw[if_pos h];exact zhw t L _
  ·rw[if_neg h,zru _ _ _ (by simpa[wr]using h)];exact zhw t L p
def zwo{L L':List Nat}{σ:Env}{t:Nat}(h:(L.filter λk=>(wr us k).contains t)=L'.filter λk=>(wr us k).contains t):zwp us L σ t=zwp us L' σ t:=by rw[zzc,zzc,zhw,zhw us t L',h]
end
section
variable {P:Program} {T:Tab} {FT:List (TgE P)} {c:Ctx} {an:Nat->An} {ops:Array Oper} {us:Nat->Ups} {σ:Env}
def zeh(n:Nat)(listed:Array Bool):List Nat:=(List.range n).filter λk=>listed.getD k false
def zgl{n:Nat}{listed:Array Bool}{q:Nat->Bool}{i:Nat}(hi:i<=n)(h:∀k,k<n->q k=true->(listed.getD k false=true↔k<i)) :
  (zeh n listed).filter q=(List.range i).filter q:=by
 unfold zeh;rw[xiy];have h1:(List.range n).filter (λa=>q a&&listed.getD a false)=(List.range n).filter (λa=>q a&&decide (a<i)):=by
  apply xek;intro k hk;rw[xcm]at hk;cases hq:q k with
  |false=>simp
  |true=>
   have:=h k hk hq;cases hl:listed.getD k false<;>simp[hl]at this⊢ <;>omega
 rw[h1];have h2:List.range n=List.range i++(List.range' i (n-i)):=by have:=List.range'_append_1 (s:=0) (m:=i) (n:=n-i);rw[xck,Nat.add_sub_cancel' hi]at this;rw[xjy,xjy];exact this.symm
 rw[h2,xgb];have h3:(List.range' i (n-i)).filter (λa=>q a&&decide (a<i))=[]:=by rw[xgu];intro k hk;rw[List.mem_range'_1]at hk;simp;omega
 rw[h3,xbn];apply xek;intro k hk;rw[xcm]at hk;simp[hk]
def Mild(κ:Option (List Nat))(ty:Ty)(u:Nat×Ent×Nat):Prop:=match κ with
 |none=>(∃e m x,u.2.1=.v ty (.own e m) x)/\(u.2.2=1\/u.2.2=2)
 |some π=>(∃M x e k,u.2.1=.v ty M x/\zbr π ty M=some (.own e k))/\u.2.2=2
def zux{κ:Option (List Nat)}{ty:Ty}{r:Nat}{p0:Slot}:∀(us:Ups) (p:Slot),(∀u∈us,u.1=r->Mild κ ty u)->WkEq κ ty p0 p->WkEq κ ty p0 (updAt us r p)
 | [],p,_,h=>h
 |(t,e,k)::us,p,hu,h=>by
  unfold updAt;refine zux us _ (λu hm=>hu u (xan _ hm)) ?_;split
  ·rename_i heq;have hm:=hu (t,e,k) (by simp) heq.symm;cases κ with
   |none=>
    obtain⟨⟨e1,m,x,he⟩,hk⟩:=hm;simp only at he hk;refine⟨⟨e1,m,x,by rw[zom];exact he⟩,?_⟩;rcases hk with rfl|rfl
    ·exact h.2
    ·exact h.2
   |some π=>
    obtain⟨⟨M,x,e1,k1,he,ha⟩,hk⟩:=hm;simp only at he hk;subst hk;exact⟨⟨M,x,e1,k1,by rw[zom];exact he,ha⟩,h.2⟩
  ·exact h
def envL_mild{us:Nat->Ups}{σ:Env}{κ:Option (List Nat)}{ty:Ty}{r:Nat}{p0:Slot}:∀(L:List Nat) (p:Slot),(∀j∈L,∀u∈us j,u.1=r->Mild κ ty u)->WkEq κ ty p0 p->WkEq κ ty p0 (envAt us r L p)
 | [],p,_,h=>h
 |k::L,p,hu,h=>by show WkEq κ ty p0 (envAt us r L (updAt (us k) r p));exact envL_mild (σ:=σ) L _ (λj hj=>hu j (xan _ hj)) (zux _ _ (hu k (by simp)) h)
def WkEq.trans'{κ:Option (List Nat)}{ty:Ty}{p q q':Slot}(h:WkEq κ ty p q)(h':WkEq κ ty p q'):WkEq κ ty q q':=by
 cases κ with
 |none=>exact⟨h'.1,h'.2.trans h.2.symm⟩
 |some π=>exact⟨h'.1,h'.2.1.trans h.2.1.symm,h'.2.2.trans h.2.2.symm⟩
structure Text(P:Program)(T:Tab)(FT:List (TgE P))(an:Nat->An)(N:Nat)(kp:Oper->Prop)(ops:Array Oper)(σ:Env)(us:Nat->Ups)(rd:Nat->List Nat):Prop where
 ok:∀(k:Nat) (o:Oper),ops[k]?=some o->GOk P T FT (an k) ops o (zwp us (List.range k) σ) (us k)/\(within N o=true/\kp o)/\zje (an k) ops o (zwp us (List.range k) σ) (us k)=rd k
 weak:∀(k:Nat) (o:Oper) (r:Nat) (ty:Ty) (κ:Option (List Nat)),ops[k]?=some o->zgz (an k) o (zwp us (List.range k) σ) (us k)=some (r,ty,κ)->WkEq κ ty (σ r) (σ r)/\∀j,j<ops.size->j<k\/k∉(ancs ops.toList).getD j []->∀u∈us j,u.1=r->Mild κ ty u
 acyc:∀(k:Nat) (o:Oper),ops[k]?=some o->∀e∈o.after,Region.binds .any e=true->e.on<k
 ind:∀(i k:Nat),i<k->k<ops.size->(∃t,(t∈rd i/\t∈wr us k)\/(t∈wr us i/\t∈rd k)\/(t∈wr us i/\t∈wr us k))->i∈(ancs ops.toList).getD k []
def zxc{listed:Array Bool}(hcl:∀(k:Nat) (o:Oper),ops[k]?=some o->listed.getD k false=true->∀e∈o.after,Region.binds .any e=true->listed.getD e.on false=true) :
  ∀(k i:Nat) (o:Oper),ops[k]?=some o->i∈(ancs ops.toList).getD k []->(∀e∈o.after,Region.binds .any e=true->listed.getD e.on false=true)->listed.getD i false=true:=by
 intro k;induction k using Nat.strongRecOn with
 |_ k ih=>
  intro i o ho hi he;obtain⟨_,_,ha⟩:=ancs_spec ops.toList [];obtain⟨e,h1,h2,h3⟩:=ha k o i (by simpa using ho) (by rw[show([]:List (List Nat)).length+k=k from by simp];exact hi);have hf:e∈o.after:=by simpa using h1
  have hc:=he e hf h2;rcases h3 with h3|⟨h3,h4⟩
  ·rw[<-h3];exact hc
  ·have hd:e.on<k:=by simpa using h4
   have hk:k<ops.size:=(xbm.1 ho).1;have hb:ops[e.on]?=some ops[e.on]:=xcf (by omega);exact ih e.on hd i _ hb h3 (hcl e.on _ hb hc)
def order_any{rd:Nat->List Nat}(hT:TabOK P T)(Tx:Text P T FT an c.N (kept c) ops σ us rd){Q:Exit->Act->World->Prop}(hQ:∀a w,InvK P c (zwp us (List.range ops.size) σ) a w->Q .normal a w) :
  ∀(fuel:Nat) (listed:Array Bool) (a:Act) (w:World),listed.size=ops.size->((List.range ops.size).filter λk=>!listed.getD k true).length=fuel ->
   (∀(k:Nat) (o:Oper),ops[k]?=some o->listed.getD k false=true->∀e∈o.after,Region.binds .any e=true->listed.getD e.on false=true) ->
   InvK P c (zwp us (zeh ops.size listed) σ) a w->wpAny P .any ops Q fuel listed a w:=by
 have hm:∀(listed:Array Bool),listed.size=ops.size->(∀k,k<ops.size->listed.getD k true=true)->zeh ops.size listed=List.range ops.size:=λlisted hs hd=>by unfold zeh;rw[xgn];intro k hk;rw[xcm]at hk;have:=hd k hk;simpa[hs,hk]using this
 have hu:∀(listed:Array Bool),listed.size=ops.size->Region.ready .any ops listed=[]->∀k,k<ops.size->listed.getD k true=true:=λlisted hs hr=>by
  intro k;induction k using Nat.strongRecOn with
  |_ k ih=>
   intro hk;cases hl:listed.getD k true with
   |true=>rfl
   |false=>
    exfalso;have hg:k∈Region.ready .any ops listed:=mem_ready.2 ⟨hl,ops[k],xcf hk,λe he hb=>by have h7:=Tx.acyc k _ (xcf hk) e he hb;have:=ih e.on h7 (by omega);simpa[hs,show e.on<ops.size from by omega]using this⟩
    rw[hr]at hg;cases hg
 intro fuel;induction fuel with
 |zero=>
  intro listed a w hs hf hw h;have hd:∀k,k<ops.size->listed.getD k true=true:=λk hk=>by have:=xef hf;rw[xgu]at this;simpa using this k (xcm.2 hk)
  refine⟨?_,hQ a w (by rw[<-hm listed hs hd];exact h)⟩;apply List.eq_nil_iff_forall_not_mem.2;intro k hk;obtain⟨h1,o,ho,_⟩:=mem_ready.1 hk;rw[hd k (xbm.1 ho).1]at h1;cases h1
 |succ fuel ih=>
  intro listed a w hs hf hw h;refine⟨λhr=>hQ a w (by rw[<-hm listed hs (hu listed hs hr)];exact h),λi hi=>?_⟩;obtain⟨h6,o,ho,hn⟩:=mem_ready.1 hi;have hh:i<ops.size:=(xbm.1 ho).1;obtain⟨jj,hN,jh⟩:=Tx.ok i o ho;have jd:∀k,k∈(ancs ops.toList).getD i []->listed.getD k false=true:=λk hk=>zxc hw i k o ho hk hn;have je:∀k,k<ops.size->i∈(ancs ops.toList).getD k []->listed.getD k false=false:=λk hk hik=>by
   cases hl:listed.getD k false with
   |false=>rfl
   |true=>
    have:=zxc hw k i ops[k] (xcf hk) hik (hw k _ (xcf hk) hl);simp[hs,hh]at this h6;rw[h6]at this;cases this
  have hv:listed.getD i false=false:=by simpa[hs,hh]using h6
  have ha:∀t k,k<ops.size->k≠i->t∈wr us k->(t∈rd i\/t∈wr us i)->(listed.getD k false=true↔k<i):=λt k hk hki hc hti=>by
   rcases xeo k i with h7|hge
   ·exact⟨λ_=>h7,λ_=>jd k (Tx.ind k i h7 hh ⟨t,hti.elim (λh=>.inr (.inl ⟨hc,h⟩)) λh=>.inr (.inr ⟨hc,h⟩)⟩)⟩
   ·have jg:i<k:=by omega
    have:=je k hk (Tx.ind i k jg hk ⟨t,hti.elim (λh=>.inl ⟨h,hc⟩) λh=>.inr (.inr ⟨h,hc⟩)⟩);exact⟨λh=>(by rw[this]at h;cases h),λh=>by omega⟩
  have hp:∀t∈zje (an i) ops o (zwp us (List.range i) σ) (us i),zwp us (zeh ops.size listed) σ t=zwp us (List.range i) σ t:=λt ht=>by
   rw[jh]at ht;refine zwo us (zgl (xgk hh) λk hk hq=>?_);have hc:t∈wr us k:=by simpa using hq
   by_cases hki:k=i;·subst hki;rw[hv];simp
   ·exact ha t k hk hki hc (.inl ht)
  have h9:=jj.frame hp λr ty κ hwk=>by
   obtain⟨hb,hy⟩:=Tx.weak i o r ty κ ho hwk;have h0:∀L:List Nat,(∀j∈L,j<ops.size/\(j<i\/i∉(ancs ops.toList).getD j []))->WkEq κ ty (σ r) (zwp us L σ r):=λL hL=>by rw[zzc];exact envL_mild (σ:=σ) L _ (λj hj=>hy j (hL j hj).1 (hL j hj).2) hb
   have h1:=h0 (List.range i) λj hj=>by have:=xcm.1 hj;exact⟨by omega,.inl this⟩
   have h2:=h0 (zeh ops.size listed) λj hj=>by unfold zeh at hj;obtain⟨h3,h4⟩:=xfw.1 hj;have h3:=xcm.1 h3;refine⟨h3,.inr λh5=>?_⟩;rw[je j h3 h5]at h4;cases h4
   exact h1.trans' h2
  refine h9.wpOp ho h hT hN.1 hN.2 λa' w' h'=>?_;have jc:(listed.setIfInBounds i true).size=ops.size:=by simpa using hs
  refine ih _ a' w' jc ?_ (λk o' hk hl e he hb=>?_) ?_
  ·have h8:((List.range ops.size).filter λk=>!listed.getD k true).length=((List.range ops.size).filter λk=>!(listed.setIfInBounds i true).getD k true).length+1:=by
    have key:∀(l:List Nat),l.Nodup->i∈l->(l.filter λk=>!listed.getD k true).length=(l.filter λk=>!(listed.setIfInBounds i true).getD k true).length+1:=by
     intro l;induction l with
     |nil=>intro _ h;cases h
     |cons x l ih2=>
      intro ji hg;obtain⟨hx,ja⟩:=xfb.1 ji;rw[xer,xer];by_cases hxi:x=i
      ·subst hxi;have e1:(!listed.getD x true)=true:=by rw[h6];rfl
       have e2:(!(listed.setIfInBounds x true).getD x true)=false:=by simp[hs,hh]
       rw[if_pos e1,e2];simp only[xbb,xcg,xbd];congr 1;congr 1;apply xek;intro k hk;have jf:x≠k:=λhe=>hx (he▸hk);rw[getD_set_ne true jf]
      ·have hz:i∈l:=(xar.1 hg).resolve_left (λe=>hxi e.symm);have:=ih2 ja hz;rw[getD_set_ne true (Ne.symm hxi)];split;·rw[xbd,xbd,this]
       ·exact this
    exact key _ xjk (xcm.2 hh)
   omega
  ·by_cases hki:k=i;·subst hki;rw[ho]at hk;cases hk;exact getD_set_true (hn e he hb)
   ·rw[getD_set_ne false (Ne.symm hki)]at hl;exact getD_set_true (hw k o' hk hl e he hb)
  ·have jb:upd (us i) (zwp us (zeh ops.size listed) σ)=zwp us (zeh ops.size (listed.setIfInBounds i true)) σ:=by
    funext t;have e1:upd (us i) (zwp us (zeh ops.size listed) σ)=zwp us (zeh ops.size listed++[i]) σ:=by unfold zwp;rw[xej];rfl
    rw[e1];refine zwo us ?_;rw[xgb];by_cases hti:t∈wr us i
    ·have e2:([i].filter λk=>(wr us k).contains t)=[i]:=by simp[hti]
     rw[e2];have e3:(zeh ops.size listed).filter (λk=>(wr us k).contains t)=(List.range i).filter λk=>(wr us k).contains t:=
      zgl (xgk hh) λk hk hq=>by
       have hc:t∈wr us k:=by simpa using hq
       by_cases hki:k=i;·subst hki;rw[hv];simp
       ·exact ha t k hk hki hc (.inr hti)
     have e4:(zeh ops.size (listed.setIfInBounds i true)).filter (λk=>(wr us k).contains t)=(List.range (i+1)).filter λk=>(wr us k).contains t:=
      zgl hh λk hk hq=>by
       have hc:t∈wr us k:=by simpa using hq
       by_cases hki:k=i;·subst hki;simp[hs,hh]
       ·rw[getD_set_ne false (Ne.symm hki),ha t k hk hki hc (.inr hti)];omega
     rw[e3,e4,xjv,xgb,e2]
    ·have e2:([i].filter λk=>(wr us k).contains t)=[]:=by simp[hti]
     rw[e2,xbn];unfold zeh;rw[xiy,xiy];apply xek;intro k _;by_cases hki:k=i;·subst hki;simp[hti]
     ·rw[getD_set_ne false (Ne.symm hki)]
   rw[<-jb];exact h'
end
end Go.X
