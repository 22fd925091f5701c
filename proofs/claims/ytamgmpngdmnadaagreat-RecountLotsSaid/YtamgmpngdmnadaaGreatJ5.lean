/- A part of the proof. -/
import Derived.LoopN
import Derived.Test.YtamgmpngdmnadaaGreatJ4
set_option linter.defProp false
set_option linter.unusedSimpArgs false
set_option linter.unusedVariables false
namespace Go.X
open Go Go.RowKit
abbrev LEnv:=List (Nat×Slot)
def E:LEnv->Env
 | [],_=>⟨.dead,0,0⟩
 |(k,s)::r,t=>if t=k then s else E r t
def setL:LEnv->Nat->Ent->Nat->LEnv
 | [],t,e,k=>[(t,bump k ⟨.dead,0,0⟩ e)]
 |(u,s)::r,t,e,k=>if t=u then(u,bump k s e)::r else(u,s)::setL r t e k
def zpz:Ups->LEnv->LEnv
 | [],l=>l
 |(t,e,k)::r,l=>zpz r (setL l t e k)
def E_setL:∀(l:LEnv) (t:Nat) (e:Ent) (k:Nat),E (setL l t e k)=zdv (E l) t e k
 | [],t,e,k=>by funext u;simp only[setL,E,zdv]
 |(v,s)::r,t,e,k=>by
  funext u;have ih:=congrFun (E_setL r t e k) u;unfold setL;by_cases h:t=v;·subst h;rw[if_pos rfl];simp only[E,zdv,if_true];split<;>rfl
  ·rw[if_neg h];simp only[E];by_cases hu:u=v;·subst hu;rw[if_pos rfl,zao _ _ _ (Ne.symm h)];simp only[E,if_true]
   ·rw[if_neg hu,ih];simp only[zdv,E,if_neg hu,if_neg h]
def ziz:∀(us:Ups) (l:LEnv),E (zpz us l)=upd us (E l)
 | [],_=>rfl
 |(t,e,k)::r,l=>by show E (zpz r (setL l t e k))=upd r (zdv (E l) t e k);rw[ziz r,E_setL]
noncomputable def zwn {R:Type} (T:Tab) (fl:Nat) (o:Oper) (ps:Ups) (l:LEnv) (k:Ups->LEnv->Option R):Option R:=
 match zlm T fl o (zar (E l))with
 |some (ob,us)=>bif ob then k (ps++us) (zpz us l)else none
 |none=>none
noncomputable def evRun {P:Program} {R:Type} (T:Tab) (FT:List (TgE P)) (an:An) (o:Oper) (l:LEnv) (k:Ups->LEnv->Option R):Option R:=
 match zyd an.frz (E l)with
 |some ps=>match o.op with
  | .pick cc x y=>match(zar (E (zpz ps l)) cc).val .bool with
   |some (m,b)=>if m=.dead then none else bif b then zwn T an.fl {o with op:=.move x} ps (zpz ps l) k else zwn T an.fl {o with op:=.move y} ps (zpz ps l) k
   |none=>none
  | .call {callee:=.builtin _,args:=_,argTypes:=_}=>zwn T an.fl o ps (zpz ps l) k
  | .nilCheck _=>match zgs FT o (E (zpz ps l))with
   |some C=>C.m.bind λy=>match C.us y with
    |some us=>k (ps++us) (zpz us (zpz ps l))
    |none=>none
   |none=>none
  | .call _=>match zgs FT o (E (zpz ps l))with
   |some C=>C.m.bind λy=>match C.us y with
    |some us=>k (ps++us) (zpz us (zpz ps l))
    |none=>none
   |none=>none
  |_=>zwn T an.fl o ps (zpz ps l) k
 |none=>none
def eqB(want b:Bool):Bool:=match want with | true=>b | false=>!b
noncomputable def evOp {P:Program} {R:Type} (T:Tab) (FT:List (TgE P)) (an:An) (ops:Array Oper) (o:Oper) (l:LEnv) (k:Ups->LEnv->Option R):Option R:=
 match o.guard with
 |none=>evRun T FT an o l k
 |some (_,want)=>match zhu ops o,o.dst with
  |some t,some d=>match(E l t).e with
   | .v .bool m b=>if m=.dead then none else bif eqB want b then evRun T FT an o (setL l t (.v .bool m want) 2) k else k [(d,.skip,0)] (setL (setL l t (.v .bool m (!want)) 2) d .skip 0)
   | .skip=>k [(d,.skip,0)] (setL l d .skip 0)
   |_=>none
  |_,_=>none
def forceE{R:Type}(e:Ent)(k:Ent->Option R):Option R:=
 match e with
 | .v t m x=>k (.v t m x)
 | .ref r π s=>k (.ref r π s)
 | .view r π s=>k (.view r π s)
 | .tail r s lo=>k (.tail r s lo)
 | .rbox r π s=>k (.rbox r π s)
 | .tup es=>k (.tup es)
 | .clo f cs=>k (.clo f cs)
 | .mth nm ⟨t,m,x⟩=>k (.mth nm ⟨t,m,x⟩)
 | .skip=>k .skip
 | .dead=>k .dead
def forceE_eq{R:Type}(e:Ent)(k:Ent->Option R):forceE e k=k e:=by cases e<;>rfl
def forceL{R:Type}:LEnv->(LEnv->Option R)->Option R
 | [],k=>k []
 |(t,⟨e,g,h⟩)::r,k=>forceE e λe=>forceL r λr=>k ((t,⟨e,g,h⟩)::r)
def forceL_eq{R:Type}:∀(l:LEnv) (k:LEnv->Option R),forceL l k=k l
 | [],_=>rfl
 |(t,⟨e,g,h⟩)::r,k=>by unfold forceL;rw[forceE_eq,forceL_eq r]
abbrev Foot:=(List Nat×List Nat)×(Option (Nat×Ty×Option (List Nat))×List (Nat×Option (Ty×Md×Nat)))
def markU(u:Nat×Ent×Nat):Nat×Option (Ty×Md×Nat):=(u.1,match u.2.1 with
 | .v ty M _=>some (ty,M,u.2.2)
 |_=>none)
def isOwn:Option Md->Bool
 |some (.own _ _)=>true
 |_=>false
def mildB(κ:Option (List Nat))(ty:Ty)(q:Option (Ty×Md×Nat)):Bool:=match q with
 |none=>false
 |some (ty',M,k)=>decide (ty'=ty)&&match κ with
  |none=>isOwn (some M)&&(decide (k=1)||decide (k=2))
  |some π=>isOwn (zbr π ty' M)&&decide (k=2)
def tyAt(σ:Env)(r:Nat)(ty:Ty)(κ:Option (List Nat)):Bool:=match(σ r).e with
 | .v t M _=>decide (t=ty)&&match κ with
  |none=>isOwn (some M)
  |some π=>isOwn (zbr π t M)
 |_=>false
def zlt{m:Option Md}(h:isOwn m=true):∃e k,m=some (.own e k):=by
 unfold isOwn at h;split at h;·exact⟨_,_,rfl⟩
 ·cases h
def tyAt_eq{σ:Env}{r:Nat}{ty:Ty}{κ:Option (List Nat)}(h:tyAt σ r ty κ=true):WkEq κ ty (σ r) (σ r):=by
 unfold tyAt at h;split at h;case h_2=>cases h
 rename_i t M x he;simp only[xal,xak]at h;obtain⟨rfl,h⟩:=h;cases κ with
 |none=>
  obtain⟨e,k,h1⟩:=zlt h;cases h1;exact⟨⟨e,k,x,he⟩,rfl⟩
 |some π=>
  obtain⟨e,k,h1⟩:=zlt h;exact⟨⟨M,x,e,k,he,h1⟩,rfl,rfl⟩
def mildB_eq{κ:Option (List Nat)}{ty:Ty}{u:Nat×Ent×Nat}(h:mildB κ ty (markU u).2=true):Mild κ ty u:=by
 unfold mildB at h;split at h;·cases h
 rename_i ty' M k he;unfold markU at he;simp only at he;split at he;case h_2=>cases he
 rename_i t M' x hu;cases he;simp only[xal,xak]at h;obtain⟨rfl,h⟩:=h;cases κ with
 |none=>simp only[xal,xeg,xak]at h;obtain⟨e,k,h1⟩:=zlt h.1;cases h1;exact⟨⟨e,k,x,hu⟩,h.2⟩
 |some π=>simp only[xal,xak]at h;obtain⟨e,k,h1⟩:=zlt h.1;exact⟨⟨M,x,e,k,hu,h1⟩,h.2⟩
def weakOK(σ:Env)(as:List (List Nat))(fs:List Foot):Bool:=fs.zipIdx.all λy=>match y.1.2.1 with
 |none=>true
 |some (r,ty,κ)=>tyAt σ r ty κ&&fs.zipIdx.all λx=>bif decide (y.2<x.2)&&(as.getD x.2 []).contains y.2 then true else x.1.2.2.all λq=>bif decide (q.1=r)then mildB κ ty q.2 else true
noncomputable def evOps {P:Program} {R:Type} (T:Tab) (FT:List (TgE P)) (ops:Array Oper):List An->List Oper->LEnv->List Foot->(LEnv->List Foot->Option R)->Option R
 |_,[],l,fs,k=>k l fs
 |ans,o::os,l,fs,k=>evOp T FT (ans.headD {}) ops o l λus l'=>forceL l' λl'=>evOps T FT ops ans.tail os l' (fs++[((zje (ans.headD {}) ops o (E l) us,us.map (·.1)),(zgz (ans.headD {}) o (E l) us,us.map markU))]) k
section
variable {P:Program} {c:Ctx} {T:Tab} {FT:List (TgE P)} {ops:Array Oper} {R:Type}
def zok{b:Bool}{x y:Option R}{r:R}(h:(bif b then x else y)=some r):(b=true/\x=some r)\/(b=false/\y=some r):=by
 cases b with
 |true=>exact .inl ⟨rfl,h⟩
 |false=>exact .inr ⟨rfl,h⟩
def cond_none{b:Bool}{x:Option R}{r:R}(h:(bif b then x else none)=some r):b=true/\x=some r:=(zok h).resolve_right λh=>by cases h.2
def zsd{l:LEnv}{t:Nat}{e:Ent}(h:(E l t).e=e):E (setL l t e 2)=E l:=by
 rw[E_setL];funext u;unfold zdv;split;·rename_i he;subst he;subst h;rfl
 ·rfl
def zoi{fl:Nat}{o:Oper}{ps:Ups}{l:LEnv}{k:Ups->LEnv->Option R}{r:R}(h:zwn T fl o ps l k=some r):∃us,zlm T fl o (zar (E l))=some (true,us)/\k (ps++us) (zpz us l)=some r:=by
 unfold zwn at h;split at h;case h_2=>cases h
 rename_i ob us hs;obtain⟨rfl,h2⟩:=cond_none h;exact⟨us,hs,h2⟩
def zjc:∀(us vs:Ups) (l:LEnv),zpz (us++vs) l=zpz vs (zpz us l)
 | [],_,_=>rfl
 |(_,_,_)::us,vs,_=>zjc us vs _
def evRun_ok{an:An}{o:Oper}{l:LEnv}{k:Ups->LEnv->Option R}{r:R}(h:evRun T FT an o l k=some r):∃us,Ok P T FT an o (E l) us/\k us (zpz us l)=some r:=by
 unfold evRun at h;split at h;case h_2=>cases h
 rename_i ps ha;split at h
 ·rename_i cc x y ho;split at h;case h_2=>cases h
  rename_i m b hb;split at h;·cases h
  rename_i hm;rw[ziz]at hb;rcases zok h with⟨rfl,h⟩|⟨rfl,h⟩
  ·obtain⟨us,h1,h2⟩:=zoi h;rw[ziz]at h1;exact⟨ps++us,⟨ps,ha,.inr (.inr ⟨cc,x,y,m,true,true,us,ho,hb,hm,h1,rfl,rfl⟩)⟩,by rw[zjc];exact h2⟩
  ·obtain⟨us,h1,h2⟩:=zoi h;rw[ziz]at h1;exact⟨ps++us,⟨ps,ha,.inr (.inr ⟨cc,x,y,m,false,true,us,ho,hb,hm,h1,rfl,rfl⟩)⟩,by rw[zjc];exact h2⟩
 ·obtain⟨us,h1,h2⟩:=zoi h;rw[ziz]at h1;exact⟨ps++us,⟨ps,ha,.inl ⟨true,us,h1,rfl,rfl⟩⟩,by rw[zjc];exact h2⟩
 ·split at h;case h_2=>cases h
  rename_i C hC;simp only[xbk]at h;obtain⟨y,h1,h2⟩:=h;split at h2;case h_2=>cases h2
  rename_i us hc;rw[ziz]at hC;exact⟨ps++us,⟨ps,ha,.inr (.inl ⟨C,y,us,hC,h1,hc,rfl⟩)⟩,by rw[zjc];exact h2⟩
 ·split at h;case h_2=>cases h
  rename_i C hC;simp only[xbk]at h;obtain⟨y,h1,h2⟩:=h;split at h2;case h_2=>cases h2
  rename_i us hc;rw[ziz]at hC;exact⟨ps++us,⟨ps,ha,.inr (.inl ⟨C,y,us,hC,h1,hc,rfl⟩)⟩,by rw[zjc];exact h2⟩
 ·obtain⟨us,h1,h2⟩:=zoi h;rw[ziz]at h1;exact⟨ps++us,⟨ps,ha,.inl ⟨true,us,h1,rfl,rfl⟩⟩,by rw[zjc];exact h2⟩
def evOp_ok{an:An}{o:Oper}{l:LEnv}{k:Ups->LEnv->Option R}{r:R}(h:evOp T FT an ops o l k=some r):∃us l',GOk P T FT an ops o (E l) us/\E l'=upd us (E l)/\k us l'=some r:=by
 unfold evOp at h;split at h;·rename_i hg;obtain⟨us,h1,h2⟩:=evRun_ok h;exact⟨us,_,.inl ⟨by unfold zcu;rw[hg],h1⟩,ziz _ _,h2⟩
 ·rename_i j want hg;split at h;case h_2=>cases h
  rename_i t d ht hd;split at h
  ·rename_i m b ha;split at h;·cases h
   rename_i hm;rcases zok h with⟨hb,h1⟩|⟨hb,h1⟩
   ·have hc:b=want:=by cases want<;>cases b<;>simp[eqB]at hb<;>rfl
    subst hc;obtain⟨us,h2,h3⟩:=evRun_ok h1;rw[zsd ha]at h2;refine⟨us,_,.inl ⟨?_,h2⟩,by rw[ziz,zsd ha],h3⟩;unfold zcu;rw[hg];simp[ht,ha,hm]
   ·have hc:b=!want:=by cases want<;>cases b<;>simp[eqB]at hb<;>rfl
    subst hc;refine⟨_,_,.inr ⟨?_,by rw[hd]⟩,?_,h1⟩;·unfold zcu;rw[hg];simp[ht,ha,hm]
    ·rw[E_setL,zsd ha];rfl
  ·rename_i ha;refine⟨_,_,.inr ⟨?_,by rw[hd]⟩,?_,h⟩;·unfold zcu;rw[hg];simp[ht,ha]
   ·rw[E_setL];rfl
  ·cases h
def ztj:∀(os:List Oper) (ans:List An) (l:LEnv) (fs:List Foot) {k:LEnv->List Foot->Option R} {r:R},evOps T FT ops ans os l fs k=some r ->
  ∃(uss:List Ups) (l':LEnv) (gs:List Foot),uss.length=os.length/\gs.length=os.length/\k l' (fs++gs)=some r/\E l'=uss.foldl (λσ u=>upd u σ) (E l) /\
   ∀(i:Nat) (o:Oper),os[i]?=some o->GOk P T FT (ans.getD i {}) ops o ((uss.take i).foldl (λσ u=>upd u σ) (E l)) (uss.getD i [])/\gs.getD i (([],[]),none,[])=((zje (ans.getD i {}) ops o ((uss.take i).foldl (λσ u=>upd u σ) (E l)) (uss.getD i []),(uss.getD i []).map (·.1)),zgz (ans.getD i {}) o ((uss.take i).foldl (λσ u=>upd u σ) (E l)) (uss.getD i []),(uss.getD i []).map markU)
 | [],ans,l,fs,k,r,h=>⟨[],l,[],rfl,rfl,by rw[xbn];exact h,rfl,λi o hi=>by simp at hi⟩
 |o::os,ans,l,fs,k,r,h=>by
  obtain⟨us,l1,h1,h2,h3⟩:=evOp_ok h;rw[forceL_eq]at h3;obtain⟨uss,l',gs,h4,h5,h6,h7,h8⟩:=ztj os ans.tail l1 _ h3;refine⟨us::uss,l',((zje (ans.headD {}) ops o (E l) us,us.map (·.1)),(zgz (ans.headD {}) o (E l) us,us.map markU))::gs,by simp[h4],by simp[h5],by simpa using h6,by rw[h7,h2];rfl,λi o' hi=>?_⟩;cases i with
  |zero=>
   simp at hi;subst hi;have:ans.getD 0 {}=ans.headD {}:=by cases ans<;>rfl
   rw[this];exact⟨h1,rfl⟩
  |succ i=>
   have:=h8 i o' (by simpa using hi);rw[h2]at this;have ht:ans.tail.getD i {}=ans.getD (i+1) {}:=by cases ans<;>rfl
   rw[ht]at this;exact this
def zoj(uss:List Ups)(σ:Env):∀k,k<=uss.length->zwp (λi=>uss.getD i []) (List.range k) σ=(uss.take k).foldl (λσ u=>upd u σ) σ
 | 0,_=>rfl
 |k+1,h=>by have ih:=zoj uss σ k (by omega);unfold zwp at ih ⊢;rw[xjv,xej,ih];have hk:uss[k]?=some uss[k]:=xaj (by omega);rw[xhd,hk,xej];simp[hk]
def InvOf.ext{σ:Env}{a:Act}{S:St}{w:World}(h:InvOf P c σ a S)(hw:Ext S.w w):InvOf P c σ a {S with w:=w}:=
 h.rebuild (S':={S with w:=w}) (λ_=>False) (λ_ _=>.inr rfl) h.defers h.size (λt _=>⟨rfl,rfl⟩) (λ_ h=>h.elim) (λ_ h=>h.elim) (λ_ h=>h) (λb hb=>hw.block b (h.wlt (.inl hb))) rfl (λb hb=>hw.block b (h.wlt (.inr (.inl hb)))) (λ_ _ _=>rfl)
  (λ_ _ b q hb=>⟨hb,hw.block b (h.owned b _ hb).1⟩) (λb hb=>⟨(h.shared b hb).1,xav (h.shared b hb).2.1 hw.size,(h.shared b hb).2.2⟩) (λb hb=>(h.borrowed b hb).1) (λb p hb=>⟨xav (h.owned b p hb).1 hw.size,(h.owned b p hb).2⟩)
  hw.os hw.tape hw.output hw.size (λb hb _=>hw.block b (xav hb h.grown))
def dstOut(ks:List Nat)(o:Oper):Bool:=match o.dst with | some d=>!ks.contains d | none=>true
def allWithin(N:Nat)(ks:List Nat)(l:List Oper):Bool:=l.all λo=>within N o&&dstOut ks o
noncomputable def zza {P:Program} {R:Type} (T:Tab) (FT:List (TgE P)) (draw:Bool) (ops:Array Oper) (fz:List (Nat×List Nat)) (ans:List An) (l:LEnv) (k:LEnv->Option R):Option R:=
 match zyd fz (E l)with
 |some ps=>match draw with
  |false=>evOps T FT ops ans ops.toList (zpz ps l) [] λl' _=>k l'
  |true=>evOps T FT ops ans ops.toList (zpz ps l) [] λl' fs=>match indep (ancs ops.toList) (fs.map (·.1))&&weakOK (E (zpz ps l)) (ancs ops.toList) fs with
   |true=>k l'
   |false=>none
 |none=>none
def evRegion_ok(hm:P.follows .mixedOrders=true)(hT:TabOK P T){id:Nat}{draw:Bool}{fz:List (Nat×List Nat)}{ans:List An}{l:LEnv}{k:LEnv->Option R}{r:R}{Q:Exit->Act->World->Prop}{a:Act}{w:World}{ks:List Nat}(hks:∀t,t∉ks->c.K t=none)(hN:allWithin c.N ks ops.toList=true)(hac:draw=true->acyc ops.toList=true)
  (h:zza T FT draw ops fz ans l k=some r) (hinv:InvK P c (E l) a w) (hk:∀l' a' w',k l'=some r->InvK P c (E l') a' w'->Q .normal a' w'):(Code.region id ops draw).wp P Q a w:=by
 unfold zza at h;split at h;case h_2=>cases h
 rename_i ps jr;have jg:∀o∈ops,within c.N o=true/\kept c o:=λo ho=>by have:=xbl.1 hN o (by simpa using ho);simp only[xal]at this;refine⟨this.1,λd hd=>hks d ?_⟩;have h2:=this.2;unfold dstOut at h2;rw[hd]at h2;simpa using h2
 have hinv:InvK P c _ a w:=⟨zkr hinv.1 jr,hinv.2⟩;rw[<-ziz]at hinv;generalize zpz ps l=l at h hinv;cases draw with
 |false=>
  simp only at h;obtain⟨uss,l',gs,h1,_,h2,h3,h4⟩:=ztj _ _ _ _ h;refine wp_region ?_;have key:∀(m k:Nat) (a:Act) (w:World),k+m=ops.size->InvK P c ((uss.take k).foldl (λσ u=>upd u σ) (E l)) a w->wpOps P ops Q (List.range' k m) a w:=by
   intro m;induction m with
   |zero=>intro k a w jv hi;have:uss.take k=uss:=xbg (by rw[h1,xcj];omega);rw[this]at hi;exact hk l' a w h2 (by rw[h3];exact hi)
   |succ m ih=>
    intro k a w hk hi;rw[List.range'_succ,wpOps_cons];have hv:k<ops.size:=by omega
    have ho:ops[k]?=some ops[k]:=xcf hv;have jc:=(h4 k ops[k] (by rw[xbe];exact ho)).1;have hw:=jg ops[k] (by simp);refine jc.wpOp ho hi hT hw.1 hw.2 λa' w' hi'=>ih (k+1) a' w' (by omega) ?_;have jm:k<uss.length:=by rw[h1,xcj];omega
    have hks:uss[k]?=some uss[k]:=xaj jm;rw[xhd,hks,xej];have hx:uss.getD k []=uss[k]:=by rw[xad,hks];rfl
    rw[hx]at hi';exact hi'
  have:=key ops.size 0 a w (by omega) hinv;rw[xjy];exact this
 |true=>
  simp only at h;obtain⟨uss,l',gs,h1,h2,h5,h3,h4⟩:=ztj _ _ _ _ h;rw[xdp]at h5;split at h5;case h_2=>cases h5
  rename_i hq;obtain⟨hy,hf⟩:=(xal _ _).mp hq;have jt:uss.length=ops.size:=by rw[h1,xcj]
  refine wp_region_any hm ?_;have Tx:Text P T FT (λi=>ans.getD i {}) c.N (kept c) ops (E l) (λi=>uss.getD i []) (λi=>(gs.getD i (([],[]),none,[])).1.1):=by
   refine⟨λk o ho=>?_,λk o r ty κ ho hs=>?_,λk o ho e he hb=>?_,λi k hz hk ⟨t,ht⟩=>?_⟩;·have hv:k<ops.size:=(xbm.1 ho).1;obtain⟨h5,h6⟩:=h4 k o (by rw[xbe];exact ho);rw[zoj uss _ k (by omega)];exact⟨h5,jg o (Array.mem_of_getElem? ho),by rw[h6]⟩
   ·have hv:k<ops.size:=(xbm.1 ho).1;rw[zoj uss _ k (by omega)]at hs;have h6:=(h4 k o (by rw[xbe];exact ho)).2;have hg:gs[k]?=some gs[k]:=xaj (by rw[h2,xcj];exact hv);have hx:gs.getD k (([],[]),none,[])=gs[k]:=by rw[xad,hg];rfl
    rw[hx]at h6;have h7:=xbl.1 hf (gs[k],k) (xfq.2 hg);have h8:(gs[k]).2.1=some (r,ty,κ):=by rw[h6];exact hs
    simp only[h8,xal]at h7;obtain⟨h9,jj⟩:=h7;refine⟨tyAt_eq h9,λj hj hjk u hu hur=>?_⟩;have jn:ops[j]?=some ops[j]:=xcf hj;have jf:=(h4 j ops[j] (by rw[xbe];exact jn)).2;have je:gs[j]?=some gs[j]:=xaj (by rw[h2,xcj];exact hj);have jb:gs.getD j (([],[]),none,[])=gs[j]:=by rw[xad,je];rfl
    rw[jb]at jf;have ja:=xbl.1 jj (gs[j],j) (xfq.2 je);have hp:(decide (k<j)&&((ancs ops.toList).getD j []).contains k)=false:=by
     rcases hjk with hjk|hjk
     ·simp;omega
     ·rw[show((ancs ops.toList).getD j []).contains k=false from by rw[List.contains_eq_mem];exact xah hjk,Bool.and_false]
    simp only[hp,xaf]at ja;have ju:(gs[j]).2.2=(uss.getD j []).map markU:=by rw[jf]
    rw[ju]at ja;have jh:=xbl.1 ja (markU u) (xdx.2 ⟨u,hu,rfl⟩);have jk:(markU u).1=r:=hur;rw[jk,xae rfl,xab]at jh;exact mildB_eq jh
   ·have:=xbl.1 (hac rfl) (o,k) (by rw[xfq];simpa using ho)
    simp only at this;have:=Array.all_eq_true_iff_forall_mem.1 this e he;simpa[hb]using this
   ·have hg:gs[k]?=some gs[k]:=xaj (by rw[h2,xcj];exact hk);have jd:gs[i]?=some gs[i]:=xaj (by rw[h2,xcj];omega);have ji:=xbl.1 hy ((gs[k]).1,k) (xfq.2 (by rw[xci,hg];rfl));simp only at ji;have h0:=xbl.1 ji ((gs[i]).1,i) (xfq.2 (by rw[xdv,if_pos hz,xci,jd];rfl));simp only at h0;have jc:ops[k]?=some ops[k]:=xcf hk;have jo:ops[i]?=some ops[i]:=xcf (by omega);have js:=(h4 k _ (by rw[xbe];exact jc)).2;have jl:=(h4 i _ (by rw[xbe];exact jo)).2;have hn:gs.getD k (([],[]),none,[])=gs[k]:=by rw[xad,hg];rfl
    have hc:gs.getD i (([],[]),none,[])=gs[i]:=by rw[xad,jd];rfl
    have hs:wr (λi=>uss.getD i []) k=gs[k].1.2:=by rw[<-hn,js];rfl
    have jp:wr (λi=>uss.getD i []) i=gs[i].1.2:=by rw[<-hc,jl];rfl
    rw[hn,hc,hs,jp]at ht;have hr:meets gs[i].1 gs[k].1=true:=by
     unfold meets;rcases ht with⟨h5,h6⟩|⟨h5,h6⟩|⟨h5,h6⟩
     ·have:gs[i].1.1.any (gs[k].1.2.contains ·)=true:=xjl.2 ⟨t,h5,by simpa using h6⟩;simp[-List.any_eq_true,-List.contains_eq_mem,this]
     ·have:gs[i].1.2.any (gs[k].1.1.contains ·)=true:=xjl.2 ⟨t,h5,by simpa using h6⟩;simp[-List.any_eq_true,-List.contains_eq_mem,this]
     ·have:gs[i].1.2.any (gs[k].1.2.contains ·)=true:=xjl.2 ⟨t,h5,by simpa using h6⟩;simp[-List.any_eq_true,-List.contains_eq_mem,this]
    rw[hr]at h0;simpa using h0
  obtain⟨⟨S,hS,hi⟩,hz⟩:=hinv;have ha:∀(k:Nat) (d:Bool),k<ops.size->(Array.replicate ops.size false).getD k d=false:=λk d hk=>by simp[hk]
  have hh:((List.range ops.size).filter λk=>!(Array.replicate ops.size false).getD k true)=List.range ops.size:=by rw[xgn];intro k hk;rw[xcm]at hk;rw[ha k true hk];rfl
  refine order_any hT Tx (λa' w' hfin=>hk l' a' w' h5 ?_) ops.size _ a _ (by simp) (by rw[hh,List.length_range]) (λk o ho hl=>?_) ?_;·rw[h3];rw[zoj uss _ ops.size (by omega),xbg (by omega)]at hfin;exact hfin
  ·rw[ha k false (xbm.1 ho).1]at hl;cases hl
  ·have jq:zeh ops.size (Array.replicate ops.size false)=[]:=by unfold zeh;rw[xgu];intro k hk;rw[xcm]at hk;rw[ha k false hk];simp
   rw[jq];exact⟨⟨_,rfl,(hi.ext (by rw[hS];exact⟨rfl,rfl,rfl,xag _,λ_ _=>rfl⟩))⟩,hz⟩
end
def zqr{α β:Type}(f:α->Option (α⊕β)):Nat->α->Option β
 | 0,_=>none
 |n+1,a=>match f a with
  |some (.inl a')=>zqr f n a'
  |some (.inr b)=>some b
  |none=>none
open Classical in
noncomputable def whileD {α β:Type} (f:α->Option (α⊕β)) (a:α):Option β:=
 if h:∃n b,zqr f n a=some b then some (Classical.choose (xdw h))else none
def whileX:∃W:(α β:Type)->(α->Option (α⊕β))->α->Option β,∀(α β:Type) (f:α->Option (α⊕β)) (a:α),W α β f a=whileD f a:=⟨λ_ _ f a=>whileD f a,λ_ _ _ _=>rfl⟩
noncomputable def zac {α β:Type} (f:α->Option (α⊕β)) (a:α):Option β:=Classical.choose whileX α β f a
def whileO_eq{α β:Type}(f:α->Option (α⊕β))(a:α):zac f a=whileD f a:=xdw whileX α β f a
def zrr{α β:Type}{f:α->Option (α⊕β)}{a:α}{b:β}(h:zac f a=some b):∃n,zqr f n a=some b:=by
 rw[whileO_eq]at h;unfold whileD at h;split at h;·rename_i hx;cases h;exact⟨_,xdw (xdw hx)⟩
 ·cases h
def iterO_det{α β:Type}{f:α->Option (α⊕β)}:∀{n m:Nat} {a:α} {b b':β},zqr f n a=some b->zqr f m a=some b'->b=b'
 | 0,_,_,_,_,h,_=>by cases h
 |_+1,0,_,_,_,_,h=>by cases h
 |n+1,m+1,a,b,b',h,h'=>by
  simp only[zqr]at h h';split at h;·rename_i a' heq;rw[heq]at h';exact iterO_det h h'
  ·rename_i c heq;rw[heq]at h';cases h;cases h';rfl
  ·cases h
def whileO_of{α β:Type}{f:α->Option (α⊕β)}{a:α}{b:β}{n:Nat}(h:zqr f n a=some b):zac f a=some b:=by have hx:∃n b,zqr f n a=some b:=⟨n,b,h⟩;rw[whileO_eq];unfold whileD;rw[dif_pos hx];exact xbr some (iterO_det (xdw (xdw hx)) h)
def zlj{α β:Type}{f:α->Option (α⊕β)}{a a':α}{b:β}(h:f a=some (.inl a'))(h':zac f a'=some b):zac f a=some b:=by obtain⟨n,hn⟩:=zrr h';exact whileO_of (n:=n+1) (by simp only[zqr,h];exact hn)
def zgu{α β:Type}{f:α->Option (α⊕β)}{a:α}{b:β}(h:f a=some (.inr b)):zac f a=some b:=whileO_of (n:=1) (by simp only[zqr,h])
def zbl{α β R:Type}(f:α->β)(g:(α->β)->Option R):Option R:=g f
inductive JE where
 |v (t:Ty) (m:Md)
 |ref (r:Nat) (π:List Nat)
 |view (r:Nat) (π:List Nat)
 |rbox (r:Nat) (π:List Nat)
 |refi (r:Nat) (π ρ:List Nat)
def cutP:List Nat->List Nat->Option (Nat×List Nat)
 | [],n::ρ=>some (n,ρ)
 |a::π,b::τ=>if a=b then cutP π τ else none
 |_,[]=>none
def cutP_some:∀{π τ:List Nat} {n:Nat} {ρ:List Nat},cutP π τ=some (n,ρ)->τ=π++n::ρ
 | [],[],_,_,h=>by cases h
 | [],m::τ,n,ρ,h=>by cases h;rfl
 |a::π,[],_,_,h=>by cases h
 |a::π,b::τ,n,ρ,h=>by
  simp only[cutP]at h;split at h;·rename_i hab;subst hab;rw[cutP_some h];rfl
  ·cases h
abbrev JS:=List (Nat×JE)
@[reducible] def jtys:JS->List Ty
 | []=>[]
 |(_,.v t _)::js=>t::jtys js
 |(_,.ref _ _)::js=>jtys js
 |(_,.view _ _)::js=>jtys js
 |(_,.rbox _ _)::js=>jtys js
 |(_,.refi _ _ _)::js=>.int .i64::jtys js
def absJ:(js:JS)->LEnv->Option (zek (jtys js))
 | [],_=>some ()
 |(s,.v t m)::js,l=>match(E l s).e with
  | .v t' m' x=>if leM t' m' m then match TV.to ⟨t',x⟩ t,absJ js l with
   |some y,some ys=>some (y,ys)
   |_,_=>none else none
  |_=>none
 |(s,.ref r π)::js,l=>match(E l s).e,(E l r).e with
  | .ref r' π' s',.v t _ _=>if r'=r/\π'=π/\zri (E l r) t π s'=true then absJ js l else none
  |_,_=>none
 |(s,.rbox r π)::js,l=>match(E l s).e,(E l r).e with
  | .rbox r' π' s',.v t _ _=>if r'=r/\π'=π/\zri (E l r) t π s'=true then absJ js l else none
  |_,_=>none
 |(s,.view r π)::js,l=>match(E l s).e,(E l r).e with
  | .view r' π' s',.v _ _ _=>if r'=r/\π'=π/\(E l r).h=s' then absJ js l else none
  |_,_=>none
 |(s,.refi r π ρ)::js,l=>match(E l s).e,(E l r).e with
  | .ref r' π' s',.v t _ _=>match cutP π π' with
   |some (n,ρ')=>if r'=r/\ρ'=ρ/\zri (E l r) t π' s'=true then match absJ js l with
    |some ys=>some ((n:Int),ys)
    |none=>none else none
   |none=>none
  |_,_=>none
def mkJ:(js:JS)->zek (jtys js)->LEnv
 | [],_=>[]
 |(s,.v t m)::js,x=>(s,⟨.v t m x.1,0,0⟩)::mkJ js x.2
 |(s,.ref r π)::js,x=>(s,⟨.ref r π 0,0,0⟩)::mkJ js x
 |(s,.view r π)::js,x=>(s,⟨.view r π 0,0,0⟩)::mkJ js x
 |(s,.rbox r π)::js,x=>(s,⟨.rbox r π 0,0,0⟩)::mkJ js x
 |(s,.refi r π ρ)::js,x=>(s,⟨.ref r (π++Int.toNat x.1::ρ) 0,0,0⟩)::mkJ js x.2
def zou:(ts:List Ty)->zek ts->Ret ts
 | [],_=>()
 | [_],x=>x.1
 |_::s::ts,x=>(x.1,zou (s::ts) x.2)
def zep:∀(ts:List Ty) (x:zek ts),Ret.vals ts (zou ts x)=x
 | [],_=>rfl
 | [_],_=>rfl
 |_::s::ts,x=>by show(x.1,Ret.vals (s::ts) (zou (s::ts) x.2))=x;rw[zep (s::ts) x.2]
def JOK(l:LEnv)(t:Nat)(s:Slot):Prop:=
 s.g=0/\s.h=0/\match s.e with
 | .dead=>True
 | .v ty m x=>∃m0,(E l t).e=.v ty m0 x/\leM ty m0 m=true
 | .ref r π n=>n=0/\∃s0 tr mr xr,(E l t).e=.ref r π s0/\(E l r).e=.v tr mr xr/\zri (E l r) tr π s0=true
 | .view r π n=>n=0/\∃s0,(E l t).e=.view r π s0/\(E l r).h=s0
 | .rbox r π n=>n=0/\∃s0 tr mr xr,(E l t).e=.rbox r π s0/\(E l r).e=.v tr mr xr/\zri (E l r) tr π s0=true
 |_=>False
def zpy:∀{js:JS} {l:LEnv} {v:zek (jtys js)},absJ js l=some v->∀t,JOK l t (E (mkJ js v) t)
 | [],l,v,h,t=>⟨rfl,rfl,trivial⟩
 |(s,.v ty m)::js,l,v,h,t=>by
  simp only[absJ]at h;split at h;case h_2=>cases h
  rename_i t' m' x heq;split at h;case isFalse=>cases h
  rename_i hl;split at h;case h_2=>cases h
  rename_i y ys h1 h2;cases h;have:=TV.to_some h1;cases this;simp only[mkJ,E];split;·rename_i ha;subst ha;exact⟨rfl,rfl,m',heq,hl⟩
  ·exact zpy h2 t
 |(s,.ref r π)::js,l,v,h,t=>by
  simp only[absJ]at h;split at h;case h_2=>cases h
  rename_i r' π' s' ty m x h1 h2;split at h;case isFalse=>cases h
  rename_i hc;obtain⟨rfl,rfl,hc⟩:=hc;simp only[mkJ,E];split;·rename_i ha;subst ha;exact⟨rfl,rfl,rfl,s',ty,m,x,h1,h2,hc⟩
  ·exact zpy h t
 |(s,.rbox r π)::js,l,v,h,t=>by
  simp only[absJ]at h;split at h;case h_2=>cases h
  rename_i r' π' s' ty m x h1 h2;split at h;case isFalse=>cases h
  rename_i hc;obtain⟨rfl,rfl,hc⟩:=hc;simp only[mkJ,E];split;·rename_i ha;subst ha;exact⟨rfl,rfl,rfl,s',ty,m,x,h1,h2,hc⟩
  ·exact zpy h t
 |(s,.view r π)::js,l,v,h,t=>by
  simp only[absJ]at h;split at h;case h_2=>cases h
  rename_i r' π' s' ty m x h1 h2;split at h;case isFalse=>cases h
  rename_i hc;obtain⟨rfl,rfl,hc⟩:=hc;simp only[mkJ,E];split;·rename_i ha;subst ha;exact⟨rfl,rfl,rfl,s',h1,hc⟩
  ·exact zpy h t
 |(s,.refi r π ρ)::js,l,v,h,t=>by
  simp only[absJ]at h;split at h;case h_2=>cases h
  rename_i r' π' s' ty m x h1 h2;split at h;case h_2=>cases h
  rename_i n ρ' hb;split at h;case isFalse=>cases h
  rename_i hc;obtain⟨rfl,rfl,hc⟩:=hc;split at h;case h_2=>cases h
  rename_i ys h3;cases h;have:=cutP_some hb;subst this;simp only[mkJ,E];split;·rename_i ha;subst ha;exact⟨rfl,rfl,rfl,s',ty,m,x,h1,h2,hc⟩
  ·exact zpy h3 t
inductive XK where
 |brk (n:Nat) | ret
def XK.is:XK->Exit->Bool
 | .brk n,.exit m=>decide (n=m)
 | .ret,.ret=>true
 |_,_=>false
def XK.exit:XK->Exit
 | .brk n=>.exit n
 | .ret=>.ret
def XK.is_exit{x:XK}{e:Exit}(h:x.is e=true):x.exit=e:=by cases x<;>cases e<;>simp[XK.is]at h<;>first | rfl | (subst h;rfl)
inductive Plan where
 |nil
 |reg (fz:List (Nat×List Nat)) (ans:List An)
 |seq (a b:Plan)
 |join (a:Plan) (js:JS) (b:Plan)
 |cond (a b:Plan)
 |block (a:Plan)
 |loop (js:JS) (outs:List (XK×JS)) (a:Plan)
 |frz (fz:List (Nat×List Nat)) (a:Plan)
 |post (a:Plan) (fz:List (Nat×List Nat))
@[reducible] def JOut:List (XK×JS)->Type
 | []=>Empty
 | [x]=>Ret (jtys x.2)
 |x::y::r=>Ret (jtys x.2)⊕JOut (y::r)
def outJ:(outs:List (XK×JS))->Exit->LEnv->Option (JOut outs)
 | [],_,_=>none
 | [x],e,l=>if x.1.is e then(absJ x.2 l).map (zou _)else none
 |x::y::r,e,l=>if x.1.is e then(absJ x.2 l).map λv=>.inl (zou _ v)else(outJ (y::r) e l).map .inr
def sumE{α β γ:Type}(f:α->γ)(g:β->γ):α⊕β->γ
 | .inl a=>f a
 | .inr b=>g b
def contO{R:Type}(k:Exit->LEnv->Option R):(outs:List (XK×JS))->JOut outs->Option R
 | []=>λ_=>none
 | [x]=>λv=>k x.1.exit (mkJ x.2 (Ret.vals _ v))
 |x::y::r=>sumE (λv=>k x.1.exit (mkJ x.2 (Ret.vals _ v))) (contO k (y::r))
noncomputable def ev {P:Program} (T:Tab) (FT:List (TgE P)):Plan->Code->(R:Type)->LEnv->(Exit->LEnv->Option R)->Option R
 | .frz fz p,x,R,l,k=>match zyd fz (E l)with
  |some ps=>ev T FT p x R (zpz ps l) k
  |none=>none
 | .post p fz,x,R,l,k=>ev T FT p x R l λe l'=>match zyd fz (E l')with
  |some ps=>k e (zpz ps l')
  |none=>none
 | .nil,.skip,_,l,k=>k .normal l
 | .nil,.exit id,_,l,k=>k (.exit id) l
 | .nil,.ret,_,l,k=>k .ret l
 | .reg fz ans,.region _ ops draw,_,l,k=>zza T FT draw ops fz ans l (k .normal)
 | .seq p q,.seq x y,R,l,k=>ev T FT p x R l λe l'=>match e with
  | .normal=>ev T FT q y R l' k
  |e=>k e l'
 | .join p js q,.seq x y,R,l,k=>zbl (λv=>ev T FT q y R (mkJ js (Ret.vals _ v)) k) λj=>ev T FT p x R l λe l'=>match e with
  | .normal=>match absJ js l' with
   |some v=>j (zou _ v)
   |none=>none
  |e=>k e l'
 | .cond p q,.cond o x y,R,l,k=>match(zar (E l) o).val .bool with
  |some (m,b)=>if m=.dead then none else bif b then ev T FT p x R l k else ev T FT q y R l k
  |none=>none
 | .block p,.block id x,R,l,k=>ev T FT p x R l λe l'=>match e with
  | .exit i=>if i=id then k .normal l' else k (.exit i) l'
  |e=>k e l'
 | .loop js outs p,.loop x,_,l,k=>match absJ js l with
  |some v0=>(zac (λv=>ev T FT p x (Ret (jtys js)⊕JOut outs) (mkJ js (Ret.vals _ v)) λe l'=>match e with
    | .normal=>(absJ js l').map λv=>.inl (zou _ v)
    |e=>(outJ outs e l').map .inr) (zou _ v0)).bind λo=>contO k outs o
  |none=>none
 |_,_,_,_,_=>none
def zgn(N:Nat)(ks:List Nat):Code->Bool
 | .region _ ops d=>allWithin N ks ops.toList&&(!d||acyc ops.toList)
 | .seq x y=>zgn N ks x&&zgn N ks y
 | .cond _ x y=>zgn N ks x&&zgn N ks y
 | .block _ x=>zgn N ks x
 | .loop x=>zgn N ks x
 |_=>true
section
variable {P:Program} {c:Ctx} {T:Tab} {FT:List (TgE P)} {a:Act} {w:World}
def Inv.join{js:JS}{l:LEnv}{v:zek (jtys js)}(h:absJ js l=some v)(hi:Inv P c (E l) a w):Inv P c (E (mkJ js v)) a w:=by
 obtain⟨S,hS,hi⟩:=hi;have hj:=zpy h;refine⟨S,hS,hi.defers,hi.size,λt=>?_,λt=>by rw[(hj t).1];exact xbx _,hi.lent,hi.shared,hi.shared0,hi.borrowed,hi.owned,hi.os,hi.tape,hi.output,hi.grown,hi.kept⟩;obtain⟨h1,h2,h3⟩:=hj t;have ho:=hi.slots t;unfold SlotOK at ho ⊢;generalize(E (mkJ js v) t).e=e at h3 ⊢;cases e with
 |dead=>trivial
 |v ty m x=>
  obtain⟨m0,h4,h5⟩:=h3;rw[h4]at ho;exact⟨ho.1.weaken h5,ho.2⟩
 |ref r π n=>
  obtain⟨rfl,s0,tr,mr,xr,h4,h5,h6⟩:=h3;rw[h4]at ho;refine⟨xbx _,λt' m x hx _=>?_⟩;obtain⟨_,_,h7⟩:=hj r;rw[hx]at h7;obtain⟨m0,h8,_⟩:=h7;rw[h5]at h8;cases h8;exact ho.2 _ _ _ h5 (zrh.1 h6)
 |view r π n=>
  obtain⟨rfl,s0,h4,h5⟩:=h3;rw[h4]at ho;refine⟨xbx _,λt' m x hx _=>?_⟩;obtain⟨_,_,h7⟩:=hj r;rw[hx]at h7;obtain⟨m0,h8,_⟩:=h7;exact ho.2 _ _ _ h8 h5
 |tup=>exact h3.elim
 |clo=>exact h3.elim
 |mth=>exact h3.elim
 |tail=>exact h3.elim
 |rbox r π n=>
  obtain⟨rfl,s0,tr,mr,xr,h4,h5,h6⟩:=h3;rw[h4]at ho;obtain⟨b,u,g1,g2,g3,g4⟩:=ho;refine⟨b,u,g1,g2,g3,xbx _,λt' m x hx _=>?_⟩;obtain⟨_,_,h7⟩:=hj r;rw[hx]at h7;obtain⟨m0,h8,_⟩:=h7;rw[h5]at h8;cases h8;exact g4.2 _ _ _ h5 (zrh.1 h6)
 |skip=>exact h3.elim
def ziw{R:Type}:∀{outs:List (XK×JS)} {e:Exit} {l:LEnv} {o:JOut outs} {k:Exit->LEnv->Option R} {r:R},outJ outs e l=some o->contO k outs o=some r->InvK P c (E l) a w->∃l',k e l'=some r/\InvK P c (E l') a w
 | [],_,_,o,_,_,_,_,_=>o.elim
 | [x],e,l,o,k,r,h,hc,hi=>by
  simp only[outJ]at h;split at h;case isFalse=>cases h
  rename_i hx;simp only[xac]at h;obtain⟨v,h1,rfl⟩:=h;simp only[contO,sumE,zep,XK.is_exit hx]at hc;exact⟨_,hc,hi.1.join h1,hi.2⟩
 |x::y::r',e,l,o,k,r,h,hc,hi=>by
  simp only[outJ]at h;split at h;·rename_i hx;simp only[xac]at h;obtain⟨v,h1,rfl⟩:=h;simp only[contO,sumE,zep,XK.is_exit hx]at hc;exact⟨_,hc,hi.1.join h1,hi.2⟩
  ·simp only[xac]at h;obtain⟨v,h1,rfl⟩:=h;simp only[contO,sumE]at hc;exact ziw h1 hc hi
def ev_sound(hm:P.follows .mixedOrders=true)(hT:TabOK P T){ks:List Nat}(hks:∀t,t∉ks->c.K t=none):∀(p:Plan) (x:Code) (R:Type) (l:LEnv) (k:Exit->LEnv->Option R) (r:R) (Q:Exit->Act->World->Prop) (a:Act) (w:World),zgn c.N ks x=true->ev T FT p x R l k=some r->InvK P c (E l) a w ->
  (∀e l' a' w',k e l'=some r->InvK P c (E l') a' w'->Q e a' w')->x.wp P Q a w:=by
 intro p;induction p with
 |frz fz p ih=>
  intro x R l k r Q a w ha h hi hk;simp only[ev]at h;split at h;case h_2=>cases h
  rename_i ps hh;refine ih x R _ k r Q a w ha h ?_ hk;rw[ziz];exact⟨zkr hi.1 hh,hi.2⟩
 |post p fz ih=>
  intro x R l k r Q a w ha h hi hk;simp only[ev]at h;refine ih x R l _ r Q a w ha h hi λe l' a' w' h1 h2=>?_;split at h1;case h_2=>cases h1
  rename_i ps hh;refine hk _ _ _ _ h1 ?_;rw[ziz];exact⟨zkr h2.1 hh,h2.2⟩
 |nil=>intro x R l k r Q a w ha h hi hk;cases x<;>simp only[ev]at h<;>first | (cases h;done) | exact wp_skip (hk _ _ _ _ h hi) | exact wp_exit (hk _ _ _ _ h hi) | exact wp_ret (hk _ _ _ _ h hi)
 |reg fz ans=>
  intro x R l k r Q a w ha h hi hk;cases x<;>simp only[ev]at h<;>first | (cases h;done) | skip
  simp only[zgn,xal]at ha;exact evRegion_ok hm hT hks ha.1 (λhd=>by subst hd;simpa using ha.2) h hi λl' a' w' h1 h2=>hk _ _ _ _ h1 h2
 |seq p q ihx ihy=>
  intro x R l k r Q a w ha h hi hk;cases x<;>simp only[ev]at h<;>first | (cases h;done) | skip
  simp only[zgn,xal]at ha;refine wp_seq (ihx _ R l _ r _ a w ha.1 h hi λe l' a' w' h1 h2=>?_);cases e with
  |normal=>exact ihy _ R l' k r Q a' w' ha.2 h1 h2 hk
  |_=>exact hk _ _ _ _ h1 h2
 |join p js q ihx ihy=>
  intro x R l k r Q a w ha h hi hk;cases x<;>simp only[ev]at h<;>first | (cases h;done) | skip
  simp only[zgn,xal]at ha;unfold zbl at h;refine wp_seq (ihx _ R l _ r _ a w ha.1 h hi λe l' a' w' h1 h2=>?_);cases e with
  |normal=>
   simp only at h1;split at h1;case h_2=>cases h1
   rename_i v hv;rw[zep]at h1;exact ihy _ R _ k r Q a' w' ha.2 h1 ⟨h2.1.join hv,h2.2⟩ hk
  |_=>exact hk _ _ _ _ h1 h2
 |cond p q ihx ihy=>
  intro x R l k r Q a w ha h hi hk;cases x<;>simp only[ev]at h<;>first | (cases h;done) | skip
  simp only[zgn,xal]at ha;split at h;case h_2=>cases h
  rename_i m b hb;split at h;·cases h
  rename_i hj;obtain⟨S,_,hl⟩:=hi.1;obtain⟨z,hv⟩:=hl.val hb;have hf:=hv.bool_inv hj;rcases zok h with⟨rfl,h⟩|⟨rfl,h⟩
  ·exact wp_cond hf (ihx _ R l k r Q a w ha.1 h hi hk)
  ·exact wp_cond hf (ihy _ R l k r Q a w ha.2 h hi hk)
 |block p ih=>
  intro x R l k r Q a w ha h hi hk;cases x<;>simp only[ev]at h<;>first | (cases h;done) | skip
  simp only[zgn]at ha;refine wp_block (ih _ R l _ r _ a w ha h hi λe l' a' w' h1 h2=>?_);cases e with
  |exit i=>
   simp only[Exit.inBlock];simp only at h1;split;·rename_i he;rw[if_pos he]at h1;exact hk _ _ _ _ h1 h2
   ·rename_i he;rw[if_neg he]at h1;exact hk _ _ _ _ h1 h2
  |_=>exact hk _ _ _ _ h1 h2
 |loop js outs p ih=>
  intro x R l k r Q a w ha h hi hk;cases x<;>simp only[ev]at h<;>first | (cases h;done) | skip
  rename_i x;simp only[zgn]at ha;split at h;case h_2=>cases h
  rename_i v0 ho;simp only[xbk]at h;obtain⟨o,hw,hc⟩:=h;obtain⟨n,hn⟩:=zrr hw;refine wp_loop_rounds n ?_;have key:∀(n:Nat) (v:zek (jtys js)) (a:Act) (w:World),zqr (λv=>ev T FT p x (Ret (jtys js)⊕JOut outs) (mkJ js (Ret.vals _ v)) λe l'=>match e with
    | .normal=>(absJ js l').map λv=>.inl (zou _ v)
    |e=>(outJ outs e l').map .inr) n (zou _ v)=some o->InvK P c (E (mkJ js v)) a w->Code.rounds P x Q n a w:=by
   intro n;induction n with
   |zero=>intro v a w hv _;cases hv
   |succ n ihn=>
    intro v a w hv hi;simp only[zqr]at hv;rw[rounds_succ];split at hv
    ·rename_i v' hg;rw[zep]at hg;refine ih x _ _ _ _ _ a w ha hg hi λe l' a' w' h1 h2=>?_;cases e with
     |normal=>simp only[xac,Sum.inl.injEq]at h1;obtain⟨u,h3,rfl⟩:=h1;exact ihn u a' w' hv ⟨h2.1.join h3,h2.2⟩
     |_=>simp at h1
    ·rename_i o' hg;rw[zep]at hg;cases hv;refine ih x _ _ _ _ _ a w ha hg hi λe l' a' w' h1 h2=>?_;cases e with
     |normal=>simp at h1
     |exit i=>simp only[xac,xjh]at h1;obtain⟨u,h3,rfl⟩:=h1;obtain⟨l2,h4,h5⟩:=ziw h3 hc h2;exact hk _ _ _ _ h4 h5
     |goto i=>simp only[xac,xjh]at h1;obtain⟨u,h3,rfl⟩:=h1;obtain⟨l2,h4,h5⟩:=ziw h3 hc h2;exact hk _ _ _ _ h4 h5
     |ret=>simp only[xac,xjh]at h1;obtain⟨u,h3,rfl⟩:=h1;obtain⟨l2,h4,h5⟩:=ziw h3 hc h2;exact hk _ _ _ _ h4 h5
     |panic i=>simp only[xac,xjh]at h1;obtain⟨u,h3,rfl⟩:=h1;obtain⟨l2,h4,h5⟩:=ziw h3 hc h2;exact hk _ _ _ _ h4 h5
     |outgrown=>simp only[xac,xjh]at h1;obtain⟨u,h3,rfl⟩:=h1;obtain⟨l2,h4,h5⟩:=ziw h3 hc h2;exact hk _ _ _ _ h4 h5
    ·cases hv
  exact key n v0 a w hn ⟨hi.1.join ho,hi.2⟩
end
inductive TG where
 |res (j:Nat) | out (k:Nat)
 deriving DecidableEq
def TG.pl:TG->Place
 | .res j=>(0,[j])
 | .out k=>(k+1,[])
def tgOf:Place->Option (TG×List Nat)
 |(0,[])=>none
 |(0,j::ρ)=>some (.res j,ρ)
 |(k+1,ρ)=>some (.out k,ρ)
def tgOf_pl(g:TG)(ρ:List Nat):tgOf (pa g.pl ρ)=some (g,ρ):=by cases g<;>simp[TG.pl,pa,tgOf]
structure Mv where
 s:Nat
 π:List Nat
 g:TG
def byS:List Mv->Nat->Option Mv
 | [],_=>none
 |m::ms,s=>if s=m.s then some m else byS ms s
def byT:List Mv->TG->Option Mv
 | [],_=>none
 |m::ms,g=>if g=m.g then some m else byT ms g
def okM:List Mv->Bool
 | []=>true
 |m::ms=>(byS ms m.s).isNone&&(byT ms m.g).isNone&&okM ms
def byS_none{ms:List Mv}{s:Nat}(h:byS ms s=none):∀m∈ms,m.s≠s:=by
 induction ms with
 |nil=>simp
 |cons x ms ih=>
  simp only[byS]at h;split at h;·cases h
  ·rename_i ha;intro m hm;rcases xar.1 hm with rfl|hm
   ·exact λe=>ha e.symm
   ·exact ih h m hm
def byT_none{ms:List Mv}{g:TG}(h:byT ms g=none):∀m∈ms,m.g≠g:=by
 induction ms with
 |nil=>simp
 |cons x ms ih=>
  simp only[byT]at h;split at h;·cases h
  ·rename_i ha;intro m hm;rcases xar.1 hm with rfl|hm
   ·exact λe=>ha e.symm
   ·exact ih h m hm
def byS_mem{ms:List Mv}(h:okM ms=true){m:Mv}(hm:m∈ms):byS ms m.s=some m:=by
 induction ms with
 |nil=>cases hm
 |cons x ms ih=>
  simp only[okM,xal,xfk]at h;simp only[byS];rcases xar.1 hm with rfl|hm
  ·rw[if_pos rfl]
  ·rw[if_neg (byS_none h.1.1 _ hm),ih h.2 hm]
def byT_mem{ms:List Mv}(h:okM ms=true){m:Mv}(hm:m∈ms):byT ms m.g=some m:=by
 induction ms with
 |nil=>cases hm
 |cons x ms ih=>
  simp only[okM,xal,xfk]at h;simp only[byT];rcases xar.1 hm with rfl|hm
  ·rw[if_pos rfl]
  ·rw[if_neg (byT_none h.1.2 _ hm),ih h.2 hm]
def St.ret(S:St)(ms:List Mv):St where
 w:=S.w
 F:=S.F
 B:=S.B
 own b:=match S.own b with
  |some z=>match byS ms z.1 with
   |some m=>(cut m.π z.2).map λρ=>pa m.g.pl ρ
   |none=>none
  |none=>none
 hv z:=match tgOf z with
  |some (g,ρ)=>match byT ms g with
   |some m=>S.hv (pa (m.s,m.π) ρ)
   |none=>S.hv z
  |none=>S.hv z
def retTr{S:St}{ms:List Mv}(h:okM ms=true){m:Mv}(hm:m∈ms):Tr true S (S.ret ms) (m.s,m.π) m.g.pl where
 F _ h:=h
 sF _ _:=rfl
 B _ _ h:=.inr h
 sB _ _ _:=rfl
 hv r:=by simp only[St.ret,tgOf_pl,byT_mem h hm]
 own b r hb:=⟨by simp only[St.ret,hb,pa,byS_mem h hm,cut_app,xch],rfl⟩
def zxw{S:St}{ms:List Mv}{b:Nat}(h:S.own b=none):(S.ret ms).own b=none:=by simp[St.ret,h]
def ret_some{S:St}{ms:List Mv}{b:Nat}{z:Place}(h:(S.ret ms).own b=some z):∃y,S.own b=some y:=by
 cases ho:S.own b with
 |none=>rw[zxw ho]at h;cases h
 |some y=>exact⟨y,rfl⟩
def retL(T:Tab)(l:LEnv):Nat->(rs:List (Ty×Md))->List ResultVar->Option (zek (tys rs)×List Mv)
 |_,[],[]=>some ((),[])
 |j,(t,m)::rs,.tmp s::vs=>match(E l s).e with
  | .v t' m' x=>if leM t' m' m then match TV.to ⟨t',x⟩ t,retL T l (j+1) rs vs with
   |some y,some (ys,ms)=>some ((y,ys),⟨s,[],.res j⟩::ms)
   |_,_=>none else none
  |_=>none
 |j,(t,m)::rs,.cell s d::vs=>match(E l s).e,tl T d with
  | .v (.ptr u) (.own _ m') x,some (_,u')=>if u'=u/\leM u m' m=true then match TV.to ⟨u,x⟩ t,retL T l (j+1) rs vs with
   |some y,some (ys,ms)=>some ((y,ys),⟨s,[0],.res j⟩::ms)
   |_,_=>none else none
  |_,_=>none
 |_,_,_=>none
def outL(l:LEnv):Nat->(ps:List (Ty×PM))->Option (zek (tys (zgc ps))×List Mv)
 |_,[]=>some ((),[])
 |k,(t,.io m)::ps=>match(E l k).e with
  | .v t' m' x=>if leM t' m' m then match TV.to ⟨t',x⟩ t,outL l (k+1) ps with
   |some y,some (ys,ms)=>some ((y,ys),⟨k,[],.out k⟩::ms)
   |_,_=>none else none
  |_=>none
 |k,(_,.bw)::ps=>outL l (k+1) ps
 |k,(_,.sh)::ps=>outL l (k+1) ps
 |k,(_,.give _)::ps=>outL l (k+1) ps
def joinV:(a b:List Ty)->zek a->zek b->zek (a++b)
 | [],_,_,y=>y
 |_::a,b,x,y=>(x.1,joinV a b x.2 y)
def zow:∀(a b:List Ty) (x:zek a) (y:zek b),zsa a b (joinV a b x y)=(x,y)
 | [],_,_,_=>rfl
 |_::a,b,x,y=>by simp only[joinV,zsa,zow a b x.2 y]
def fin(T:Tab)(sg:Sig)(vs:List ResultVar)(l:LEnv):Option (Ret sg.res):=
 match retL T l 0 sg.rs vs,outL l 0 sg.ps with
 |some (x,ms),some (y,ms')=>bif okM (ms++ms')then some (zou _ (joinV _ _ x y))else none
 |_,_=>none
def initL:Nat->List TM->LEnv
 |_,[]=>[]
 |k,e::es=>(k,⟨.v e.t e.m e.x,0,0⟩)::initL (k+1) es
def zzq:∀(es:List TM) (k t:Nat),E (initL k es) t=match es[t-k]? with | some e=>if k<=t then⟨.v e.t e.m e.x,0,0⟩else⟨.dead,0,0⟩ | none=>⟨.dead,0,0⟩
 | [],k,t=>by simp[initL,E]
 |e::es,k,t=>by
  have ih:=zzq es (k+1) t;simp only[initL,E];by_cases hk:t=k;·subst hk;simp
  ·rw[if_neg hk,ih];by_cases hlt:k<t
   ·have:t-k=(t-(k+1))+1:=by omega
    rw[this,xfc];have h1:k+1<=t:=hlt;have h2:k<=t:=by omega
    simp only[h1,h2,if_true]
   ·have h1:¬k+1<=t:=by omega
    have h2:¬k<=t:=by omega
    simp only[h1,h2,xcg];split<;>split<;>rfl
section
variable {P:Program} {c:Ctx} {T:Tab} {FT:List (TgE P)} {a:Act} {S:St} {l:LEnv}
def rv(tmps:Array Value):ResultVar->Sem Value
 | .tmp t=>pure (tmps.getD t undef)
 | .cell a t=>do loadVar t (<-asAddr (tmps.getD a undef))
def zpa(h:InvOf P c (E l) a S)(hT:TabOK P T):∀{vs:List ResultVar} {rs:List (Ty×Md)} {j:Nat} {x:zek (tys rs)} {ms:List Mv},retL T l j rs vs=some (x,ms) ->
  ∃us:List Value,us.length=rs.length/\(vs.mapM (rv a.tmps)).run P S.w=.ok us S.w /\
   ∀(k:Nat) (e:TM),(tms rs x)[k]?=some e->∃m,m∈ms/\m.g=TG.res (j+k)/\∃u,us[k]?=some u/\SR P e.t S e.m (m.s,m.π) e.x u
 | [],[],j,x,ms,hx=>⟨[],rfl,rfl,λk e hk=>by simp[tms]at hk⟩
 | [],_::_,j,x,ms,hx=>by simp[retL]at hx
 |v::vs,[],j,x,ms,hx=>by cases v<;>simp[retL]at hx
 | .tmp s::vs,(t,m)::rs,j,x,ms,hx=>by
  simp only[retL]at hx;split at hx;case h_2=>cases hx
  rename_i t' m' y he;split at hx;case isFalse=>cases hx
  rename_i hl;split at hx;case h_2=>cases hx
  rename_i z zs ms' h1 h2;cases hx;have:=TV.to_some h1;cases this;obtain⟨us,h3,h4,h5⟩:=zpa h hT h2;have hs:=h.slot he;refine⟨tmv a s::us,by simp[h3],?_,λk e hk=>?_⟩;·simp only[xhh,rv,Sem.run_bind,h4,Sem.run_pure,Result.andThen_ok];rfl
  ·cases k with
   |zero=>simp only[tms,xet,xaq]at hk;subst hk;exact⟨_,xcz,rfl,_,rfl,hs.1.weaken hl,hs.2⟩
   |succ k=>simp only[tms,xfc]at hk;obtain⟨m,h6,h7,h8⟩:=h5 k e hk;exact⟨m,xan _ h6,by rw[h7];congr 1;omega,h8⟩
 | .cell s d::vs,(t,m)::rs,j,x,ms,hx=>by
  simp only[retL]at hx;split at hx;case h_2=>cases hx
  rename_i u e' m' y i u' he ht;split at hx;case isFalse=>cases hx
  rename_i hc;obtain⟨rfl,hl⟩:=hc;split at hx;case h_2=>cases hx
  rename_i z zs ms' h1 h2;cases hx;have:=TV.to_some h1;cases this;obtain⟨us,h3,h4,h5⟩:=zpa h hT h2;obtain⟨⟨h6,g,cur,e1,h7,h8,h9,hi,hf⟩,_⟩:=h.slot he;have hb:blk S.w g 0=λi=>cur[i]?:=by rw[zlh h9];funext i;rw[xck]
  rw[<-hb]at hf;obtain⟨v,hh,hg,hj⟩:=zqx hT ht hf;have hd:a.tmps.getD s undef=.pointer (some ⟨g,0,none⟩):=by
   have:zab (.ptr t) (tmv a s) 0=some (tmv a s):=by simp[zab,Ty.agg]
   rw[this,h7]at h6;exact xbi h6
  refine⟨v::us,by simp[h3],?_,λk e hk=>?_⟩
  ·have ha:(rv a.tmps (.cell s d)).run P S.w=.ok v S.w:=by show(do loadVar d (<-asAddr (a.tmps.getD s undef)):Sem Value).run P S.w=_;rw[hd];simpa[Instr.loadAt,Instr.sureAddr,asAddr]using hh
   simp only[xhh,Sem.run_bind,ha,h4,Sem.run_pure,Result.andThen_ok]
  ·cases k with
   |zero=>simp only[tms,xet,xaq]at hk;subst hk;exact⟨_,xcz,rfl,_,rfl,hg.1.weaken hl,hg.2⟩
   |succ k=>simp only[tms,xfc]at hk;obtain⟨m,h6,h7,h8⟩:=h5 k e hk;exact⟨m,xan _ h6,by rw[h7];congr 1;omega,h8⟩
def results_rv(fn:Func)(tmps:Array Value){us:List Value}{w:World}(h:(fn.results.toList.mapM (rv tmps)).run P w=.ok us w) :
  (results fn tmps).run P w=.ok (if h:us.length=1 then us[0]else .tuple us.toArray) w:=by
 have e1:results fn tmps=(do
   let vs<-fn.results.mapM (rv tmps)
   pure (if h:vs.size=1 then vs[0]else .tuple vs)):=by
  unfold results;congr 1
 rw[e1,Array.mapM_eq_mapM_toList];simp only[Sem.run_bind,Sem.run_map,h,Result.andThen_ok,Sem.run_pure];congr 1
def zio(h:InvOf P c (E l) a S):∀{ps:List (Ty×PM)} {k:Nat} {x:zek (tys (zgc ps))} {ms:List Mv},outL l k ps=some (x,ms) ->
  ∀(i:Nat) (e:TM),(i,e)∈outTM k ps x->∃m,m∈ms/\m.g=TG.out i/\m.s=i/\SR P e.t S e.m (m.s,m.π) e.x (tmv a i)
 | [],k,x,ms,hx,i,e,hi=>by cases hi
 |(t,.io m)::ps,k,x,ms,hx,i,e,hi=>by
  simp only[outL]at hx;split at hx;case h_2=>cases hx
  rename_i t' m' y he;split at hx;case isFalse=>cases hx
  rename_i hl;split at hx;case h_2=>cases hx
  rename_i z zs ms' h1 h2;cases hx;have:=TV.to_some h1;cases this;rcases xar.1 hi with h3|h3
  ·cases h3;have hs:=h.slot he;exact⟨_,xcz,rfl,rfl,hs.1.weaken hl,hs.2⟩
  ·obtain⟨m,h4,h5⟩:=zio h h2 i e h3;exact⟨m,xan _ h4,h5⟩
 |(t,.bw)::ps,k,x,ms,hx,i,e,hi=>zio h (ps:=ps) (k:=k+1) hx i e hi
 |(t,.sh)::ps,k,x,ms,hx,i,e,hi=>zio h (ps:=ps) (k:=k+1) hx i e hi
 |(t,.give _)::ps,k,x,ms,hx,i,e,hi=>zio h (ps:=ps) (k:=k+1) hx i e hi
end
def ioKs:Nat->List (Ty×PM)->List Nat
 |_,[]=>[]
 |k,(_,.io _)::ps=>k::ioKs (k+1) ps
 |k,(_,.bw)::ps=>ioKs (k+1) ps
 |k,(_,.sh)::ps=>ioKs (k+1) ps
 |k,(_,.give _)::ps=>ioKs (k+1) ps
def out_ks:∀{ps:List (Ty×PM)} {k:Nat} {x:zek (tys (zgc ps))} {i:Nat} {e:TM},(i,e)∈outTM k ps x->i∈ioKs k ps/\i<k+ps.length
 | [],k,x,i,e,h=>by cases h
 |(t,.io m)::ps,k,x,i,e,h=>by
  rcases xar.1 h with h|h
  ·cases h;exact⟨xcz,by simp⟩
  ·obtain⟨h1,h2⟩:=out_ks h;exact⟨xan _ h1,by simp;omega⟩
 |(t,.bw)::ps,k,x,i,e,h=>by obtain⟨h1,h2⟩:=out_ks (ps:=ps) (k:=k+1) h;exact⟨h1,by simp;omega⟩
 |(t,.sh)::ps,k,x,i,e,h=>by obtain⟨h1,h2⟩:=out_ks (ps:=ps) (k:=k+1) h;exact⟨h1,by simp;omega⟩
 |(t,.give _)::ps,k,x,i,e,h=>by obtain⟨h1,h2⟩:=out_ks (ps:=ps) (k:=k+1) h;exact⟨h1,by simp;omega⟩
def zsm:∀(ps:List (Ty×PM)) (x:zek (zft ps)),(zkg ps x).length=ps.length
 | [],_=>rfl
 |_::ps,x=>by simp[zkg,zsm ps x.2]
def zuz:∀(rs:List (Ty×Md)) (x:zek (tys rs)),(tms rs x).length=rs.length
 | [],_=>rfl
 |_::rs,x=>by simp[tms,zuz rs x.2]
def cur{r:Type}:(ts:List Ty)->(zek ts->r)->Arr ts r
 | [],f=>f ()
 |_::ts,f=>λx=>cur ts λy=>f (x,y)
noncomputable def evF {P:Program} (T:Tab) (FT:List (TgE P)) (sg:Sig) (vs:List ResultVar) (code:Code) (plan:Plan) (xs:zek (zft sg.ps)):Option (Ret sg.res):=
 ev T FT plan code (Ret sg.res) (initL 0 (zkg sg.ps xs)) λe l=>match e with
  | .normal=>fin T sg vs l
  | .ret=>fin T sg vs l
  |_=>none
section
variable {P:Program} {T:Tab} {FT:List (TgE P)}
def zeg(hm:P.follows .mixedOrders=true)(hT:TabOK P T){f:FuncId}{fn:Func}{code:Code}(hf:P.funcs[f]?=some fn)(hb:fn.body=some code)(hcall:zdn P f){sg:Sig}(hlen:sg.ps.length<=fn.ntmps)
  (hok:zgn fn.ntmps (ioKs 0 sg.ps) code=true) (plan:Plan) (den:Arr (zft sg.ps) (Option (Ret sg.res))) (h:∀xs y,app _ den xs=some y->evF T FT sg fn.results.toList code plan xs=some y):Sim P f sg den:=by
 refine⟨hcall,λxs y hy S hS vs hvs hargs=>?_⟩;have h0:=h xs y hy;unfold evF at h0;rw[zsm]at hvs;let c:Ctx:=⟨S.w,S.F,S.B,λb=>S.own b≠none,fn.ntmps,λt=>if t∈ioKs 0 sg.ps then vs[t]? else none⟩;refine calls_of_wp hf hb ?_;have hw:∀t v,vs[t]?=some v->tmv {tmps:=vs.toArray++Array.replicate (fn.ntmps-vs.toArray.size) undef,defers:=[]} t=v:=λt v hv=>by have jc:t<vs.length:=(xei.1 hv).1;unfold tmv;rw[xfe,Array.getElem?_append_left (by simpa using jc)];simp[hv]
 have hs:InvOf P c (E (initL 0 (zkg sg.ps xs))) {tmps:=vs.toArray++Array.replicate (fn.ntmps-vs.toArray.size) undef,defers:=[]} S:=by
  refine⟨rfl,by simp only[Array.size_append,Array.size_replicate,xeh,hvs];exact Nat.add_sub_cancel' hlen,λt=>?_,λt=>?_,rfl,λb hb=>⟨(hS.shared b hb).1,(hS.shared b hb).2,.inl hb⟩,λb hb=>hb,
   λb hb=>⟨(hS.borrowed b hb).1,(hS.borrowed b hb).2,λhn=>hn (hS.borrowed b hb).1⟩,λb p hp=>⟨hS.owned b p hp,.inr (show S.own b≠none by rw[hp];simp)⟩,rfl,rfl,rfl,xag _,λ_ _ _=>rfl⟩
  ·cases he:(zkg sg.ps xs)[t]? with
   |none=>unfold SlotOK;rw[zzq];simp only[xir,he]
   |some e=>
    obtain⟨v,h1,h2⟩:=hargs t e he;refine .v (t:=e.t) (m:=e.m) (x:=e.x) (by rw[zzq];simp only[xir,he,xbx,if_true]) ?_;rw[hw t v h1];exact h2
  ·rw[zzq];split;·split<;>exact xag _
   ·exact xag _
 have hi:InvK P c (E (initL 0 (zkg sg.ps xs))) {tmps:=vs.toArray++Array.replicate (fn.ntmps-vs.toArray.size) undef,defers:=[]} S.w:=by
  refine⟨⟨S,rfl,hs⟩,λt v hv=>?_⟩;have hq:(if t∈ioKs 0 sg.ps then vs[t]? else none)=some v:=hv;split at hq;·exact hw t v hq
  ·cases hq
 have key:∀(l:LEnv) (a':Act) (w':World),fin T sg fn.results.toList l=some y->InvK P c (E l) a' w'->bodyPost P fn (λe w'=>∃v S',e=.returned v/\S'.w=w'/\Frm S S'/\ResOK P S' (sg.resTM y) v /\
   ∀(k:Nat) (e:TM),(k,e)∈sg.outTM y->∃u,vs[k]?=some u/\SR P e.t S' e.m (k+1,[]) e.x u) .ret a' w':=λl a' w' ha hK=>by
  obtain⟨⟨S1,rfl,h1⟩,hh⟩:=hK;unfold fin at ha;split at ha;case h_2=>cases ha
  rename_i x ms x' ms' hr hu;obtain⟨hg,ha⟩:=cond_none ha;cases ha;obtain⟨us,h2,h3,h4⟩:=zpa h1 hT hr;have h5:=zio h1 hu;have ho:sg.resTM (zou _ (joinV _ _ x x'))=tms sg.rs x:=by unfold Sig.resTM;rw[zep,zow]
  have hd:sg.outTM (zou _ (joinV _ _ x x'))=outTM 0 sg.ps x':=by unfold Sig.outTM;rw[zep,zow]
  have hc:∀(k:Nat) (e:TM),(tms sg.rs x)[k]?=some e->∃u,us[k]?=some u/\SR P e.t (S1.ret (ms++ms')) e.m (0,[k]) e.x u:=λk e hk=>by obtain⟨m,h6,h7,u,h8,h9⟩:=h4 k e hk;have hT:=retTr (S:=S1) hg (m:=m) (xdq _ h6);rw[h7]at hT;have hj:=h9.mono (.inl rfl) hT;rw[xck]at hj;exact⟨u,h8,hj⟩
  refine⟨h1.defers,_,results_rv fn a'.tmps h3,_,S1.ret (ms++ms'),rfl,rfl,⟨h1.shared0,h1.lent,λb hb=>?_,λb hb=>?_,λb p hp=>?_,h1.os,h1.tape,h1.output,h1.grown,λb hb hn=>h1.kept b hb λh=>h hn⟩,?_,λk e he=>?_⟩;·obtain⟨h6,h7,h8⟩:=h1.shared b hb;exact⟨zxw h6,h7,h8⟩
  ·exact zxw (h1.borrowed b hb).1
  ·obtain⟨z,hz⟩:=ret_some hp;exact h1.owned b z hz
  ·rw[ho];have hlen:us.length=(tms sg.rs x).length:=by rw[h2,zuz]
   generalize tms sg.rs x=rs at hc hlen;match rs,hc,hlen with
   | [],hc,hlen=>
    rw[dif_neg (by rw[hlen];simp)]
    exact⟨_,rfl,by simpa using hlen,λk e hk=>by simp at hk⟩
   | [e],hc,hlen=>
    have hl:us.length=1:=by simpa using hlen
    rw[dif_pos hl]
    obtain⟨u,h6,h7⟩:=hc 0 e rfl
    have:us[0]=u:=by have:=xaj (l:=us) (i:=0) (by omega);rw[this]at h6;exact xbi h6
    rw[this]
    exact h7
   |e::e'::rs,hc,hlen=>
    rw[dif_neg (by rw[hlen];simp)]
    exact⟨_,rfl,by simpa using hlen,λk e hk=>by obtain⟨u,h6,h7⟩:=hc k e hk;exact⟨u,by simpa using h6,h7⟩⟩
  ·rw[hd]at he;obtain⟨m,h6,h7,h8,h9⟩:=h5 k e he;have hT:=retTr (S:=S1) hg (m:=m) (xic _ h6);rw[h7]at hT;obtain⟨hj,jd⟩:=out_ks he;have jb:k<vs.length:=by rw[hvs];omega
   have hx:vs[k]?=some vs[k]:=xaj jb;have ja:c.K k=some vs[k]:=by show(if k∈ioKs 0 sg.ps then vs[k]? else none)=_;rw[if_pos hj];exact hx
   refine⟨_,hx,?_⟩;rw[<-hh k _ ja];exact h9.mono (.inl rfl) hT
 refine ev_sound (c:=c) hm hT (ks:=ioKs 0 sg.ps) (λt ht=>by show(if t∈ioKs 0 sg.ps then vs[t]? else none)=none;rw[if_neg ht]) plan code _ _ _ y _ _ _ hok h0 hi λe l a' w' h1 h2=>?_;cases e with
 |normal=>exact key l a' w' h1 h2
 |ret=>exact key l a' w' h1 h2
 |_=>cases h1
end
end Go.X
