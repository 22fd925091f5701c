/- A part of the proof. -/
import Derived.Test.YtamgmpngdmnadaaGreatJ1
set_option linter.defProp false
set_option linter.unusedSimpArgs false
set_option linter.unusedVariables false
namespace Go.X
open Go Go.RowKit
abbrev Ups:=List (Nat×Ent×Nat)
def upd:Ups->Env->Env
 | [],σ=>σ
 |(t,e,k)::r,σ=>upd r (zdv σ t e k)
structure An where
 frz:List (Nat×List Nat):=[]
 fl:Nat:=0
 args:List Nat:=[]
 deriving Inhabited
def allocU(T:Tab)(d t:Nat):Option Ups:=
 match tl T t with
 |some (i,u)=>(cval u i.zero).map λz=>[(d,.v (.ptr u) (.own 0 .sh) z,0)]
 |none=>none
def boxU(T:Tab)(d t:Nat)(x:Opd):Option Ups:=
 match tl T t with
 |some (_,u)=>match x.val u with
  |some (m,y)=>if m.noown then some [(d,.v (.ptr u) (.own 0 (nm u m)) y,0)]else none
  |none=>none
 |none=>none
def storeU(T:Tab)(t:Nat)(A V:Opd):Option Ups:=
 match tl T t,A.place with
 |some (_,u),some p=>match zcc p.π p.t p.x with
  |some old=>if old.t=u/\0<u.size then match V.val u with
   |some (m,y)=>if m.noown then match zfl p.π p.t p.m m,zkf p.π p.t p.x ⟨u,y⟩with
     |some m',some x'=>some [(p.r,.v p.t m' x',2)]
     |_,_=>none else match V with
     | .slot s cc _=>match cc.e with
      | .v t' k z=>if s=p.r\/t'≠u then none else match zfl p.π p.t p.m k,zkf p.π p.t p.x ⟨t',z⟩with
       |some m',some x'=>some [(s,.dead,0),(p.r,.v p.t m' x',1)]
       |_,_=>none
      |_=>none
     |_=>none
   |none=>none else none
  |none=>none
 |_,_=>none
def asgU(T:Tab)(ty d:Nat)(o:Opd):Option Ups:=
 match o with
 | .slot s cc root=>match cc.e with
  | .v t m x=>if m.noown then some [(d,.v t m x,0)]else if s=d then none else some [(s,.dead,0),(d,.v t m x,0)]
  | .view r π s'=>match root.e with
   | .v tr mr xr=>if root.h=s' then
     match zbr π tr mr,zcc π tr xr with
     |some (.own e k),some ⟨.slice u,y⟩=>
      if r=d then(if π=[]then some []else none)else
      if π=[]then some [(r,.dead,0),(d,.v (.slice u) (.own e k) y,0)]else
      match zfl π tr mr .dead with
      |some m'=>some [(r,.v tr m' xr,2),(d,.v (.slice u) (.own e k) y,0)]
      |none=>none
     |_,_=>none else none
   |_=>none
  | .tup es=>if s=d then none else some [(s,.dead,0),(d,.tup es,0)]
  |_=>(zjh T ty o).map λe=>[(d,e,0)]
 |_=>(zjh T ty o).map λe=>[(d,e,0)]
def extU(d i:Nat)(o:Opd):Option Ups:=
 match o with
 | .slot s cc _=>match cc.e with
  | .tup es=>if s=d then none else match es[i]? with
   |some e=>if e.m.noown then some [(d,.v e.t e.m e.x,0)]else some [(s,.tup (es.set i ⟨e.t,.dead,e.x⟩),0),(d,.v e.t e.m e.x,0)]
   |none=>none
  |_=>none
 |_=>none
section
variable {P:Program} {c:Ctx} {σ:Env} {a:Act} {S:St} {T:Tab}
def zyh(h:InvOf P c σ a S):S.own S.w.heap.size=none:=by
 cases ho:S.own S.w.heap.size with
 |none=>rfl
 |some p=>exact absurd (h.owned _ p ho).1 (Nat.lt_irrefl _)
def fut2_ext(h:InvOf P c σ a S){S':St}(hw:Ext S.w S'.w)(hF:S'.F=S.F)(hB:S'.B=S.B):Fut2 S S':=
 ⟨λb hb=>⟨by rw[hF];exact hb,hw.block b (h.wlt (.inl hb))⟩,λb hb=>⟨.inr (by rw[hB];exact hb),hw.block b (h.wlt (.inr (.inl hb)))⟩⟩
def InvOf.newBox(h:InvOf P c σ a S){d:Nat}(hd:d<c.N){u:Ty}{m:Md}{y:u.den}{v:Value}{p:Place}(hs:SR P u S m p y v)(hm:m.noown=true)(E:TypeId) :
  ∃S',S'.w=S.w.alloc (.cells v.cells E)/\InvOf P c (zdv σ d (.v (.ptr u) (.own 0 m) y) 0) (a.put (some d) (.pointer (some ⟨S.w.heap.size,0,none⟩))) S':=by
 let S':St:={S with w:=S.w.alloc (.cells v.cells E),own:=λb=>if b=S.w.heap.size then some (d,[])else S.own b,hv:=λz=>if z=(d,[])then .pointer (some ⟨S.w.heap.size,0,none⟩)else S.hv z};have ha:Ext S.w S'.w:=Ext.alloc _ _;obtain⟨hf,hc,_⟩:=zbw hs;refine⟨S',rfl,h.put ha rfl rfl hd (λt ht q=>if_neg (λhe=>ht (by cases he;rfl))) (λb=>?_) ?_⟩
 ·by_cases hb:b=S.w.heap.size;·subst hb;exact .inr ⟨zyh h,xag _,by show _<(S.w.alloc _).heap.size;simp⟩
  ·exact .inl (if_neg hb)
 ·refine .v (zbs σ d _ 0) ?_;rw[zak (by rw[h.size];exact hd)];refine⟨⟨?_,S.w.heap.size,v.cells,E,if_pos rfl,if_pos rfl,heap_alloc_new S.w _,hf,?_⟩,λh=>by cases h⟩;·show zab (.ptr u) _ 0=some (if(d,([]:List Nat))=(d,[])then _ else _);rw[if_pos rfl];simp[zab,Ty.agg]
  ·exact hs.1.free hm (fut2_ext h ha rfl rfl) hc
def alloc_sound(h:InvOf P c σ a S)(hT:TabOK P T){d t:Nat}(hd:d<c.N){us:Ups}(hx:allocU T d t=some us) :
  ∃v w',(Instr.alloc t true (.tuple #[])).run P S.w=.ok v w'/\Inv P c (upd us σ) (a.put (some d) v) w':=by
 unfold allocU at hx;split at hx;case h_2=>cases hx
 rename_i i u ht;simp only[xac]at hx;obtain⟨z,hz,rfl⟩:=hx;obtain⟨hb,_,_,_⟩:=hT.kind ht;obtain⟨j,dd,hi,hc,ha,_⟩:=zbj hb;obtain⟨S',h1,h2⟩:=h.newBox hd (zdd (P:=P) (S:=S) (p:=(0,[])) hz) rfl t;refine⟨_,_,?_,S',h1,h2⟩;simp[Instr.alloc,zeroValue,typeInfo,hi,ha,newVar,newRow]
def box_sound(h:InvOf P c σ a S){d t:Nat}(hd:d<c.N){x:Operand}{us:Ups}(hx:boxU T d t (zar σ x)=some us) :
  ∃v w',(Instr.box t (a.eval x)).run P S.w=.ok v w'/\Inv P c (upd us σ) (a.put (some d) v) w':=by
 unfold boxU at hx;split at hx;case h_2=>cases hx
 rename_i i u ht;split at hx;case h_2=>cases hx
 rename_i m y hv;split at hx;case isFalse=>cases hx
 rename_i hm;cases hx;obtain⟨p,hs⟩:=h.val hv;obtain⟨S',h1,h2⟩:=h.newBox hd (zno hs) (znp hm) t;refine⟨_,_,?_,S',h1,h2⟩;simp[Instr.box,newVar,newRow]
def Rel.fits{u:Ty}{m:Md}{p:Place}{y:u.den}{w:World}{b off:Nat}{cur:Array Value}{e:TypeId}(h:Rel P u S m p y (blk w b off))(hb:w.heap[b]?=some (.cells cur e (0,0)))(h0:off<=cur.size):off+u.size<=cur.size:=by
 rcases xdf u.size with hz|hz
 ·omega
 ·obtain⟨v,h1,_⟩:=h.cells (u.size-1) (by omega);rw[zlh hb]at h1;have:off+(u.size-1)<cur.size:=by
   rcases xeo (off+(u.size-1)) cur.size with h'|h'
   ·exact h'
   ·have ha:cur[off+(u.size-1)]?=some v:=h1;rw[xfz h']at ha;cases ha
  omega
def zgv:∀{π:List Nat} {t:Ty} {m k m':Md},zfl π t m k=some m'->∃k0,zbr π t m=some k0
 | [],_,m,_,_,_=>⟨m,rfl⟩
 |i::π,.pair a b,m,k,m',h=>by
  match i with
  | 0=>simp only[zfl,xac]at h;obtain⟨_,h1,_⟩:=h;exact zgv (t:=a) h1
  | 1=>simp only[zfl,xac]at h;obtain⟨_,h1,_⟩:=h;exact zgv (t:=b) h1
  |i+2=>simp[zfl]at h
 |i::π,.arr n t,m,k,m',h=>by rw[zxu]at h;simp only[xbk]at h;obtain⟨_,h1,_⟩:=h;rw[modeP_arr];exact zgv h1
 |i::π,.slice t,m,k,m',h=>by obtain⟨e,j,rfl⟩:=zmd h;rw[zvi]at h;simp only[xbk]at h;obtain⟨_,h1,_⟩:=h;rw[modeP_slice];exact zgv h1
 |i::π,.ptr t,m,k,m',h=>by
  match i with
  | 0=>
   cases m<;>first | (simp[zfl]at h;done) | skip
   simp only[zfl,xac]at h
   obtain⟨_,h1,_⟩:=h
   exact zgv (t:=t) h1
  |i+1=>cases m<;>simp[zfl]at h
 |_::_,.int _,_,_,_,h=>by simp[zfl]at h
 |_::_,.bool,_,_,_,h=>by simp[zfl]at h
 |_::_,.str,_,_,_,h=>by simp[zfl]at h
 |_::_,.unit,_,_,_,h=>by simp[zfl]at h
 |_::_,.fn1 _ _,_,_,_,h=>by simp[zfl]at h
 |_::_,.fn2 _ _ _,_,_,_,h=>by simp[zfl]at h
 |_::_,.alt _ _ _,_,_,_,h=>by simp[zfl]at h
 |_::_,.nilI,_,_,_,h=>by simp[zfl]at h
def store_sound(h:InvOf P c σ a S)(hT:TabOK P T){t:Nat}{A V:Operand}{us:Ups}(hx:storeU T t (zar σ A) (zar σ V)=some us) :
  ∃w',(Instr.storeAt t (a.eval A) (a.eval V)).run P S.w=.ok () w'/\Inv P c (upd us σ) a w':=by
 unfold storeU at hx;split at hx;case h_2=>cases hx
 rename_i i u p ht hp;split at hx;case h_2=>cases hx
 rename_i old hg;split at hx;case isFalse=>cases hx
 rename_i ha;obtain⟨ho,hi,_,_⟩:=hT.kind ht;obtain⟨hr,hc,hπ,hk,_⟩:=h.place hp;have run:∀{q:List Nat} {off b:Nat} {cur:Array Value} {e:TypeId} {v:Value} {k:Md} {y:u.den} {pl:Place},S.w.heap[b]?=some (.cells cur e (0,0))->off+u.size<=cur.size->SR P u S k pl y v ->
   (Instr.storeAt t (.pointer (some ⟨b,off,none⟩)) v).run P S.w=.ok () (S.w.setRow b (splice cur off v.cells.toList)):=λ{q off b cur e v k y pl} hb hfit hs=>by
  obtain⟨h1,_,h3⟩:=zbw hs;exact run_storeAt ho hb (by rw[h1,hi]) (by rw[hi];exact hfit) h3
 have part:∀{k m':Md},zfl p.π p.t p.m k=some m'->∃(q:List Nat) (off b:Nat) (cur:Array Value) (e:TypeId),zbo p.π p.t=some (some q,off)/\hvB (S.hv (p.r,q))=some b/\S.own b=some (p.r,q)/\S.w.heap[b]?=some (.cells cur e (0,0))/\a.eval A=.pointer (some ⟨b,off,none⟩)/\off+u.size<=cur.size:=λ{k m'} hm=>by
  obtain⟨k0,hl⟩:=zgv hm;obtain⟨u',y',q,off,b,cur,e,h1,h2,h3,h4,h5,h6,h7⟩:=h.partAt hp hl;rw[hg]at h1;cases h1;simp only at ha;obtain⟨ha,hz⟩:=ha;subst ha;refine⟨q,off,b,cur,e,h2,h3,h4,h5,h6,?_⟩;obtain⟨v,h8,_⟩:=h7.cells 0 hz;rw[zlh h5]at h8;have hj:cur[off+0]?=some v:=h8;exact h7.fits h5 (by
   rcases xeo off cur.size with h'|h'
   ·exact xgk h'
   ·rw[xdl,xfz h']at hj;cases hj)
 split at hx;case h_2=>cases hx
 rename_i m y hv;split at hx
 ·rename_i hm;split at hx;case h_2=>cases hx
  rename_i m' x' hd hh;cases hx;obtain⟨q,off,b,cur,e,h2,h3,h4,h5,h6,h7⟩:=part hd;obtain⟨pl,hs⟩:=h.val hv;rw[h6];exact⟨_,run (q:=q) h5 h7 hs,_,rfl,h.store hr h2 hk h3 h4 h5 hd hh h7 hs hm⟩
 ·cases V with
  |const v=>simp[zar]at hx
  |func f=>simp[zar]at hx
  |global g=>simp[zar]at hx
  |tmp s=>
   simp only[zar]at hx;split at hx;case h_2=>cases hx
   rename_i t' k z he;split at hx;·cases hx
   rename_i hf;simp only[not_or,ne_eq,xhe]at hf;obtain⟨hf,hn⟩:=hf;subst hn;split at hx;case h_2=>cases hx
   rename_i m' x' hd hh;cases hx;obtain⟨q,off,b,cur,e,h2,h3,h4,h5,h6,h7⟩:=part hd;rw[h6,zbf];exact⟨_,run (q:=q) h5 h7 (h.slot he),_,rfl,h.give hr he hf h2 hk hπ h3 h4 h5 hd hh h7⟩
def zya(a:Act)(r:Nat):a.put (some r) (tmv a r)=a:=by
 have:a.tmps.setIfInBounds r (tmv a r)=a.tmps:=by
  apply Array.ext_getElem?;intro i;rw[Array.getElem?_setIfInBounds];split
  ·rename_i h;subst h;split;·rename_i h;unfold tmv;rw[xfe,xcf h];rfl
   ·rename_i h;rw[xfz (by omega)]
  ·rfl
 show({a with tmps:=a.tmps.setIfInBounds r (tmv a r)}:Act)=a;rw[this]
def zuj(h:InvOf P c σ a S){ty d:Nat}(hd:d<c.N){o:Operand}{us:Ups}(hx:asgU T ty d (zar σ o)=some us):∃S1,S1.w=S.w/\S1.F=S.F/\S1.B=S.B/\InvOf P c (upd us σ) (a.put (some d) (a.eval o)) S1:=by
 have mvE:∀{o:Operand} {us:Ups},(zjh T ty (zar σ o)).map (λe=>[(d,e,0)])=some us->∃S1,S1.w=S.w/\S1.F=S.F/\S1.B=S.B/\InvOf P c (upd us σ) (a.put (some d) (a.eval o)) S1:=λ{o us} hx=>by simp only[xac]at hx;obtain⟨e,h1,rfl⟩:=hx;exact⟨S,rfl,rfl,rfl,h.putE hd (h.move_sound h1)⟩
 cases o with
 |const v=>exact mvE hx
 |func f=>exact mvE hx
 |global g=>exact mvE hx
 |tmp s=>
  have hp:=hx;simp only[zar,asgU]at hx;split at hx
  ·rename_i t m x he;rw[zbf];split at hx;·rename_i hm;cases hx;exact⟨S,rfl,rfl,rfl,h.putE hd ⟨hm,_,h.slot he⟩⟩
   ·split at hx;·cases hx
    rename_i hh;cases hx;exact⟨mv S (s,[]) (d,[]),rfl,rfl,rfl,h.moveAll he hh hd⟩
  ·rename_i r π s' he;have ho:zdj σ (σ s).e=σ r:=by rw[he];rfl
   rw[ho]at hx;split at hx;case h_2=>cases hx
   rename_i tr mr xr ha;split at hx;case isFalse=>cases hx
   rename_i hf;obtain⟨_,hk⟩:=(h.ent s).view he;obtain⟨hj,hc⟩:=hk tr mr xr ha hf;split at hx;case h_2=>cases hx
   rename_i e k u y hm hg;rw[zbf,hc.2 (zon hg rfl)];split at hx
   ·rename_i hb;split at hx;case isFalse=>cases hx
    rename_i hπ;cases hx;subst hπ hb;simp only[zcc,xaq]at hg;cases hg;simp only[zbr,xaq]at hm;subst hm;rw[<-h.hdr ha,zya];exact⟨S,rfl,rfl,rfl,h⟩
   ·rename_i hb;split at hx;·rename_i hπ;cases hx;subst hπ;simp only[zcc,xaq]at hg;cases hg;simp only[zbr,xaq]at hm;subst hm;rw[<-h.hdr ha];exact⟨mv S (r,[]) (d,[]),rfl,rfl,rfl,h.moveAll ha hb hd⟩
    ·split at hx;case h_2=>cases hx
     rename_i m' hs;cases hx;obtain⟨u',y',l,cs',h1,h2,h3,h4⟩:=Rel.at (h.slot ha).1 hm hj;rw[hg]at h1;cases h1;rw[zbt]at h3;refine⟨mv S (r,π) (d,[]),rfl,rfl,rfl,h.takePart ha hb hd hm hg hj hs (λcs l' hl hcs i hi=>?_) λh=>by cases h⟩;have:i=0:=by simp only[Ty.size]at hi;omega
     subst this;rw[hl]at h2;cases h2;have hn:cs=cs':=by
      obtain⟨q,off⟩:=l;cases q with
      |none=>exact hcs.trans h4.symm
      |some q=>
       obtain⟨b,h5,h6⟩:=hcs;obtain⟨b',h7,_,h8,_⟩:=h4;rw[zbt]at h7;rw[h5]at h7;cases h7;exact h6.trans h8.symm
     rw[hn,h3.2.2.1];simp[zab,Ty.agg]
  ·rename_i es he;rw[zbf];split at hx;·cases hx
   rename_i hh;cases hx;exact⟨mv S (s,[]) (d,[]),rfl,rfl,rfl,h.moveTup he hh hd⟩
  ·exact mvE hx
def InvOf.takeTup(h:InvOf P c σ a S){s d i:Nat}{es:List TM}{e:TM}(hs:(σ s).e=.tup es)(hne:s≠d)(hd:d<c.N)(hi:es[i]?=some e){vs:Array Value}{v:Value}(hvs:tmv a s=.tuple vs)(hv:vs[i]?=some v) :
  InvOf P c (zdv (zdv σ s (.tup (es.set i ⟨e.t,.dead,e.x⟩)) 0) d (.v e.t e.m e.x) 0) (a.put (some d) v) (mv S (s,[i]) (d,[])):=by
 have ha:=h.ent s;unfold SlotOK at ha;rw[hs]at ha;obtain⟨vs',h1,h2,h3⟩:=ha;rw[hvs]at h1;cases h1;obtain⟨v',h4,h5⟩:=h3 i e hi;rw[hv]at h4;cases h4;obtain⟨q1,q2,q3⟩:=h.mvOwned (p:=(s,[i])) (q:=(d,[]));refine h.rebuild (λt=>t=s\/t=d) (λr _=>zhc (λu=>zmm _ _ u _ _) r) (by simpa[Act.put]using h.defers) (by simpa[Act.put]using h.size)
  (λt ht=>⟨by rw[zao _ _ _ (λe=>ht (.inr e)),zao _ _ _ (λe=>ht (.inl e))],zbn λe=>ht (.inr e)⟩) (λr hr=>?_) (λt ht=>?_) (λ_ h=>h) (λ_ _=>rfl) rfl (λ_ _=>rfl)
  (λt ht q=>zdq λρ he=>ht (.inr (zdg he))) (λt ht b q hb=>⟨zdl hb λρ he=>ht (.inl (zdg he)),rfl⟩) q1 q2 q3 rfl rfl rfl (xag _) (λ_ _ _=>rfl)
 ·by_cases hrd:r=d;·subst hrd;exact⟨by rw[zah];exact xag _,.inl (by rw[zah,zao _ _ _ (Ne.symm hne)];exact xbw _)⟩
  ·have hf:=hr.resolve_right hrd;subst hf;exact⟨by rw[zao _ _ _ hrd,zah];exact xag _,.inl (by rw[zao _ _ _ hrd,zah];exact xbw _)⟩
 ·by_cases htd:t=d;·subst htd;refine .v (zbs _ _ _ 0) ?_;rw[zak (by rw[h.size];exact hd)];exact h5.mono (.inl rfl) (mv_tr S _ _)
  ·have hg:=ht.resolve_right htd;subst hg;unfold SlotOK;rw[zao _ _ _ htd,zbs,zbn htd];refine⟨vs,hvs,by rw[xcd];exact h2,λk e' hk=>?_⟩;rw[List.getElem?_set]at hk;split at hk
   ·rename_i hc;subst hc;split at hk;·cases hk;exact⟨v,hv,(h5.1.weaken (zyp _ _)).dead_any λ_ _=>rfl,h5.2⟩
    ·cases hk
   ·rename_i hc;obtain⟨u,h6,h7⟩:=h3 k e' hk;refine⟨u,h6,h7.mono (.inl rfl) ⟨λ_ h=>h,λ_ _=>rfl,λ_ _ h=>.inr h,λ_ _ _=>rfl,λr=>zdq λρ he=>htd (zdg he),λb r hb=>⟨zdl hb λρ he=>?_,rfl⟩⟩⟩;simp only[pa,xcx,xdp,xaw,xio,xgl]at he;exact hc he.1.symm
def ext_sound(h:InvOf P c σ a S){d i:Nat}(hd:d<c.N){o:Operand}{us:Ups}(hx:extU d i (zar σ o)=some us) :
  ∃v,(Instr.extract (a.eval o) i).run P S.w=.ok v S.w/\Inv P c (upd us σ) (a.put (some d) v) S.w:=by
 cases o with
 |const v=>simp[zar,extU]at hx
 |func f=>simp[zar,extU]at hx
 |global g=>simp[zar,extU]at hx
 |tmp s=>
  simp only[zar,extU]at hx;split at hx;case h_2=>cases hx
  rename_i es he;split at hx;·cases hx
  rename_i hb;split at hx;case h_2=>cases hx
  rename_i e hi;have ha:=h.ent s;unfold SlotOK at ha;rw[he]at ha;obtain⟨vs,h1,h2,h3⟩:=ha;obtain⟨v,h4,h5⟩:=h3 i e hi;refine⟨v,by rw[zbf,h1];simp[Instr.extract,h4],?_⟩;split at hx;·rename_i hm;cases hx;exact⟨S,rfl,h.putE hd ⟨hm,_,h5⟩⟩
  ·cases hx;exact⟨mv S (s,[i]) (d,[]),rfl,h.takeTup he hb hd hi h1 h4⟩
end
def ztf(path:Nat->Option (List Nat))(l:Operand->Opd)(u:Ty):List (Nat×Operand)->Md->u.den->Option (Md×u.den)
 | [],m,x=>some (m,x)
 |(i,o)::rest,m,x=>match path i with
  |none=>none
  |some ρ=>match zcc ρ u x with
   |none=>none
   |some old=>match(l o).val old.t with
    |none=>none
    |some (k,y)=>if k.noown then match zfl ρ u m (nm old.t k),zkf ρ u x ⟨old.t,y⟩with
      |some m',some x'=>ztf path l u rest m' x'
      |_,_=>none else none
def buildE(T:Tab)(t:Nat)(ps:List (Nat×Operand))(l:Operand->Opd):Option Ent:=
 match tl T t with
 |some (i,u)=>match cval u i.zero with
  |some z=>match i.k with
   | .struct offs=>(ztf (zkj offs.length) l u ps .sh z).bind λq=>if q.1.noown then some (.v u (nm u q.1) q.2)else none
   | .array n _=>(ztf (λi=>if i<n then some [i]else none) l u ps .sh z).bind λq=>if q.1.noown then some (.v u (nm u q.1) q.2)else none
   |_=>none
  |none=>none
 |none=>none
def limX:∃n:Int,n=4294967296:=⟨_,rfl⟩
noncomputable def LIM:Int:=Classical.choose limX
def zia:LIM=4294967296:=xdw limX
def litU(T:Tab)(fl:Nat)(d t len:Nat)(ps:List (Nat×Operand))(l:Operand->Opd):Option Ups:=
 match tl T t with
 |some (i,.slice u)=>match i.k with
  | .slice e=>match tl T e with
   |some (j,_)=>match cval u j.zero with
    |some z=>if 0<u.size/\len*u.size<=16777216 then
      match ztf (λi=>if i<len then some [i]else none) l (.arr len u) ps (if fl=1 then .bw else .sh) (List.replicate len z)with
      |some (m,x)=>if m.noown then some [(d,.v (.slice u) (.own e m) x,0)]else none
      |none=>none else none
    |none=>none
   |none=>none
  |_=>none
 |_=>none
noncomputable def makeU (T:Tab) (d t:Nat) (o o':Opd):Option (Bool×Ups):=
 match tl T t,o.ival,o'.ival with
 |some (i,.slice u),some (k,n),some (k',n')=>match i.k with
  | .slice e=>match tl T e with
   |some (j,_)=>match cval u j.zero with
    |some z=>if k=k'/\0<u.size/\j.bytes<=16384 then some (decide (n'=n)&&(decide (0<=n)&&decide (n<=LIM)),[(d,.v (.slice u) (.own e .sh) (List.replicate n.toNat z),0)])else none
    |none=>none
   |none=>none
  |_=>none
 |_,_,_=>none
section
variable {P:Program} {c:Ctx} {σ:Env} {a:Act} {S:St} {T:Tab}
def Fr.refl(S:St)(p:Place)(π:List Nat):Fr S S p π none:=⟨λ_ h=>h,λ_ _=>rfl,λ_ h=>.inr h,λ_ _=>rfl,λ_ _=>rfl,λ_ _ _ h=>⟨h,λ_=>rfl⟩⟩
def zob(h:InvOf P c σ a S){S1:St}(hF:Fut2 S S1){u:Ty}{p:Place}{place:Nat->Option (Nat×Nat)}{path:Nat->Option (List Nat)}
  (hpp:∀i ρ x tv,path i=some ρ->zcc ρ u x=some tv->∃off,place i=some (off,tv.t.size)/\zbo ρ u=some (none,off)/\okP S1 ρ u p) :
  ∀(ps:List (Nat×Operand)) (m:Md) (x:u.den) (cs:Array Value) (m':Md) (x':u.den),cs.size=u.size->Rel P u S1 m p x (λi=>cs[i]?)->ztf path (zar σ) u ps m x=some (m',x') ->
   ∃cs',Instr.fill place cs (ps.map λq=>(q.1,a.eval q.2))=some cs'/\cs'.size=u.size/\Rel P u S1 m' p x' (λi=>cs'[i]?)
 | [],m,x,cs,m',x',hsz,hr,hf=>by simp only[ztf,xaq,xaw]at hf;obtain⟨rfl,rfl⟩:=hf;exact⟨cs,rfl,hsz,hr⟩
 |(i,o)::rest,m,x,cs,m',x',hsz,hr,hf=>by
  simp only[ztf]at hf;split at hf;·cases hf
  rename_i ρ hρ;split at hf;·cases hf
  rename_i old hg;split at hf;·cases hf
  rename_i k y hv;split at hf;case isFalse=>cases hf
  rename_i hk;split at hf;case h_2=>cases hf
  rename_i m1 x1 hp hi;obtain⟨off,hq,he,hl⟩:=hpp i ρ x old hρ hg;obtain⟨pl,hs⟩:=h.val hv;have hs:=zno hs;obtain⟨hb,hm,_⟩:=zbw hs;have hn:=zod (S:=S1) he hi hl;have hc:¬(((a.eval o).cells.size≠old.t.size||decide (off+(a.eval o).cells.size>cs.size))=true):=by simp[hb];omega
  have hd:=znz off (a.eval o).cells.toList 0 cs (by simp[hb];omega);have hh:((a.eval o).cells.zipIdx.foldl (λcs (x:Value×Nat)=>cs.setIfInBounds (off+x.2) x.1) cs)=splice cs off (a.eval o).cells.toList:=by apply xij;rw[<-xki,xkc];unfold splice;simpa using hd
  have ha:off+(a.eval o).cells.toList.length<=cs.size:=by simp[hb];omega
  have ho:Rel P u S1 m1 p x1 (λi=>(splice cs off (a.eval o).cells.toList)[i]?):=by refine hr.updA he hp hi hl (.refl S1 p ρ) (λj hj hjo=>zln ha (by simp[hb];exact hjo)) ?_;refine(hs.1.free (znp hk) hF λj hj=>?_);rw[zne ha (by simp[hb];exact hj),xbe,hm j hj]
  obtain⟨cs',h1,h2,h3⟩:=zob h hF hpp rest m1 x1 _ m' x' (by rw[zfk ha];exact hsz) ho hf;refine⟨cs',?_,h2,h3⟩;simp only[xdo];unfold Instr.fill;rw[hq];simp only;rw[if_neg hc,hh];exact h1
def build_sound(h:InvOf P c σ a S)(hT:TabOK P T){t:Nat}{ps:Array (Nat×Operand)}{e:Ent}(hx:buildE T t ps.toList (zar σ)=some e) :
  ∃v,(Instr.build t (ps.map λ(i,x)=>(i,a.eval x))).run P S.w=.ok v S.w/\zik P S σ (tmv a) e v:=by
 unfold buildE at hx;split at hx;case h_2=>cases hx
 rename_i i u ht;split at hx;case h_2=>cases hx
 rename_i z hz;obtain⟨jf,ji,hv,ha⟩:=hT.kind ht;obtain⟨j,d,hi,hd,hp,hs,_,hk⟩:=zbj jf;have hw:=zdd (P:=P) (S:=S) (p:=(0,[])) hz;obtain⟨hq,jc,_⟩:=zbw hw;have h0:Rel P u S .sh (0,[]) z (λi'=>i.zero.cells[i']?):=hw.1.cong jc;have hc:(ps.map λ(x:Nat×Operand)=>(x.1,a.eval x.2)).toList=ps.toList.map λq=>(q.1,a.eval q.2):=by simp
 have fin:∀{cs:Array Value} {m:Md} {x:u.den},u.agg=true->cs.size=u.size->Rel P u S m (0,[]) x (λi=>cs[i]?)->m.noown=true->zik P S σ (tmv a) (.v u (nm u m) x) (.agg cs):=λ{cs m x} hv hcs hr hm=>by refine⟨znp hm,(0,[]),zno ⟨?_,λ_=>⟨cs,rfl,hcs⟩⟩⟩;unfold zab;rw[if_pos hv];exact hr
 split at hx
 ·rename_i offs hb;obtain⟨fs,rfl,hm⟩:=zil (hk.trans (xbr some hb));rw[hb]at ha;obtain⟨fs',hy,ho⟩:=zfa ha;have hh:u.agg=true:=by obtain⟨A,B,rfl⟩:=zhl hy;rfl
  simp only[xbk]at hx;obtain⟨⟨m',x'⟩,h1,h2⟩:=hx;split at h2;case isFalse=>cases h2
  rename_i he;cases h2;obtain⟨cs',h3,h4,h5⟩:=zob h (.refl S) (p:=(0,[])) (place:=λ(k:Nat)=>offs[k]?) (path:=zkj offs.length) (λi ρ x tv hρ hg=>by obtain⟨u',y',o,h6,h7,h8,h9,hn⟩:=zhk (S:=S) (o0:=0) (x:=x) (p:=(0,[])) hy hρ;rw[hg]at h7;cases h7;refine⟨o,?_,h8,h9⟩;rw[<-ho,xck]at hn;exact hn) _ _ _ i.zero.cells _ _ hq h0 h1
  refine⟨.agg cs',run_build S.w t _ cs' ?_,fin hh h4 h5 he⟩;simp only[Program.built,hi,hd,hp,hm];rw[hc];have:(λ(x:Nat)=>offs.toArray[x]?)=λ(k:Nat)=>offs[k]?:=by funext k;simp
  rw[this];exact h3
 ·rename_i n e1 hj;have:=zrv (hk.trans (xbr some hj));subst this;cases hu:u with
  |arr n' s=>
   subst hu;rw[hj]at ha;simp only[zgh]at ha;split at ha;case h_2=>cases ha
   rename_i n2 s1 i1 s2 je jg;cases je;simp only[xal,xak]at ha;obtain⟨rfl,rfl⟩:=ha;obtain⟨hf,hl,_,_⟩:=hT.kind jg;obtain⟨j',d',ja,jh,_,jd,_,_⟩:=zbj hf;simp only[xbk]at hx;obtain⟨⟨m',x'⟩,h1,h2⟩:=hx;split at h2;case isFalse=>cases h2
   rename_i he;cases h2;obtain⟨cs',h3,h4,h5⟩:=zob h (.refl S) (p:=(0,[])) (place:=λk=>some (k*i1.size,i1.size)) (path:=λi=>if i<n then some [i]else none) (λi ρ x tv hρ hg=>by
    split at hρ;·rename_i jb;cases hρ;rw[zlv]at hg;simp only[zcc,xaq]at hg;subst hg;exact⟨i*s.size,by rw[hl],by rw[zej];simp[zbo],by rw[zex];exact⟨jb,trivial⟩⟩
    ·cases hρ) _ _ _ i.zero.cells _ _ hq h0 h1
   refine⟨.agg cs',run_build S.w t _ cs' ?_,fin rfl h4 h5 he⟩;simp only[Program.built,hi,hd,hp,ja,jd];rw[hc];exact h3
  |_=>subst hu;rw[hj]at ha;simp[zgh]at ha
 ·cases hx
def nilM(T:Tab)(e n:Nat)(u:Ty)(v:Value):List Nat->Md->u.den->Md×u.den
 | [],M,z=>(M,z)
 |i::r,M,z=>match zkj n i with
  |some π=>match zbo π u,zcc π u z,tl T e with
   |some (none,off),some ⟨.slice s,_⟩,some (_,s')=>match v.cells[off]? with
    |some (.slice none 0 0)=>if s=s'/\0<s.size then match zfl π u M (.own e .sh),zkf π u z ⟨.slice s,[]⟩with
     |some M',some z'=>nilM T e n u v r M' z'
     |_,_=>nilM T e n u v r M z else nilM T e n u v r M z
    |_=>nilM T e n u v r M z
   |_,_,_=>nilM T e n u v r M z
  |none=>nilM T e n u v r M z
def nilMs(T:Tab)(n:Nat)(u:Ty)(v:Value):List (Nat×Nat)->Md->u.den->Md×u.den
 | [],M,z=>(M,z)
 |(i,e)::r,M,z=>match nilM T e n u v [i] M z with
  |(M',z')=>nilMs T n u v r M' z'
def decN:Nat->Nat->List (Nat×Nat)
 | 0,_=>[]
 |k+1,c=>if c=0 then []else((c%100000)/1000,c%1000)::decN k (c/100000)
def nilX(T:Tab)(fl n:Nat)(u:Ty)(v:Value)(z:u.den):Md×u.den:=
 if fl<1000000000 then nilM T (fl-4) n u v (List.range n) .sh z else nilMs T n u v (decN 8 (fl-1000000000)) .sh z
def ownOp:Opd->Bool
 | .slot _ cc _=>match cc.e with
  | .v _ m _=>!m.noown
  |_=>false
 |_=>false
def zjg(path:Nat->Option (List Nat))(l:Operand->Opd)(d:Nat)(u:Ty):List (Nat×Operand)->List Nat->Md->u.den->Option Ups
 | [],_,_,_=>some []
 |(i,o)::rest,used,m,x=>match path i with
  |none=>none
  |some ρ=>match l o with
   | .con v=>match zcc ρ u x with
    |some old=>match cval old.t v with
     |some z=>match zfl ρ u m .sh,zkf ρ u x ⟨old.t,z⟩with
      |some m',some x'=>(zjg path l d u rest used m' x').map λr=>(d,.v u m' x',0)::r
      |_,_=>none
     |none=>none
    |none=>none
   | .slot s cc _=>match cc.e with
    | .v t k y=>if s=d\/s∈used then none else match zcc ρ u x with
     |some old=>if old.t=t then match zfl ρ u m k,zkf ρ u x ⟨t,y⟩with
      |some m',some x'=>(zjg path l d u rest (s::used) m' x').map λr=>(s,.dead,0)::(d,.v u m' x',0)::r
      |_,_=>none else none
     |none=>none
    |_=>none
   |_=>none
def zxb(T:Tab)(fl d t:Nat)(ps:List (Nat×Operand))(l:Operand->Opd):Option Ups:=
 match tl T t with
 |some (i,u)=>match cval u i.zero with
  |some z=>match i.k with
   | .struct offs=>match nilX T fl offs.length u i.zero z with
    |(M,z')=>(ztf (zkj offs.length) l u (ps.takeWhile λp=>!ownOp (l p.2)) M z').bind λq=>
     (zjg (zkj offs.length) l d u (ps.dropWhile λp=>!ownOp (l p.2)) [] q.1 q.2).map λr=>(d,.v u q.1 q.2,0)::r
   |_=>none
  |none=>none
 |none=>none
def zqy{S1:St}{p:Place}(hn:∀π,S1.hv (pa p π)=.slice none 0 0){e n:Nat}{u:Ty}{v:Value}{fs:List Ty}(hfl:zrj n u=some fs):∀(is:List Nat) (M:Md) (z:u.den),Rel P u S1 M p z (λi=>v.cells[i]?)->Rel P u S1 (nilM T e n u v is M z).1 p (nilM T e n u v is M z).2 (λi=>v.cells[i]?)
 | [],M,z,h=>h
 |i::r,M,z,h=>by
  have ih:=zqy hn (e:=e) (v:=v) hfl r M z h;unfold nilM;split
  ·rename_i π hπ;split
   ·rename_i off s y i2 s' hl hg ht;split
    ·rename_i hc;split
     ·rename_i hs;split;·rename_i M' z' hM hz;refine zqy hn hfl r M' z' ?_;obtain⟨u',y',o,_,h7,h8,h9,_⟩:=zhk (S:=S1) (o0:=0) (x:=z) (p:=p) hfl hπ;refine h.updA hl hM hz h9 (.refl S1 p π) (λ_ _ _=>rfl) ?_;refine⟨xbx _,hs.2,?_,.inl ⟨hn π,rfl⟩⟩;show v.cells[off+0]?=_;rw[xdl,hc,hn]
      ·exact ih
     ·exact ih
    ·exact ih
   ·exact ih
  ·exact ih
def nilMs_rel{S1:St}{p:Place}(hn:∀π,S1.hv (pa p π)=.slice none 0 0){n:Nat}{u:Ty}{v:Value}{fs:List Ty}(hfl:zrj n u=some fs):∀(is:List (Nat×Nat)) (M:Md) (z:u.den),Rel P u S1 M p z (λi=>v.cells[i]?)->Rel P u S1 (nilMs T n u v is M z).1 p (nilMs T n u v is M z).2 (λi=>v.cells[i]?)
 | [],_,_,h=>h
 |(i,e)::r,M,z,h=>nilMs_rel hn hfl r _ _ (zqy hn (e:=e) hfl [i] M z h)
def nilX_rel{S1:St}{p:Place}(hn:∀π,S1.hv (pa p π)=.slice none 0 0){n:Nat}{u:Ty}{v:Value}{fs:List Ty}(fl:Nat)(hfl:zrj n u=some fs)(z:u.den)(h:Rel P u S1 .sh p z (λi=>v.cells[i]?)):Rel P u S1 (nilX T fl n u v z).1 p (nilX T fl n u v z).2 (λi=>v.cells[i]?):=by
 unfold nilX;split;·exact zqy hn hfl _ _ _ h
 ·exact nilMs_rel hn hfl _ _ _ h
def zte(place:Nat->Option (Nat×Nat)):∀(ps qs:List (Nat×Value)) (cs cs':Array Value),Instr.fill place cs ps=some cs'->Instr.fill place cs (ps++qs)=Instr.fill place cs' qs
 | [],qs,cs,cs',h=>by unfold Instr.fill at h;cases h;rfl
 |(i,v)::ps,qs,cs,cs',h=>by
  unfold Instr.fill at h;rw[xcx];conv=>lhs;unfold Instr.fill
  split at h;·cases h
  rename_i off n hp;split at h;·cases h
  rename_i hc;rw[if_neg hc];exact zte place ps qs _ cs' h
def InvOf.moveIn(h:InvOf P c σ a S){s d:Nat}{t u:Ty}{m m' k:Md}{x x':t.den}{y:u.den}{π:List Nat}{o:Nat}{cs:Array Value}(hd:d<c.N)(hdr:(σ d).e=.v t m x)(hcs:tmv a d=.agg cs)(hsz:cs.size=t.size)(hag:t.agg=true)
  (hs:(σ s).e=.v u k y) (hne:s≠d) (hl:zbo π t=some (none,o)) (hok:okP S π t (d,[])) (hm:zfl π t m k=some m') (hx:zkf π t x ⟨u,y⟩=some x') (hfit:o+u.size<=cs.size) :
  InvOf P c (zdv (zdv σ s .dead 0) d (.v t m' x') 0) (a.put (some d) (.agg (splice cs o (tmv a s).cells.toList))) (mv S (s,[]) (d,π)):=by
 have hh:=h.slot hs;have hc:=h.slot hdr;obtain⟨hf,hi,_⟩:=zbw hh;obtain⟨q1,q2,q3⟩:=h.mvOwned (p:=(s,[])) (q:=(d,π));have ha:o+(tmv a s).cells.toList.length<=cs.size:=by simp[hf];omega
 have hg:∀(w:Array Value),zab t (.agg w)=λi=>w[i]?:=λw=>by unfold zab;rw[if_pos hag]
 refine h.rebuild (λt=>t=s\/t=d) (λr _=>zhc (λu=>zmm _ _ u _ _) r) (by simpa[Act.put]using h.defers) (by simpa[Act.put]using h.size)
  (λt ht=>⟨by rw[zao _ _ _ (λe=>ht (.inr e)),zao _ _ _ (λe=>ht (.inl e))],zbn λe=>ht (.inr e)⟩) (λr hr=>?_) (λt ht=>?_) (λ_ h=>h) (λ_ _=>rfl) rfl (λ_ _=>rfl)
  (λt ht q=>zdq λρ he=>ht (.inr (zdg he))) (λt ht b q hb=>⟨zdl hb λρ he=>ht (.inl (zdg he)),rfl⟩) q1 q2 q3 rfl rfl rfl (xag _) (λ_ _ _=>rfl)
 ·by_cases hrd:r=d;·subst hrd;exact⟨by rw[zah];exact xag _,.inl (by rw[zah,zao _ _ _ (Ne.symm hne)];exact xbw _)⟩
  ·have hk:=hr.resolve_right hrd;subst hk;exact⟨by rw[zao _ _ _ hrd,zah];exact xag _,.inl (by rw[zao _ _ _ hrd,zah];exact xbw _)⟩
 ·by_cases htd:t=d
  ·subst htd;refine .v (zbs _ _ _ 0) ?_;rw[zak (by rw[h.size];exact hd)];refine⟨?_,λ_=>⟨_,rfl,by rw[zfk ha];exact hsz⟩⟩;have h1:=hc.1;rw[hcs]at h1;refine h1.updA hl hm hx hok ⟨λ_ h=>h,λ_ _=>rfl,λ_ h=>.inr h,λ_ _=>rfl,λρ hρ=>zdq λρ' he=>by rw[zbt]at he;exact hρ (znh he),
    λb' r' _ hb'=>⟨zdl hb' λρ he=>by rw[zbt,zbt]at he;cases he;exact hne rfl,λ_=>rfl⟩⟩ (λj hj hjo=>?_) ?_
   ·rw[hg,hg];exact zln ha (by simp[hf];exact hjo)
   ·rw[zbt];refine hh.1.mono (q:=true) (.inl rfl) (mv_tr S _ _) λj hj=>?_;rw[hg];show(splice cs o _)[o+j]?=_;rw[zne ha (by simp[hf];exact hj),xbe,hi j hj]
  ·have hn:=ht.resolve_right htd;subst hn;unfold SlotOK;rw[zao _ _ _ htd,zbs];trivial
def InvOf.conIn(h:InvOf P c σ a S){d:Nat}{t u:Ty}{m m':Md}{x x':t.den}{y:u.den}{π:List Nat}{o:Nat}{cs:Array Value}{v:Value}(hd:d<c.N)(hdr:(σ d).e=.v t m x)(hcs:tmv a d=.agg cs)(hsz:cs.size=t.size)(hag:t.agg=true)
  (hs:SR P u S .sh (d,π) y v) (hl:zbo π t=some (none,o)) (hok:okP S π t (d,[])) (hm:zfl π t m .sh=some m') (hx:zkf π t x ⟨u,y⟩=some x') (hfit:o+u.size<=cs.size) :
  InvOf P c (zdv σ d (.v t m' x') 0) (a.put (some d) (.agg (splice cs o v.cells.toList))) S:=by
 have hb:=h.slot hdr;obtain⟨hc,hf,_⟩:=zbw hs;have ha:o+v.cells.toList.length<=cs.size:=by simp[hc];omega
 have he:∀(w:Array Value),zab t (.agg w)=λi=>w[i]?:=λw=>by unfold zab;rw[if_pos hag]
 refine h.put (S':=S) (.refl _) rfl rfl hd (λ_ _ _=>rfl) (λ_=>.inl rfl) (.v (zbs _ _ _ 0) ?_);rw[zak (by rw[h.size];exact hd)];refine⟨?_,λ_=>⟨_,rfl,by rw[zfk ha];exact hsz⟩⟩;have h1:=hb.1;rw[hcs]at h1;refine h1.updA hl hm hx hok (.refl S _ π) (λj hj hjo=>?_) ?_;·rw[he,he];exact zln ha (by simp[hc];exact hjo)
 ·rw[zbt];refine hs.1.cong λj hj=>?_;rw[he];show(splice cs o _)[o+j]?=_;rw[zne ha (by simp[hc];exact hj),xbe,hf j hj]
def zyb(a:Act)(d:Nat)(v v':Value):(a.put (some d) v).put (some d) v'=a.put (some d) v':=by simp[Act.put]
def zjf{path:Nat->Option (List Nat)}{place:Nat->Option (Nat×Nat)}{d:Nat}(hd:d<c.N){u:Ty}(hag:u.agg=true)
  (hpp:∀(S1:St) i ρ x tv,path i=some ρ->zcc ρ u x=some tv->∃off,place i=some (off,tv.t.size)/\zbo ρ u=some (none,off)/\okP S1 ρ u (d,[])) :
  ∀(ps:List (Nat×Operand)) (used:List Nat) (m:Md) (x:u.den) (us:Ups) (σ':Env) (a':Act) (S':St) (cs:Array Value),InvOf P c σ' a' S'->(σ' d).e=.v u m x->tmv a' d=.agg cs->cs.size=u.size ->
   (∀s,s≠d->s∉used->(σ' s).e=(σ s).e/\tmv a' s=tmv a s)->zjg path (zar σ) d u ps used m x=some us ->
   ∃cs' S'',Instr.fill place cs (ps.map λq=>(q.1,a.eval q.2))=some cs'/\S''.w=S'.w/\InvOf P c (upd us σ') (a'.put (some d) (.agg cs')) S''
 | [],used,m,x,us,σ',a',S',cs,h,hdr,hcs,hsz,hk,hx=>by simp only[zjg,xaq]at hx;subst hx;refine⟨cs,S',rfl,rfl,?_⟩;rw[<-hcs,zya];exact h
 |(i,o)::rest,used,m,x,us,σ',a',S',cs,h,hdr,hcs,hsz,hk,hx=>by
  simp only[zjg]at hx;split at hx;·cases hx
  rename_i ρ hρ;split at hx
  ·rename_i v hlo;split at hx;case h_2=>cases hx
   rename_i old hg;split at hx;case h_2=>cases hx
   rename_i z hz;split at hx;case h_2=>cases hx
   rename_i m1 x1 hm1 hx1;simp only[xac]at hx;obtain⟨r,hr,rfl⟩:=hx;have hu:a.eval o=v:=by
    cases o with
    |const v'=>simp only[zar,Opd.con.injEq]at hlo;exact hlo
    |func f=>simp[zar]at hlo
    |global g=>simp[zar]at hlo
    |tmp s'=>simp[zar]at hlo
   obtain⟨off,hq,hc,hl⟩:=hpp S' i ρ x old hρ hg;have hm:=zdd (P:=P) (S:=S') (p:=(d,ρ)) hz;obtain⟨hj,hv,_⟩:=zbw hm;have hp:=zod (S:=S') hc hx1 hl;have ha:¬(((a.eval o).cells.size≠old.t.size||decide (off+(a.eval o).cells.size>cs.size))=true):=by rw[hu];simp[hj];omega
   have hb:=znz off v.cells.toList 0 cs (by simp[hj];omega);have hi:((a.eval o).cells.zipIdx.foldl (λcs (x:Value×Nat)=>cs.setIfInBounds (off+x.2) x.1) cs)=splice cs off v.cells.toList:=by rw[hu];apply xij;rw[<-xki,xkc];unfold splice;simpa using hb
   have hf:off+v.cells.toList.length<=cs.size:=by simp[hj];omega
   have h1:=h.conIn hd hdr hcs hsz hag hm hc hl hm1 hx1 (by omega);have hh:=h.size;obtain⟨cs',S'',h2,h3,h4⟩:=zjf hd hag hpp rest used m1 x1 r _ _ _ _ h1 (zbs _ _ _ 0) (zak (by rw[hh];exact hd)) (by rw[zfk hf];exact hsz) (λs2 h5 h6=>by obtain⟨h7,h8⟩:=hk s2 h5 h6;exact⟨by rw[zao _ _ _ h5];exact h7,by rw[zbn h5];exact h8⟩) hr
   refine⟨cs',S'',?_,h3,?_⟩;·simp only[xdo];unfold Instr.fill;rw[hq];simp only;rw[if_neg ha,hi];exact h2
   ·rw[zyb]at h4;exact h4
  case h_3=>cases hx
  rename_i s cc root hlo;split at hx;case h_2=>cases hx
  rename_i t k y he;split at hx;·cases hx
  rename_i hn;simp only[not_or]at hn;split at hx;case h_2=>cases hx
  rename_i old hg;split at hx;case isFalse=>cases hx
  rename_i ho;subst ho;split at hx;case h_2=>cases hx
  rename_i m1 x1 hm1 hx1;simp only[xac]at hx;obtain⟨r,hr,rfl⟩:=hx;cases o with
  |const v=>simp[zar]at hlo
  |func f=>simp[zar]at hlo
  |global g=>simp[zar]at hlo
  |tmp s'=>
  simp only[zar,Opd.slot.injEq]at hlo;obtain⟨rfl,rfl,rfl⟩:=hlo;obtain⟨hw,hs⟩:=hk s' hn.1 hn.2;obtain⟨off,hq,hc,hl⟩:=hpp S' i ρ x old hρ hg;have ht:(σ' s').e=.v old.t k y:=hw.trans he;have hm:=h.slot ht;obtain⟨hj,hv,_⟩:=zbw hm;have hp:=zod (S:=S') hc hx1 hl;have ha:¬(((a.eval (.tmp s')).cells.size≠old.t.size||decide (off+(a.eval (.tmp s')).cells.size>cs.size))=true):=by rw[zbf,<-hs];simp[hj];omega
  have hb:=znz off (tmv a' s').cells.toList 0 cs (by simp[hj];omega);have hi:((a.eval (.tmp s')).cells.zipIdx.foldl (λcs (x:Value×Nat)=>cs.setIfInBounds (off+x.2) x.1) cs)=splice cs off (tmv a' s').cells.toList:=by rw[zbf,<-hs];apply xij;rw[<-xki,xkc];unfold splice;simpa using hb
  have hf:off+(tmv a' s').cells.toList.length<=cs.size:=by simp[hj];omega
  have h1:=h.moveIn hd hdr hcs hsz hag ht hn.1 hc hl hm1 hx1 (by omega);have hh:=h.size;obtain⟨cs',S'',h2,h3,h4⟩:=zjf hd hag hpp rest (s'::used) m1 x1 r _ _ _ _ h1 (zbs _ _ _ 0) (zak (by rw[hh];exact hd)) (by rw[zfk hf];exact hsz) (λs2 h5 h6=>by simp only[xar,not_or]at h6;obtain⟨h7,h8⟩:=hk s2 h5 h6.2;exact⟨by rw[zao _ _ _ h5,zao _ _ _ h6.1];exact h7,by rw[zbn h5];exact h8⟩) hr
  refine⟨cs',S'',?_,h3,?_⟩;·simp only[xdo];unfold Instr.fill;rw[hq];simp only;rw[if_neg ha,hi];exact h2
  ·rw[zyb]at h4;exact h4
def buildN_sound(h:InvOf P c σ a S)(hT:TabOK P T){fl d t:Nat}(hd:d<c.N){ps:Array (Nat×Operand)}{us:Ups}(hx:zxb T fl d t ps.toList (zar σ)=some us) :
  ∃v,(Instr.build t (ps.map λ(i,x)=>(i,a.eval x))).run P S.w=.ok v S.w/\Inv P c (upd us σ) (a.put (some d) v) S.w:=by
 unfold zxb at hx;split at hx;case h_2=>cases hx
 rename_i i u ht;split at hx;case h_2=>cases hx
 rename_i z hz;obtain⟨hy,h2,ja,hb⟩:=hT.kind ht;obtain⟨j,d',hi,hn,hq,hs,_,hk⟩:=zbj hy;have hf:(ps.map λ(x:Nat×Operand)=>(x.1,a.eval x.2)).toList=ps.toList.map λq=>(q.1,a.eval q.2):=by simp
 let S1:St:={S with hv:=λz=>if z.1=d then .slice none 0 0 else S.hv z};have hF:Fut2 S S1:=⟨λ_ h=>⟨h,rfl⟩,λ_ h=>⟨.inr h,rfl⟩⟩;have hj:=zdd (P:=P) (S:=S1) (p:=(d,[])) hz;obtain⟨hu,hw,_⟩:=zbw hj;have h0:Rel P u S1 .sh (d,[]) z (λi'=>i.zero.cells[i']?):=hj.1.cong hw;split at hx;case h_2=>cases hx
 rename_i offs ha;obtain⟨fs,rfl,hm⟩:=zil (hk.trans (xbr some ha));rw[ha]at hb;obtain⟨fs',he,ho⟩:=zfa hb;have hc:u.agg=true:=by obtain⟨A,B,rfl⟩:=zhl he;rfl
 have hp:=nilX_rel (T:=T) (S1:=S1) (p:=(d,[])) (λπ=>by show(if d=d then _ else _)=_;rw[if_pos rfl]) (v:=i.zero) fl he z h0;simp only[xbk,xac]at hx;obtain⟨⟨m',x'⟩,h1,r,hr,rfl⟩:=hx;have hl:∀(S1:St) i ρ x tv,zkj offs.length i=some ρ->zcc ρ u x=some tv->∃off,offs[i]?=some (off,tv.t.size)/\zbo ρ u=some (none,off)/\okP S1 ρ u (d,[]):=λS1 i ρ x tv hρ hg=>by obtain⟨u',y',o,h6,h7,h8,h9,hh⟩:=zhk (S:=S1) (o0:=0) (x:=x) (p:=(d,[])) he hρ;rw[hg]at h7;cases h7;refine⟨o,?_,h8,h9⟩;rw[<-ho,xck]at hh;exact hh
 obtain⟨cs',h3,h4,h5⟩:=zob h hF (p:=(d,[])) (place:=λ(k:Nat)=>offs[k]?) (path:=zkj offs.length) (hl S1) _ _ _ i.zero.cells _ _ hu hp h1;have h6:InvOf P c (zdv σ d (.v u m' x') 0) (a.put (some d) (.agg cs')) S1:=by
  refine h.put (S':=S1) (.refl _) rfl rfl hd (λt ht q=>?_) (λ_=>.inl rfl) (.v (zbs σ d _ 0) ?_);·exact if_neg ht
  ·rw[zak (by rw[h.size];exact hd)];refine⟨?_,λ_=>⟨cs',rfl,h4⟩⟩;unfold zab;rw[if_pos hc];exact h5
 obtain⟨cs2,S2,h7,h8,h9⟩:=zjf (σ:=σ) (a:=a) hd hc hl _ [] m' x' r _ _ _ cs' h6 (zbs _ _ _ 0) (zak (by rw[h.size];exact hd)) h4 (λs hs _=>⟨by rw[zao _ _ _ hs],zbn hs⟩) hr;refine⟨.agg cs2,run_build S.w t _ cs2 ?_,S2,h8,?_⟩
 ·simp only[Program.built,hi,hn,hq,hm];rw[hf];have:(λ(x:Nat)=>offs.toArray[x]?)=λ(k:Nat)=>offs[k]?:=by funext k;simp
  rw[this];conv=>lhs;arg 3;rw[<-List.takeWhile_append_dropWhile (p:=λp=>!ownOp (zar σ p.2)) (l:=ps.toList),xcc]
  rw[zte _ _ _ _ _ h3];exact h7
 ·rw[zyb]at h9;exact h9
def loadM(T:Tab)(d t:Nat)(o:Opd):Option Ups:=
 match tl T t,o.place with
 |some (_,u),some p=>match zbr p.π p.t p.m,zcc p.π p.t p.x,zfl p.π p.t p.m .dead with
  |some k,some y,some m'=>if p.r=d\/y.t≠u then none else some [(p.r,.v p.t m' p.x,2),(d,.v y.t k y.x,0)]
  |_,_,_=>none
 |_,_=>none
def loadM_sound(h:InvOf P c σ a S)(hT:TabOK P T){d t:Nat}(hd:d<c.N){x:Operand}{us:Ups}(hx:loadM T d t (zar σ x)=some us) :
  ∃v,(Instr.loadAt t (a.eval x)).run P S.w=.ok v S.w/\Inv P c (upd us σ) (a.put (some d) v) S.w:=by
 unfold loadM at hx;split at hx;case h_2=>cases hx
 rename_i i u p ht hp;split at hx;case h_2=>cases hx
 rename_i k y m' hm hg hb;split at hx;·cases hx
 rename_i ha;simp only[not_or,ne_eq,xhe]at ha;obtain⟨ha,hh⟩:=ha;subst hh;cases hx;obtain⟨u',y',q,off,b,cur,e',h1,h2,h3,h4,h5,h6,h7⟩:=h.partAt hp hm;rw[hg]at h1;cases h1;obtain⟨v,h8,h9,hf⟩:=zqx hT ht h7;obtain⟨hr,hc,hπ,hi,_⟩:=h.place hp;refine⟨v,by rw[h6];exact h8,mv S (p.r,p.π) (d,[]),rfl,?_⟩;refine h.takePart hr ha hd hm hg hi hb (λcs l hl hcs j hj=>?_) h9.2;rw[h2]at hl;cases hl;obtain⟨b',he,rfl⟩:=hcs;rw[h3]at he;cases he;exact hf j hj
def allocN(T:Tab)(fl d t:Nat):Option Ups:=
 match tl T t with
 |some (i,u)=>match cval u i.zero with
  |some z=>match i.k with
   | .struct offs=>match nilX T fl offs.length u i.zero z with
    |(M,z')=>some [(d,.v (.ptr u) (.own 0 M) z',0)]
   |_=>none
  |none=>none
 |none=>none
def allocN_sound(h:InvOf P c σ a S)(hT:TabOK P T){fl d t:Nat}(hd:d<c.N){us:Ups}(hx:allocN T fl d t=some us) :
  ∃v w',(Instr.alloc t true (.tuple #[])).run P S.w=.ok v w'/\Inv P c (upd us σ) (a.put (some d) v) w':=by
 unfold allocN at hx;split at hx;case h_2=>cases hx
 rename_i i u ht;split at hx;case h_2=>cases hx
 rename_i z hz;split at hx;case h_2=>cases hx
 rename_i offs hc;cases hx;obtain⟨hn,hr,hs,ha⟩:=hT.kind ht;obtain⟨j,dd,hi,hq,hj,_⟩:=zbj hn;rw[hc]at ha;obtain⟨fs',hm,ho⟩:=zfa ha;let S':St:={S with w:=S.w.alloc (.cells i.zero.cells t),own:=λb=>if b=S.w.heap.size then some (d,[])else S.own b,hv:=λz=>if z.1=d then(if z.2=[]then .pointer (some ⟨S.w.heap.size,0,none⟩)else .slice none 0 0)else S.hv z};have hf:Ext S.w S'.w:=Ext.alloc _ _;have hg:=zdd (P:=P) (S:=S') (p:=(d,[0])) hz;obtain⟨hk,hl,_⟩:=zbw hg;have hp:Rel P u S' .sh (d,[0]) z (λi'=>i.zero.cells[i']?):=hg.1.cong hl;have hh:=nilX_rel (T:=T) (S1:=S') (p:=(d,[0])) (λπ=>by show(if d=d then(if([0]++π:List Nat)=[]then _ else _)else _)=_;rw[if_pos rfl,if_neg (by simp)]) (v:=i.zero) fl hm z hp;have he:S'.hv (d,[])=.pointer (some ⟨S.w.heap.size,0,none⟩):=by show(if d=d then(if([]:List Nat)=[]then _ else _)else _)=_;rw[if_pos rfl,if_pos rfl]
 refine⟨.pointer (some ⟨S.w.heap.size,0,none⟩),S'.w,?_,S',rfl,h.put hf rfl rfl hd (λt ht q=>if_neg ht) (λb=>?_) ?_⟩;·simp[Instr.alloc,zeroValue,typeInfo,hi,hj,newVar,newRow];rfl
 ·by_cases hb:b=S.w.heap.size;·subst hb;exact .inr ⟨zyh h,xag _,by show _<(S.w.alloc _).heap.size;simp⟩
  ·exact .inl (if_neg hb)
 ·refine .v (zbs σ d _ 0) ?_;rw[zak (by rw[h.size];exact hd)];refine⟨⟨?_,S.w.heap.size,i.zero.cells,t,he,if_pos rfl,heap_alloc_new S.w _,hk,hh⟩,λh=>by cases h⟩;rw[he];simp[zab,Ty.agg]
def boxO(T:Tab)(d t:Nat)(x:Opd):Option Ups:=
 match tl T t,x with
 |some (_,u),.slot s cc _=>match cc.e with
  | .v t' m y=>if s=d\/t'≠u then none else some [(s,.dead,0),(d,.v (.ptr t') (.own 0 m) y,0)]
  |_=>none
 |_,_=>none
def boxX(T:Tab)(d t:Nat)(x:Opd):Option Ups:=
 match boxU T d t x with
 |some us=>some us
 |none=>boxO T d t x
def boxO_sound(h:InvOf P c σ a S){d t:Nat}(hd:d<c.N){x:Operand}{us:Ups}(hx:boxO T d t (zar σ x)=some us) :
  ∃v w',(Instr.box t (a.eval x)).run P S.w=.ok v w'/\Inv P c (upd us σ) (a.put (some d) v) w':=by
 unfold boxO at hx;split at hx;case h_2=>cases hx
 rename_i i u s cc root ht hg;split at hx;case h_2=>cases hx
 rename_i t' m y he;split at hx;·cases hx
 rename_i hh;simp only[not_or,ne_eq,xhe]at hh;obtain⟨hh,rfl⟩:=hh;cases hx;cases x with
 |const v=>simp[zar]at hg
 |func f=>simp[zar]at hg
 |global g=>simp[zar]at hg
 |tmp s'=>
 simp only[zar,Opd.slot.injEq]at hg;obtain⟨rfl,rfl,rfl⟩:=hg;rw[zbf];have hk:=h.slot he;obtain⟨ho,hp,_⟩:=zbw hk;obtain⟨q1,q2,q3⟩:=h.mvOwned (p:=(s',[])) (q:=(d,[0]));let b0:=S.w.heap.size;let S0:=mv S (s',[]) (d,[0]);let S':St:={S0 with w:=S.w.alloc (.cells (tmv a s').cells t),own:=λb=>if b=b0 then some (d,[])else S0.own b,hv:=λz=>if z=(d,[])then .pointer (some ⟨b0,0,none⟩)else S0.hv z};have hc:Ext S.w S'.w:=Ext.alloc _ _;have hi:∀{b},b<S.w.heap.size->b≠b0:=λh=>Nat.ne_of_lt h;have hf:∀{b z},S0.own b=some z->S'.own b=some z:=λ{b z} hb=>by show(if b=b0 then _ else _)=_;rw[if_neg (hi (q3 b z hb).1)];exact hb
 have ha:∀b,b<S.w.heap.size->S'.w.heap[b]?=S.w.heap[b]?:=λb hb=>hc.block b hb;refine⟨.pointer (some ⟨b0,0,none⟩),S'.w,by simp[Instr.box,newVar,newRow];rfl,S',rfl,?_⟩;refine h.rebuild (S':=S') (λt=>t=s'\/t=d) (λr _=>zhc (λu=>zmm _ _ u _ _) r) (by simpa[Act.put]using h.defers) (by simpa[Act.put]using h.size)
  (λt ht=>⟨by rw[show upd [(s',Ent.dead,0),(d,.v (.ptr t') (.own 0 m) y,0)] σ=zdv (zdv σ s' .dead 0) d (.v (.ptr t') (.own 0 m) y) 0 from rfl,zao _ _ _ (λe=>ht (.inr e)),zao _ _ _ (λe=>ht (.inl e))],zbn λe=>ht (.inr e)⟩) (λr hr=>?_) (λt ht=>?_) (λ_ h=>h) (λb hb=>ha b (h.wlt (.inl hb))) rfl (λb hb=>ha b (h.wlt (.inr (.inl hb))))
  (λt ht q=>?_) (λt ht b q hb=>⟨hf (zdl hb λρ he=>ht (.inl (zdg he))),ha b (h.wlt (.inr (.inr ⟨_,hb⟩)))⟩) (λb hb=>?_) (λb hb=>?_) (λb p hb=>?_) hc.os hc.tape hc.output hc.size (λb hb _=>ha b (xav hb h.grown))
 ·show Chg S S' σ (zdv (zdv σ s' .dead 0) d _ 0) r;by_cases hrd:r=d;·subst hrd;exact⟨by rw[zah];exact xag _,.inl (by rw[zah,zao _ _ _ (Ne.symm hh)];exact xbw _)⟩
  ·have hn:=hr.resolve_right hrd;subst hn;exact⟨by rw[zao _ _ _ hrd,zah];exact xag _,.inl (by rw[zao _ _ _ hrd,zah];exact xbw _)⟩
 ·show SlotOK P S' (zdv (zdv σ s' .dead 0) d _ 0) _ t;by_cases htd:t=d
  ·subst htd;refine .v (zbs _ _ _ 0) ?_;rw[zak (by rw[h.size];exact hd)];have hl:S'.hv (t,[])=.pointer (some ⟨b0,0,none⟩):=if_pos rfl;refine⟨⟨by rw[hl];simp[zab,Ty.agg],b0,(tmv a s').cells,_,hl,if_pos rfl,heap_alloc_new S.w _,ho,?_⟩,λh=>by cases h⟩;refine hk.1.mono (q:=true) (p':=px (t,[]) 0) (.inl rfl) ⟨λ_ h=>h,λb hb=>ha b (h.wlt (.inl hb)),λ_ _ h=>.inr h,λ_ b hb=>ha b (h.wlt (.inr (.inl hb))),λρ=>?_,λb ρ hb=>⟨?_,ha b (h.wlt (.inr (.inr ⟨_,hb⟩)))⟩⟩ (λj hj=>hp j hj);·have e1:pa (px (t,[]) 0) ρ=pa (t,[0]) ρ:=rfl;have:S'.hv (pa (t,[0]) ρ)=S0.hv (pa (t,[0]) ρ):=if_neg (by simp[pa]);rw[e1,this];exact mv_hv ρ
   ·exact hf (mv_own hb)
  ·have hq:=ht.resolve_right htd;subst hq;unfold SlotOK;rw[zao _ _ _ htd,zbs];trivial
 ·show(if(t,q)=(d,[])then _ else _)=_;rw[if_neg λhe=>ht (.inr (by cases he;rfl))];exact zdq λρ he=>ht (.inr (zdg he))
 ·have h1:=q1 b hb;refine⟨?_,xav h1.2.1 hc.size,h1.2.2⟩;show(if b=b0 then _ else _)=_;rw[if_neg (hi h1.2.1)];exact h1.1
 ·show(if b=b0 then _ else _)=_;rw[if_neg (hi (xav (h.borrowed b hb).2.1 h.grown))];exact q2 b hb
 ·have h1:(if b=b0 then some (d,[])else S0.own b)=some p:=hb;split at h1;·rename_i hm;subst hm;exact⟨by show _<(S.w.alloc _).heap.size;simp[b0],.inl h.grown⟩
  ·have:=q3 b p h1;exact⟨xav this.1 hc.size,this.2⟩
def boxX_sound(h:InvOf P c σ a S){d t:Nat}(hd:d<c.N){x:Operand}{us:Ups}(hx:boxX T d t (zar σ x)=some us) :
  ∃v w',(Instr.box t (a.eval x)).run P S.w=.ok v w'/\Inv P c (upd us σ) (a.put (some d) v) w':=by
 unfold boxX at hx;split at hx;·rename_i us' hu;cases hx;exact box_sound h hd hu
 ·exact boxO_sound h hd hx
def InvOf.newOwn(h:InvOf P c σ a S){d:Nat}(hd:d<c.N){w':World}(hw:Ext S.w w'){u:Ty}{e:TypeId}{m:Md}{xs:List u.den}{cap:Nat}{cur:Array Value}(hg:w'.heap[S.w.heap.size]?=some (.cells cur e (0,0)))(hcap:xs.length<=cap)(hcm:cap<=maxLen)
  (hcur:cur.size=cap*u.size) (hpos:0<u.size) (hl:xs.length<=zpf) (hm:m.noown=true) (hr:∀(i:Nat) (h:i<xs.length),∃q,Rel P u S m q xs[i] (λj=>cur[i*u.size+j]?)) :
  ∃S',S'.w=w'/\InvOf P c (zdv σ d (.v (.slice u) (.own e m) xs) 0) (a.put (some d) (.slice (some ⟨S.w.heap.size,0,none⟩) xs.length cap)) S':=by
 let S':St:={S with w:=w',own:=λb=>if b=S.w.heap.size then some (d,[])else S.own b,hv:=λz=>if z=(d,[])then .slice (some ⟨S.w.heap.size,0,none⟩) xs.length cap else S.hv z};have hc:S.w.heap.size<w'.heap.size:=(xbm.1 hg).1;refine⟨S',rfl,h.put (S':=S') hw rfl rfl hd (λt ht q=>if_neg (λhe=>ht (by cases he;rfl))) (λb=>?_) ?_⟩
 ·by_cases hb:b=S.w.heap.size;·subst hb;exact .inr ⟨zyh h,xag _,hc⟩
  ·exact .inl (if_neg hb)
 ·refine .v (zbs σ d _ 0) ?_;rw[zak (by rw[h.size];exact hd)];have ha:S'.hv (d,[])=.slice (some ⟨S.w.heap.size,0,none⟩) xs.length cap:=if_pos rfl;refine⟨⟨hl,hpos,by rw[ha];simp[zab,Ty.agg],.inr ⟨S.w.heap.size,cap,cur,ha,if_pos rfl,hg,hcap,hcm,hcur,λi hi=>?_⟩⟩,λh=>by cases h⟩;obtain⟨q,h1⟩:=hr i hi;exact h1.free hm (fut2_ext h hw rfl rfl) λ_ _=>rfl
def leM_sh{M:Md}(hM:M=.sh\/M=.bw):∀u:Ty,leM u .sh M=true:=by
 intro u;induction u with
 |pair A B ihA ihB=>rcases hM with rfl | rfl<;>(simp only[leM,Md.l,Md.r,ihA,ihB];rfl)
 |arr n t ih=>exact ih
 |slice t ih=>rcases hM with rfl | rfl<;>first | rfl | exact ih
 |ptr t ih=>rcases hM with rfl | rfl<;>first | rfl | exact ih
 |alt tid A B ihA ihB=>rcases hM with rfl | rfl<;>(simp only[leM,Md.l,Md.r,ihA,ihB];rfl)
 |_=>rcases hM with rfl | rfl<;>rfl
def zwg{u:Ty}{z:u.den}{v:Value}{S:St}(hs:SR P u S .sh (0,[]) z v)(n:Nat):(madeCells v.cells (n*u.size)).size=n*u.size /\
  ∀(i:Nat),i<n->∀q,Rel P u S .sh q z (λj=>(madeCells v.cells (n*u.size))[i*u.size+j]?):=by
 obtain⟨he,hc,_⟩:=zbw hs;refine⟨by simp[madeCells],λi hi q=>hs.1.free rfl (.refl S) λj hj=>?_⟩;have hd:i*u.size+j<n*u.size:=by have:(i+1)*u.size<=n*u.size:=xau _ hi;rw[xco]at this;omega
 have ha:(i*u.size+j)%v.cells.size=j:=by rw[he,xia,Nat.add_mul_mod_self_right,xdz hj]
 have hb:j<v.cells.size:=by omega
 rw[<-hc j hj];simp only[madeCells];rw[Array.getElem?_map,Array.getElem?_range];simp only[hd,if_true,xch,ha];rw[xcf hb,getElem!_pos v.cells j hb]
def make_sound(h:InvOf P c σ a S)(hT:TabOK P T){d t:Nat}(hd:d<c.N){o o':Operand}{us:Ups}{ob:Bool}(hx:makeU T d t (zar σ o) (zar σ o')=some (ob,us))(hob:ob=true) :
  ∃v w',(Instr.makeSlice t (a.eval o) (a.eval o')).run P S.w=.ok v w'/\Inv P c (upd us σ) (a.put (some d) v) w':=by
 unfold makeU at hx;split at hx;case h_2=>cases hx
 rename_i i u k n k' n' ht hn hu;split at hx;case h_2=>cases hx
 rename_i e he;split at hx;case h_2=>cases hx
 rename_i j u2 hp;split at hx;case h_2=>cases hx
 rename_i z hz;split at hx;case isFalse=>cases hx
 rename_i hc;obtain⟨rfl,hg,hs⟩:=hc;simp only[xaq,xaw]at hx;obtain⟨rfl,rfl⟩:=hx;simp only[xal,xak]at hob;obtain⟨rfl,h0,h1⟩:=hob;obtain⟨jg,_,_,hf⟩:=hT.kind ht;obtain⟨_,d1,_,hw,_,_,_,je⟩:=zbj jg;obtain⟨e2,i2,ho,ha,_⟩:=zdx hf;rw[he]at ho;cases ho;rw[hp]at ha;cases ha;have:=zfz (je.trans (xbr some he));subst this;obtain⟨hj,hl,_,_⟩:=hT.kind hp;obtain⟨j',d',hr,jh,hv,jc,jf,_⟩:=zbj hj;obtain⟨nn,rfl⟩:=xhw h0;have ja:nn<=4294967296:=by rw[zia]at h1;omega
 rw[(h.ival hn).1,(h.ival hu).1];have jd:=zdd (P:=P) (S:=S) (p:=(0,[])) hz;obtain⟨w',h2,h3,h4⟩:=run_make_full (P:=P) S.w S.w.heap.size t e j' j.zero u.size hw hr hv (by rw[jc,hl]) k k nn (by rw[jf];exact xay (xcu hs ja) (by decide)) (by unfold maxLen;omega) (xag _);have hh:Ext S.w w':=⟨h4.os,h4.tape,h4.output,h4.size,λk hk=>h4.block k hk (by simp)⟩;obtain⟨_,h5⟩:=h3;rcases h5 with⟨h5,_⟩|⟨g,cap,cur,h5,_,h6,h7,h8,h9,h10⟩
 ·cases h5
 cases h5;have hm:cur.toList=(madeCells j.zero.cells (nn*u.size)).toList:=by rw[<-h10,xbg (by simp[h9])]
 have hb:cur=madeCells j.zero.cells (nn*u.size):=xij hm;obtain⟨_,hy⟩:=zwg jd nn;obtain⟨S',jb,hq⟩:=h.newOwn hd hh (u:=u) (e:=e) (m:=.sh) (xs:=List.replicate nn z) (cap:=nn) (cur:=cur) h6 (by simp) h8 h9 hg (by simp[zpf];omega) rfl λi hi=>by simp only[xbq]at hi;refine⟨(0,[]),?_⟩;rw[xjm,hb];exact hy i hi _
 rw[xbq]at hq;refine⟨_,w',h2,S',jb,?_⟩;show InvOf P c (zdv σ d (.v (.slice u) (.own e .sh) (List.replicate (nn:Int).toNat z)) 0) _ S';rw[xam];exact hq
def lit_sound(h:InvOf P c σ a S)(hT:TabOK P T){fl d t len:Nat}(hd:d<c.N){ps:Array (Nat×Operand)}{us:Ups}(hx:litU T fl d t len ps.toList (zar σ)=some us) :
  ∃v w',(Instr.buildSlice t len (ps.map λ(i,x)=>(i,a.eval x))).run P S.w=.ok v w'/\Inv P c (upd us σ) (a.put (some d) v) w':=by
 unfold litU at hx;split at hx;case h_2=>cases hx
 rename_i i u ht;split at hx;case h_2=>cases hx
 rename_i e he;split at hx;case h_2=>cases hx
 rename_i j u2 hv;split at hx;case h_2=>cases hx
 rename_i z hz;split at hx;case isFalse=>cases hx
 rename_i hf;obtain⟨hc,hh⟩:=hf;split at hx;case h_2=>cases hx
 rename_i m x hk;split at hx;case isFalse=>cases hx
 rename_i hm;cases hx;obtain⟨jd,_,_,hj⟩:=hT.kind ht;obtain⟨_,d1,_,hw,_,_,_,jb⟩:=zbj jd;obtain⟨e2,i2,hu,hb,_⟩:=zdx hj;rw[he]at hu;cases hu;rw[hv]at hb;cases hb;have:=zfz (jb.trans (xbr some he));subst this;obtain⟨hn,hl,_,_⟩:=hT.kind hv;obtain⟨j',d',hs,jf,h0,ho,jg,_⟩:=zbj hn;have h9:=zdd (P:=P) (S:=S) (p:=(0,[])) hz;obtain⟨ja,h2⟩:=zwg h9 len;have hM:(if fl=1 then Md.bw else Md.sh)=.sh\/(if fl=1 then Md.bw else Md.sh)=.bw:=by split<;>simp
 have hp:leM u .sh (if fl=1 then Md.bw else Md.sh)=true:=leM_sh hM u;obtain⟨cs',h3,h4,h5⟩:=zob h (.refl S) (u:=.arr len u) (p:=(0,[])) (place:=λk=>some (k*j.size,j.size)) (path:=λi=>if i<len then some [i]else none) (λi ρ x tv hρ hg=>by
  split at hρ;·rename_i je;cases hρ;rw[zlv]at hg;simp only[zcc,xaq]at hg;subst hg;exact⟨i*u.size,by rw[hl],by rw[zej];simp[zbo],by rw[zex];exact⟨je,trivial⟩⟩
  ·cases hρ) _ _ _ (madeCells j.zero.cells (len*u.size)) _ _ ja ⟨by simp,λi hi=>by simp only[xbq]at hi;rw[xjm];exact(h2 i hi _).weaken hp⟩ hk
 obtain⟨h6,h7⟩:=h5;have jc:len<=len*u.size:=Nat.le_mul_of_pos_right _ hc;obtain⟨S',h8,hy⟩:=h.newOwn hd (Ext.alloc S.w (.cells cs' e)) (u:=u) (e:=e) (m:=m) (xs:=x) (cap:=len) (cur:=cs') (heap_alloc_new S.w _) (by omega) (by unfold maxLen;omega) h4 hc (by unfold zpf;omega) hm λi hi=>⟨_,h7 i hi⟩;have hr:(ps.map λ(x:Nat×Operand)=>(x.1,a.eval x.2)).toList=ps.toList.map λq=>(q.1,a.eval q.2):=by simp
 refine⟨_,_,?_,S',h8,by rw[h6]at hy;exact hy⟩;have ha:(Array.range (len*u.size)).map (λk=>j.zero.cells[k%j.zero.cells.size]!)=madeCells j.zero.cells (len*u.size):=rfl;have hq:Instr.fill (λi=>some (i*j.size,j.size)) (madeCells j.zero.cells (len*u.size)) (ps.map λ(x:Nat×Operand)=>(x.1,a.eval x.2)).toList=some cs':=by rw[hr];exact h3
 rw[hl]at hq ho;by_cases hz0:len*u.size=0
 ·have e0:(Array.range (len*u.size)).map (λk=>(#[]:Array Value)[k%(#[]:Array Value).size]!)=madeCells j.zero.cells (len*u.size):=by rw[hz0];simp[madeCells]
  simp only[Instr.buildSlice,run_underlying hw,sizeOf,typeInfo,Sem.run_bind,Sem.run_pure,Result.andThen_ok,run_program,hs,ho,if_pos hz0,if_neg (Nat.not_lt.2 hh),e0,hq,newRow,run_newObj,World.alloc_eq,gt_iff_lt]
 ·simp only[Instr.buildSlice,run_underlying hw,sizeOf,typeInfo,Sem.run_bind,Sem.run_pure,Result.andThen_ok,run_program,hs,ho,zeroValue,h0,if_neg hz0,if_neg (Nat.not_lt.2 hh),ha,hq,newRow,run_newObj,World.alloc_eq,gt_iff_lt]
end
def elm:Md->Md
 | .own _ k=>k
 |m=>m
def srcU(T:Tab)(ty e d:Nat)(u:Ty)(M0:Md)(o:Opd):Option (Ups×Md×List u.den):=
 match o with
 | .con (.slice none 0 0)=>some ([(d,.v (.slice u) (.own e M0) [],0)],M0,[])
 |o=>match o.val (.slice u)with
  |some (.own e' M,xs)=>if e'=e then(asgU T ty d o).map λus=>(us,M,xs)else none
  |_=>none
noncomputable def appU (T:Tab) (ty d t:Nat) (A X:Opd):Option (Bool×Ups):=
 match tl T t with
 |some (i,.slice u)=>match i.k with
  | .slice e=>match tl T e with
   |some (j,_)=>if 0<u.size/\j.bytes<=16384/\j.zero.cells.toList.length=u.size then
     match X.val (.slice u)with
     |some (mx,ys)=>if(elm mx).noown=true/\zkh u (elm mx)=true/\mx≠ .dead then
       match srcU T ty e d u (nm u (elm mx)) A with
       |some (us,M,xs)=>if leM u (elm mx) M then some (decide ((xs.length:Int)+(ys.length:Int)<=LIM),us++[(d,.v (.slice u) (.own e M) (xs++ys),0)])else none
       |none=>none else none
     |none=>none else none
   |none=>none
  |_=>none
 |_=>none
def bndV(o:Option Opd)(dflt:Int):Option Int:=
 match o with
 |none=>some dflt
 |some o=>o.ival.map (·.2)
def zcr(l h:Int)(n:Nat):Bool:=decide (0<=l)&&(decide (l<=h)&&decide (h<=(n:Int)))
def tailU(d:Nat)(o:Opd)(lo:Option Opd)(hi:Option Opd):Option (Bool×Ups):=
 match o,lo,hi with
 | .slot _ c root,some l,none=>match c.e with
  | .view r [] s=>match root.e with
   | .v (.slice _) (.own _ _) xs=>if root.h=s then(match bndV (some l) 0 with
    |some n=>some (zcr n (xs.length:Int) xs.length,[(d,.tail r s n.toNat,0)])
    |none=>none)else none
   |_=>none
  |_=>none
 |_,_,_=>none
def sliceU(T:Tab)(ty d t:Nat)(o:Opd)(lo hi:Option Opd):Option (Bool×Ups):=
 match tl T t with
 |some (_,.slice u)=>match o.val (.slice u)with
  |some (.sh,xs)=>match bndV lo 0,bndV hi (xs.length:Int)with
   |some l,some h=>some (zcr l h xs.length,[(d,.v (.slice u) .sh ((xs.take h.toNat).drop l.toNat),0)])
   |_,_=>none
  |some (.bw,xs)=>match bndV lo 0,bndV hi (xs.length:Int)with
   |some l,some h=>some (zcr l h xs.length,[(d,.v (.slice u) .bw ((xs.take h.toNat).drop l.toNat),0)])
   |_,_=>none
  |some (.own e M,xs)=>match lo with
   |some _=>tailU d o lo hi
   |none=>match bndV hi (xs.length:Int),asgU T ty d o with
    |some h,some us=>some (zcr 0 h xs.length,us++[(d,.v (.slice u) (.own e M) (xs.take h.toNat),0)])
    |_,_=>none
  |_=>none
 |some (_,.str)=>match o.val .str with
  |some (m,x)=>if m=.dead then none else match bndV lo 0,bndV hi ((x:List Int).length:Int)with
   |some l,some h=>some (zcr l h (x:List Int).length,[(d,.v .str .sh (((x:List Int).take h.toNat).drop l.toNat),0)])
   |_,_=>none
  |none=>none
 |_=>none
section
variable {P:Program} {c:Ctx} {σ:Env} {a:Act} {S:St} {T:Tab}
def Rows(P:Program)(S:St)(u:Ty)(k:Md)(ys:List u.den)(v:Value):Prop:=
 (v=.slice none 0 0/\ys=[])\/(∃ad,v=.slice (some ad) 0 0/\ys=[])\/∃b o cap,v=.slice (some ⟨b,o,none⟩) ys.length cap/\ys.length<=cap/\∀(i:Nat) (h:i<ys.length),∃q,Rel P u S k q ys[i] (blk S.w b (o+i*u.size))
def rows_of{u:Ty}{m:Md}{p:Place}{ys:List u.den}{v:Value}(h:SR P (.slice u) S m p ys v)(hm:m≠ .dead):Rows P S u (elm m) ys v:=by
 obtain⟨h1,_,h3⟩:=h.1;have hc:zab (.slice u) v 0=some v:=by simp[zab,Ty.agg]
 have shbw:(∃a' len cap,zab (.slice u) v 0=some (.slice a' len cap)/\len=ys.length/\len<=cap/\((ys=[]/\cap=0)\/∃b o',a'=some ⟨b,o',none⟩/\(ys≠ []->S.G m b)/\∀(i:Nat) (h:i<ys.length),Rel P u S m (px p i) ys[i] (blk S.w b (o'+i*u.size))))->Rows P S u m ys v:=λ⟨a',len,cap,h4,h5,h6,h7⟩=>by
  rw[hc]at h4;have hv:=xbi h4;subst h5;rcases h7 with⟨rfl,rfl⟩|⟨b,o',rfl,_,h8⟩
  ·cases a' with
   |none=>exact .inl ⟨hv,rfl⟩
   |some ad=>exact .inr (.inl ⟨ad,hv,rfl⟩)
  ·exact .inr (.inr ⟨b,o',cap,hv,h6,λi hi=>⟨_,h8 i hi⟩⟩)
 cases m with
 |dead=>exact absurd rfl hm
 |pr=>exact h3.elim
 |sh=>exact shbw h3
 |bw=>exact shbw h3
 |own e k=>
  obtain⟨h3,h4⟩:=h3;rw[hc]at h3;have hv:=xbi h3;rcases h4 with⟨h4,h5⟩|⟨g,cap,cur,h4,h5,h6,h7,h8,h9,h10⟩
  ·exact .inl ⟨hv.trans h4,h5⟩
  ·refine .inr (.inr ⟨g,0,cap,hv.trans h4,h7,λi hi=>⟨px p i,?_⟩⟩);rw[zlh h6];have:=h10 i hi;simpa[elm]using this
def Rows.fut{u:Ty}{k:Md}{ys:List u.den}{v:Value}{S':St}(h:Rows P S u k ys v)(hk:k.noown=true)(hf:Fut2 S S')(hw:S'.w=S.w):Rows P S' u k ys v:=by refine h.imp id (Or.imp id λ⟨b,o,cap,h1,h2,h3⟩=>⟨b,o,cap,h1,h2,λi hi=>?_⟩);obtain⟨q,h4⟩:=h3 i hi;exact⟨q,h4.free hk hf λj _=>by rw[hw]⟩
def rows_news{u:Ty}{k:Md}{b o:Nat}{ys:List u.den}(h:∀(i:Nat) (h:i<ys.length),∃q,Rel P u S k q ys[i] (blk S.w b (o+i*u.size))) :
  ∃news:List Value,news.length=ys.length*u.size/\(∀j w,news[j]?=some w->S.w.cell? ((⟨b,o,none⟩:Addr).add j)=some w)/\(∀w∈news,w.oneCell'=true)/\∀(i:Nat) (h:i<ys.length),∃q,Rel P u S k q ys[i] (λj=>news[i*u.size+j]?):=by
 rcases xdf u.size with hz|hz
 ·refine⟨[],by rw[hz];simp,λj w hj=>by simp at hj,by simp,λi hi=>?_⟩;obtain⟨q,h1⟩:=h i hi;exact⟨q,h1.cong λj hj=>by omega⟩
 have ha:∀k',k'<ys.length*u.size->∃w,blk S.w b o k'=some w/\w.oneCell'=true:=λk' hk'=>by
  have hi:k'/u.size<ys.length:=(xga hz).2 hk';obtain⟨q,h1⟩:=h _ hi;obtain⟨w,h2,h3⟩:=h1.cells (k'%u.size) (xfu _ hz);refine⟨w,?_,h3⟩;have he:o+k'/u.size*u.size+k'%u.size=o+k':=by rw[xdk,Nat.div_add_mod']
  have hc:S.w.cell? ⟨b,o+k'/u.size*u.size+k'%u.size,none⟩=some w:=h2;rw[he]at hc;exact hc
 obtain⟨news,h1,h2,h3⟩:=zvd ha;refine⟨news,h1,λj w hj=>?_,h3,λi hi=>?_⟩
 ·have hb:j<ys.length*u.size:=by
   rcases xeo j news.length with h'|h'
   ·omega
   ·rw[xdm h']at hj;cases hj
  rw[h2 j hb]at hj;rw[zff];exact hj
 ·obtain⟨q,h4⟩:=h i hi;refine⟨q,h4.cong λj hj=>?_⟩;have hb:i*u.size+j<ys.length*u.size:=by have:(i+1)*u.size<=ys.length*u.size:=xau _ hi;rw[xco]at this;omega
  show news[i*u.size+j]?=_;rw[h2 _ hb];simp[blk,xdk]
def Rows.news{u:Ty}{k:Md}{ys:List u.den}{v:Value}(h:Rows P S u k ys v):(v=.slice none 0 0/\ys=[])\/∃ad cap,v=.slice (some ad) ys.length cap/\ys.length<=cap /\
  ∃news:List Value,news.length=ys.length*u.size/\(∀j w,news[j]?=some w->S.w.cell? (ad.add j)=some w)/\(∀w∈news,w.oneCell'=true)/\∀(i:Nat) (h:i<ys.length),∃q,Rel P u S k q ys[i] (λj=>news[i*u.size+j]?):=by
 rcases h with h|⟨ad,h1,rfl⟩|⟨b,o,cap,h1,h2,h3⟩
 ·exact .inl h
 ·refine .inr ⟨ad,0,h1,xag 0,([]:List Value),(xfr _).symm,?_,?_,λi h=>absurd h (Nat.not_lt_zero i)⟩;·intro j w h;simp at h
  ·intro w h;cases h
 ·exact .inr ⟨_,cap,h1,h2,rows_news h3⟩
def put_put(a:Act)(d:Nat)(v v':Value):(a.put (some d) v).put (some d) v'=a.put (some d) v':=by simp[Act.put]
def InvOf.regrow(h:InvOf P c σ a S){d:Nat}(hd:d<c.N){u:Ty}{e:TypeId}{M:Md}{xs zs:List u.den}(he:(σ d).e=.v (.slice u) (.own e M) xs){w':World}(hg:S.w.grownBy w' (S.hv (d,[])).ownBlock){v':Value}
  (hb:∀b,v'.ownBlock=some b->(S.hv (d,[])).ownBlock=some b\/(b=S.w.heap.size/\b<w'.heap.size)) {cs:List Value} (ho:w'.ownsRow 0 e u.size v' zs.length cs) (hl:zs.length<=zpf)
  (hz:∀S',S'.w=w'->(∀q,Tr true S S' (d,q) (d,q)\/q=[])->Fut2 S S'->∀(i:Nat) (h:i<zs.length),Rel P u S' M (d,[i]) zs[i] (λj=>cs[i*u.size+j]?)) :
  ∃S',S'.w=w'/\S'.F=S.F/\S'.B=S.B/\InvOf P c (zdv σ d (.v (.slice u) (.own e M) zs) 0) (a.put (some d) v') S':=by
 let S':St:={S with w:=w',own:=λb=>if v'.ownBlock=some b then some (d,[])else S.own b,hv:=λz=>if z=(d,[])then v' else S.hv z};have hw:=h.slot he;have hu:0<u.size:=hw.1.2.1;have hm:∀b,(S.hv (d,[])).ownBlock=some b->S.own b=some (d,[]):=λb hbb=>by
  rcases hw.1.2.2.2 with⟨h1,_⟩|⟨g,cap,cur,h1,h2,_⟩
  ·rw[h1]at hbb;cases hbb
  ·rw[h1]at hbb;cases hbb;exact h2
 have ha:∀b,b<S.w.heap.size->S.own b≠some (d,[])->w'.heap[b]?=S.w.heap[b]?:=λb hc hk=>hg.block b hc λhh=>hk (hm b hh.symm);have hf:∀b,b<S.w.heap.size->S.own b≠some (d,[])->S'.own b=S.own b:=λb hc hk=>if_neg λhh=>by
  rcases hb b hh with h1|⟨h1,_⟩
  ·exact hk (hm b h1)
  ·omega
 have hn:Fut2 S S':=⟨λb hb=>⟨hb,ha b (h.wlt (.inl hb)) (by rw[(h.shared b hb).1];simp)⟩,λb hb=>⟨.inr hb,ha b (h.wlt (.inr (.inl hb))) (by rw[(h.WF.borrowed b hb).1];simp)⟩⟩;have h0:∀q,Tr true S S' (d,q) (d,q)\/q=[]:=λq=>by
  by_cases hq:q=[];·exact .inr hq
  ·refine .inl ⟨λ_ h=>h,λb hb=>(hn.F b hb).2,λ_ _ h=>.inr h,λ_ b hb=>(hn.B b hb).2,λr=>if_neg λhh=>?_,λb r hbb=>?_⟩;·simp only[pa,xaw,xgl,xjo]at hh;exact hq hh.1
   ·have hk:S.own b≠some (d,[]):=by rw[hbb];intro hh;simp only[pa,xaq,xaw,xgl,xjo]at hh;exact hq hh.1
    have hc:=h.wlt (.inr (.inr ⟨_,hbb⟩));exact⟨(hf b hc hk).trans hbb,ha b hc hk⟩
 refine⟨S',rfl,rfl,rfl,h.rebuild (λt=>t=d) (λr _=>zhc (λ_=>xag _) r) (by simpa[Act.put]using h.defers) (by simpa[Act.put]using h.size) (λt ht=>⟨zao σ _ _ ht,zbn ht⟩) (λr hr=>?_) (λt ht=>?_)
  (λ_ h=>h) (λb hb=>(hn.F b hb).2) rfl (λb hb=>(hn.B b hb).2) (λt ht q=>if_neg (λhe=>ht (by cases he;rfl))) (λt ht b q hbb=>?_) (λb hbb=>⟨?_,xav (h.shared b hbb).2.1 hg.size,(h.shared b hbb).2.2⟩) (λb hbb=>?_) (λb p hp=>?_)
  hg.os hg.tape hg.output hg.size (λb hc hO=>?_)⟩
 ·subst hr;exact⟨by rw[zah];exact xag _,.inl (by rw[zah];exact xbw _)⟩
 ·subst ht;refine .v (zbs σ t _ 0) ?_;rw[zak (by rw[h.size];exact hd)];have hx:S'.hv (t,[])=v':=if_pos rfl;refine⟨⟨hl,hu,by rw[hx];simp[zab,Ty.agg],?_⟩,λh=>by cases h⟩;rw[hx];obtain⟨h8,hy⟩:=ho;rcases hy with⟨h1,h2⟩|⟨g,cap,cur,h1,_,h2,h3,h4,h5,h6⟩
  ·exact .inl ⟨h1,xef h2⟩
  ·refine .inr ⟨g,cap,cur,h1,if_pos (by rw[h1];rfl),h2,h3,h4,h5,λi hi=>?_⟩;have:=hz S' rfl h0 hn i hi;have h7:px (t,([]:List Nat)) i=(t,[i]):=rfl;rw[h7];refine this.cong λj hj=>?_;have hc:i*u.size+j<zs.length*u.size:=by have:(i+1)*u.size<=zs.length*u.size:=xau _ hi;rw[xco]at this;omega
   rw[<-h6,xdv,if_pos hc,xbe]
 ·have hk:S.own b≠some (d,[]):=by rw[hbb];intro hh;cases hh;exact ht rfl
  have hc:=h.wlt (.inr (.inr ⟨_,hbb⟩));exact⟨(hf b hc hk).trans hbb,ha b hc hk⟩
 ·exact(hf b (h.wlt (.inl hbb)) (by rw[(h.shared b hbb).1];simp)).trans (h.shared b hbb).1
 ·exact(hf b (xav (h.borrowed b hbb).2.1 h.grown) (by rw[(h.borrowed b hbb).1];simp)).trans (h.borrowed b hbb).1
 ·have hs:(if v'.ownBlock=some b then some (d,[])else S.own b)=some p:=hp;split at hs
  ·rename_i hh;rcases hb b hh with h1|⟨h1,h2⟩
   ·have:=h.owned b _ (hm b h1);exact⟨xav this.1 hg.size,this.2⟩
   ·exact⟨h2,.inl (by rw[h1];exact h.grown)⟩
  ·exact⟨xav (h.owned b p hs).1 hg.size,(h.owned b p hs).2⟩
 ·refine ha b (xav hc h.grown) λhh=>?_;rcases(h.owned b _ hh).2 with h1|h1
  ·omega
  ·exact hO h1
def zmj:∀(us vs:Ups) (σ:Env),upd (us++vs) σ=upd vs (upd us σ)
 | [],_,_=>rfl
 |(_,_,_)::us,vs,_=>zmj us vs _
end
section
variable {P:Program} {c:Ctx} {σ:Env} {a:Act} {S:St} {T:Tab}
def src_sound(h:InvOf P c σ a S){ty e d:Nat}(hd:d<c.N){u:Ty}{M0 M:Md}{A:Operand}{us:Ups}{xs:List u.den}(hpos:0<u.size)(hx:srcU T ty e d u M0 (zar σ A)=some (us,M,xs)) :
  ∃S1,S1.w=S.w/\S1.F=S.F/\S1.B=S.B/\InvOf P c (upd us σ) (a.put (some d) (a.eval A)) S1/\(upd us σ d).e=.v (.slice u) (.own e M) xs/\a.eval A=S1.hv (d,[]):=by
 unfold srcU at hx;split at hx;rotate_left
 ·split at hx;case h_2=>cases hx
  rename_i e' M' xs' hv;split at hx;case isFalse=>cases hx
  rename_i hk;subst hk;simp only[xac,xaw]at hx;obtain⟨us',h1,rfl,rfl,rfl⟩:=hx;obtain⟨S1,h2,h3,h4,h5⟩:=zuj h hd h1;have he:(upd us' σ d).e=.v (.slice u) (.own e' M') xs':=by
   cases A with
   |const v=>simp only[zar,Opd.val,xac,xaw]at hv;obtain⟨_,_,hv,_⟩:=hv;cases hv
   |func f=>simp[zar,Opd.val]at hv
   |global g=>simp[zar,Opd.val]at hv
   |tmp s=>
    simp only[zar,Opd.val]at hv;simp only[zar,asgU]at h1;split at hv
    ·rename_i t m x he;simp only[xac,xaw]at hv;obtain⟨z,h6,rfl,rfl⟩:=hv;have:=TV.to_some h6;cases this;rw[he]at h1;simp only[Md.noown,xbb,xcg]at h1;split at h1;·cases h1
     ·rename_i hl;cases h1;show(zdv (zdv σ s .dead 0) d _ 0 d).e=_;rw[zbs]
    ·rename_i r π s' he;have hi:zdj σ (σ s).e=σ r:=by rw[he];rfl
     rw[hi]at hv h1;rw[he]at h1;simp only at h1;split at hv;case h_2=>cases hv
     rename_i tr mr xr ha;rw[ha]at h1;simp only at h1;split at hv;case isFalse=>cases hv
     rename_i hb;rw[if_pos hb.1]at h1;split at hv;case h_2=>cases hv
     rename_i e2 k2 y2 hm hg;simp only[xac,xaw]at hv;obtain⟨z,h6,h7,rfl⟩:=hv;have:=TV.to_some h6;subst this;cases h7;rw[hm,hg]at h1;simp only at h1;split at h1
     ·rename_i hj;split at h1;case isFalse=>cases h1
      rename_i hπ;cases h1;subst hπ hj;simp only[zcc,xaq]at hg;cases hg;simp only[zbr,xaq]at hm;subst hm;exact ha
     ·split at h1;·cases h1;show(zdv (zdv σ r .dead 0) d _ 0 d).e=_;rw[zbs]
      ·split at h1;·cases h1;show(zdv (zdv σ r _ 2) d _ 0 d).e=_;rw[zbs]
       ·cases h1
    ·cases hv
  have hf:=h5.hdr he;rw[zak (by rw[h.size];exact hd)]at hf;exact⟨S1,h2,h3,h4,h5,he,hf⟩
 ·rename_i hA;cases hx;have hh:a.eval A=.slice none 0 0:=by cases A<;>simp only[zar]at hA<;>first | (cases hA;done) | (cases hA;rfl)
  let S1:St:={S with hv:=λz=>if z=(d,[])then .slice none 0 0 else S.hv z};have hc:S1.hv (d,[])=.slice none 0 0:=if_pos rfl;refine⟨S1,rfl,rfl,rfl,h.put (S':=S1) (.refl _) rfl rfl hd (λt ht q=>if_neg λhe=>ht (by cases he;rfl)) (λ_=>.inl rfl) ?_,zbs σ d _ 0,by rw[hh,hc]⟩;refine .v (zbs σ d _ 0) ?_;rw[zak (by rw[h.size];exact hd),hh];exact⟨⟨xbx _,hpos,by rw[hc];simp[zab,Ty.agg],.inl ⟨hc,rfl⟩⟩,λh=>by cases h⟩
def app_sound(h:InvOf P c σ a S)(hT:TabOK P T){t rt ty d:Nat}(hd:d<c.N){A X:Operand}{us:Ups}{ob:Bool}(hx:appU T ty d t (zar σ A) (zar σ X)=some (ob,us))(hob:ob=true) :
  ∃v w',(Builtin.append_ #[t,t] rt #[a.eval A,a.eval X]).run P S.w=.ok v w'/\Inv P c (upd us σ) (a.put (some d) v) w':=by
 unfold appU at hx;split at hx;case h_2=>cases hx
 rename_i i u ht;split at hx;case h_2=>cases hx
 rename_i e he;split at hx;case h_2=>cases hx
 rename_i j u2 h0;split at hx;case isFalse=>cases hx
 rename_i ha;obtain⟨hl,jn,jk⟩:=ha;split at hx;case h_2=>cases hx
 rename_i mx ys hv;split at hx;case isFalse=>cases hx
 rename_i ha;obtain⟨jb,jt,jh⟩:=ha;split at hx;case h_2=>cases hx
 rename_i us0 M xs hz;split at hx;case isFalse=>cases hx
 rename_i je;simp only[xaq,xaw]at hx;obtain⟨rfl,rfl⟩:=hx;have jq:(xs.length:Int)+ys.length<=4294967296:=by have:=xbc hob;rw[zia]at this;exact this
 obtain⟨jr,_,_,hm⟩:=hT.kind ht;obtain⟨_,d1,_,ja,_,_,_,jm⟩:=zbj jr;obtain⟨e2,i2,jd,hh,_⟩:=zdx hm;rw[he]at jd;cases jd;rw[h0]at hh;cases hh;have:=zfz (jm.trans (xbr some he));subst this;obtain⟨hr,hw,_,_⟩:=hT.kind h0;obtain⟨j',d',hn,ju,jg,jl,ji,_⟩:=zbj hr;obtain⟨p,hs⟩:=h.val hv;have hk:=rows_of hs jh;obtain⟨S1,h1,h2,h3,h4,h5,h6⟩:=src_sound h hd hl hz;have hf:Fut2 S S1:=⟨λb hb=>⟨by rw[h2];exact hb,by rw[h1]⟩,λb hb=>⟨.inr (by rw[h3];exact hb),by rw[h1]⟩⟩;have hc:=hk.fut jb hf h1;have jc:=h4.slot h5;have jp:xs.length<=zpf:=jc.1.1;have jv:tmv (a.put (some d) (a.eval A)) d=a.eval A:=zak (by rw[h.size];exact hd);have hy:∃cs,S1.w.ownsRow 0 e u.size (a.eval A) xs.length cs/\∀(i:Nat) (h:i<xs.length),Rel P u S1 M (d,[i]) xs[i] (λj=>cs[i*u.size+j]?):=by
  rcases jc.1.2.2.2 with⟨h7,h8⟩|⟨g,cap,cur,h7,h8,h9,hp,hu,h12,h13⟩
  ·subst h8;rw[<-h6]at h7;rw[h7];exact⟨[],World.ownsRow_nil _ _ _ _,λi hi=>by simp at hi⟩
  ·rw[<-h6]at h7;rw[h7];have je:xs.length*u.size<=cur.size:=by rw[h12];exact xau _ hp
   refine⟨cur.toList.take (xs.length*u.size),⟨by simp;omega,.inr ⟨g,cap,cur,rfl,xbx _,h9,hp,hu,h12,rfl⟩⟩,λi hi=>?_⟩;refine(h13 i hi).cong λj hj=>?_;have hg:i*u.size+j<xs.length*u.size:=by have:(i+1)*u.size<=xs.length*u.size:=xau _ hi;rw[xco]at this;omega
   rw[xdv,if_pos hg,xbe]
 obtain⟨cs,ho,jo⟩:=hy;have oldEl:∀(S':St),(∀q,Tr true S1 S' (d,q) (d,q)\/q=[])->∀(i:Nat) (h:i<xs.length),Rel P u S' M (d,[i]) xs[i] (λj=>cs[i*u.size+j]?):=λS' htr i hi=>
  (jo i hi).mono (.inl rfl) ((htr [i]).resolve_right (by simp)) λ_ _=>rfl
 have jj:xs.length+ys.length<=4294967296:=by omega
 rw[<-h1];rcases hc.news with⟨hX,hy0⟩|⟨ad,cap,hX,hcap,news,hn1,hn2,hn3,hn4⟩
 ·subst hy0;rw[hX];obtain⟨S',q1,q2,q3,q4⟩:=h4.regrow hd h5 (w':=S1.w) (v':=a.eval A) (zs:=xs++[]) (cs:=cs) (by rw[<-h6];exact⟨rfl,rfl,rfl,xag _,λ_ _ _=>rfl⟩) (λb hb=>.inl (by rw[<-h6];exact hb)) (by rw[xbn];exact ho) (by rw[xbn];exact jp)
   λS' _ htr _ i hi=>by
    have hn:i<xs.length:=by simpa using hi
    have:=oldEl S' htr i hn;simpa using this
  refine⟨a.eval A,S1.w,run_append_owned_none (P:=P) (w:=S1.w) 0 t rt e j' u.size ja hn _ xs.length cs ho,S',q1,?_⟩;rw[zmj];rw[put_put]at q4;exact q4
 ·rw[hX];obtain⟨v',w',h7,h8,h9,hp⟩:=zsi (P:=P) (w:=S1.w) t rt e j' j.zero u.size j.bytes ja hn jg (by rw[jl,hw]) ji (by simpa using jk) hl (a.eval A) xs.length cs ho ad ys.length cap news hn1 hn2 hn3
   (by unfold maxLen;omega) (xay (xcu jj jn) (by decide))
  obtain⟨S',q1,q2,q3,q4⟩:=h4.regrow hd h5 (w':=w') (v':=v') (zs:=xs++ys) (cs:=cs++news) (by rw[<-h6];exact h9) (λb hb=>by rw[<-h6];exact hp b hb) (by rw[xbo];exact h8) (by rw[xbo];unfold zpf;omega)
   λS' hw' htr hf2 i hi=>by
    rw[xbo]at hi;have js:cs.length=xs.length*u.size:=ho.1;rcases xeo i xs.length with hg|hge
    ·have:=oldEl S' htr i hg;rw[List.getElem_append_left hg];refine this.cong λj hj=>?_;have hq:i*u.size+j<cs.length:=by have:(i+1)*u.size<=xs.length*u.size:=xau _ hg;rw[xco]at this;omega
     exact xfl hq
    ·obtain⟨q,hu⟩:=hn4 (i-xs.length) (by omega);rw[List.getElem_append_right hge];refine(hu.free jb hf2 λj hj=>?_).weaken je
     ·have jf:i*u.size=xs.length*u.size+(i-xs.length)*u.size:=by rw[<-xco];congr 1;omega
      rw[xde (by omega)];congr 1;omega
  refine⟨v',w',h7,S',q1,?_⟩;rw[zmj];rw[put_put]at q4;exact q4
def bnd_run(h:InvOf P c σ a S){o:Option Operand}{dflt n:Int}(hb:bndV (o.map (zar σ)) dflt=some n):(o=none/\n=dflt)\/∃k x,o=some x/\a.eval x=.int k n:=by
 cases o with
 |none=>simp only[xil,bndV]at hb;cases hb;exact .inl ⟨rfl,rfl⟩
 |some x=>simp only[xch,bndV,xac]at hb;obtain⟨⟨k,m⟩,h1,rfl⟩:=hb;exact .inr ⟨k,x,rfl,(h.ival h1).1⟩
def zim(h:InvOf P c σ a S){lo hi:Option Operand}{len cap:Nat}{l u:Int}(q:Bool)(hl:bndV (lo.map (zar σ)) 0=some l)(hh:bndV (hi.map (zar σ)) len=some u)(h0:0<=l)(h1:l<=u)(h2:u<=len)(hc:len<=cap) :
  (Instr.sliceBounds q len cap (lo.map a.eval) (hi.map a.eval) none).run P S.w=.ok (l.toNat,u.toNat,cap) S.w:=by
 obtain⟨l,rfl⟩:=xhw h0;obtain⟨u,rfl⟩:=xhw (Int.le_trans h0 h1);have hb:l<=u:=by omega
 have ha:u<=cap:=by omega
 rcases bnd_run h hl with⟨rfl,he⟩|⟨k,x,rfl,hx⟩
 ·have:l=0:=by omega
  subst this;rcases bnd_run h hh with⟨rfl,he2⟩|⟨k',x',rfl,hx'⟩
  ·have:u=len:=by omega
   subst this;simp[Instr.sliceBounds]
  ·simp[Instr.sliceBounds,Instr.sliceBound,hx',asIntOf,ha]
 ·rcases bnd_run h hh with⟨rfl,he2⟩|⟨k',x',rfl,hx'⟩
  ·have:u=len:=by omega
   subst this;simp[Instr.sliceBounds,Instr.sliceBound,hx,asIntOf,hb]
  ·simp[Instr.sliceBounds,Instr.sliceBound,hx,hx',asIntOf,hb,ha]
def cut_of{l h:Int}{n:Nat}(hc:zcr l h n=true):0<=l/\l<=h/\h<=n:=by simp only[zcr,xal,xak]at hc;exact hc
def SR.cut{M:Md}(hM:M=.sh\/M=.bw){u:Ty}{p:Place}{xs:List u.den}{v:Value}(h:SR P (.slice u) S M p xs v){l r:Nat}(hlr:l<=r)(hr:r<=xs.length) :
  ∃(b:Option Addr) (cap:Nat),v=.slice b xs.length cap/\xs.length<=cap/\SR P (.slice u) S M p ((xs.take r).drop l) (.slice (if cap=l then b else b.map (·.add (l*u.size))) (r-l) (cap-l)):=by
 obtain⟨h1,h2,h3⟩:=h.1;have hc:∀v,zab (.slice u) v 0=some v:=λv=>by simp[zab,Ty.agg]
 have hd:∃a' len cap,zab (.slice u) v 0=some (.slice a' len cap)/\len=xs.length/\len<=cap/\((xs=[]/\cap=0)\/∃b o',a'=some ⟨b,o',none⟩/\(xs≠ []->S.G M b)/\∀(i:Nat) (h:i<xs.length),Rel P u S M (px p i) xs[i] (blk S.w b (o'+i*u.size))):=by rcases hM with rfl|rfl<;>exact h3
 obtain⟨a',len,cap,h4,h5,h6,h7⟩:=hd;rw[hc]at h4;have hv:=xbi h4;subst h5;have ha:((xs.take r).drop l).length=r-l:=by rw[xeq,xax,xfm hr]
 refine⟨a',cap,hv,h6,?_,λh=>by cases h⟩;have goal:∃a2 len2 cap2,zab (.slice u) (.slice (if cap=l then a' else a'.map (·.add (l*u.size))) (r-l) (cap-l)) 0=some (.slice a2 len2 cap2)/\len2=((xs.take r).drop l).length/\len2<=cap2/\(((xs.take r).drop l=[]/\cap2=0)\/∃b o',a2=some ⟨b,o',none⟩/\((xs.take r).drop l≠ []->S.G M b)/\∀(i:Nat) (h:i<((xs.take r).drop l).length),Rel P u S M (px p i) ((xs.take r).drop l)[i] (blk S.w b (o'+i*u.size))):=by
  refine⟨_,_,_,hc _,ha.symm,by omega,?_⟩;rcases h7 with⟨rfl,rfl⟩|⟨b,o',rfl,hG,h8⟩
  ·left;exact⟨by simp,by omega⟩
  ·right;by_cases hcl:cap=l;·have hz:(xs.take r).drop l=[]:=xfy (by rw[xax];omega);exact⟨b,o',by rw[if_pos hcl],λhne=>absurd hz hne,λi hi=>by rw[hz]at hi;simp at hi⟩
   ·refine⟨b,o'+l*u.size,by rw[if_neg hcl];simp[zff],λhne=>hG (by rintro rfl;simp at hne),λi hi=>?_⟩;have hb:l+i<xs.length:=by omega
    have:=h8 (l+i) hb;have he:((xs.take r).drop l)[i]=xs[l+i]:=by rw[List.getElem_drop,xgj]
    rw[he];have h9:Rel P u S M (px p i) xs[l+i] (blk S.w b (o'+(l+i)*u.size)):=this.fut hM ((Fut2.refl S).sh _) λ_ _=>rfl;have ho:o'+l*u.size+i*u.size=o'+(l+i)*u.size:=by rw[xco];omega
    rw[ho];exact h9
 have hf:((xs.take r).drop l).length<=zpf:=by omega
 rcases hM with rfl|rfl<;>exact⟨hf,h2,goal⟩
def tail_sound(h:InvOf P c σ a S){t e e' d:Nat}{j':TypeInfo}{u:Ty}{M:Md}{xs:List u.den}(hd:d<c.N)(ht:P.underlying t=some (.slice e))(hi:P.info? e=some j')(hs:j'.size=u.size){A lop:Operand}{hi0:Option Operand}(hv:(zar σ A).val (.slice u)=some (.own e' M,xs))
  {us:Ups} {ob:Bool} (hx:tailU d (zar σ A) (some (zar σ lop)) (hi0.map (zar σ))=some (ob,us)) (hob:ob=true) :
  ∃v,(Instr.sliceAt t (a.eval A) ((some lop).map a.eval) (hi0.map a.eval) none).run P S.w=.ok v S.w/\Inv P c (upd us σ) (a.put (some d) v) S.w:=by
 unfold tailU at hx;split at hx;case h_2=>cases hx
 rename_i s0 c0 root l0 hA ho hr;cases ho;have hl:hi0=none:=by cases hi0<;>first | rfl | cases hr
 subst hl;cases A with
 |const v=>simp[zar]at hA
 |func f=>simp[zar]at hA
 |global g=>simp[zar]at hA
 |tmp s=>
  simp only[zar,Opd.slot.injEq]at hA;obtain⟨rfl,rfl,rfl⟩:=hA;split at hx;case h_2=>cases hx
  rename_i r s' he;have hk:zdj σ (σ s).e=σ r:=by rw[he];rfl
  rw[hk]at hx;split at hx;case h_2=>cases hx
  rename_i u' e2 M2 xs2 ha;split at hx;case isFalse=>cases hx
  rename_i hb;split at hx;case h_2=>cases hx
  rename_i n hn;simp only[xaq,xaw]at hx;obtain⟨rfl,rfl⟩:=hx;obtain⟨c1,c2,_⟩:=cut_of hob;obtain⟨n,rfl⟩:=xhw c1;have hj:n<=xs2.length:=by omega
  have hu:u'=u:=by
   simp only[zar,Opd.val,hk]at hv;rw[he]at hv;simp only[ha]at hv;split at hv;case isFalse=>cases hv
   simp only[zbr,zcc]at hv;simp only[xac,xaw]at hv;obtain⟨z,h6,_,_⟩:=hv;have:=TV.to_some h6;cases this;rfl
  subst hu;obtain⟨_,hm⟩:=(h.ent s).view he;obtain⟨_,_,hf⟩:=hm _ _ _ ha hb;have hf:=hf rfl;have hq:=h.slot ha;have hh:bndV ((some lop).map (zar σ)) 0=some (n:Int):=hn;have fin:∀(v:Value),(Instr.sliceAt t (a.eval (.tmp s)) ((some lop).map a.eval) none none).run P S.w=.ok v S.w->TailV (S.hv (r,[])) n u'.size v->∃v,(Instr.sliceAt t (a.eval (.tmp s)) ((some lop).map a.eval) ((none:Option Operand).map a.eval) none).run P S.w=.ok v S.w/\Inv P c (upd [(d,.tail r s' (n:Int).toNat,0)] σ) (a.put (some d) v) S.w:=λv h1 h2=>
   ⟨v,h1,S,rfl,h.puttail hd ⟨by rw[<-hb];exact xag _,λt m x hx _=>by rw[ha]at hx;cases hx;exact⟨_,rfl,h2⟩⟩⟩
  rcases hq.1.2.2.2 with⟨q1,q2⟩|⟨g,cap,cur,q1,q2,q3,q4,_⟩
  ·have hp:n=0:=by rw[q2]at hj;simpa using hj
   subst hp;have hc:=zim (P:=P) h (lo:=some lop) (hi:=none) (len:=0) (cap:=0) true hh rfl (by omega) (by omega) (by omega) (xag _);refine fin (.slice none 0 0) ?_ (.inl ⟨none,none,0,0,rfl,q1⟩);rw[zbf,hf,q1];simp only[xam,xil,xch]at hc;simp[Instr.sliceAt,Instr.slice,run_underlying ht,hc,sizeOf,typeInfo,hi,hs]
  ·have hc:=zim (P:=P) h (lo:=some lop) (hi:=none) (len:=xs2.length) (cap:=cap) true hh rfl (by omega) (by omega) (by omega) q4;have hg:a.eval (.tmp s)=.slice (some ⟨g,0,none⟩) xs2.length cap:=by rw[zbf,hf,q1]
   simp only[xam,xil,xch]at hc;refine fin (.slice (if cap=n then some ⟨g,0,none⟩else some ⟨g,n*u'.size,none⟩) (xs2.length-n) (cap-n)) ?_ ?_;·rw[hg];simp[Instr.sliceAt,Instr.slice,run_underlying ht,hc,sizeOf,typeInfo,hi,hs,zff]
   ·rw[q1];by_cases hlt:n<xs2.length
    ·have:¬cap=n:=by omega
     rw[if_neg this];exact .inr ⟨g,_,_,_,rfl,hlt,rfl⟩
    ·have e0:xs2.length-n=0:=by omega
     have e1:xs2.length=n:=by omega
     rw[e0];exact .inl ⟨_,_,_,_,rfl,by rw[e1]⟩
def slice_sound(h:InvOf P c σ a S)(hT:TabOK P T){t ty d:Nat}(hd:d<c.N){A:Operand}{lo hi:Option Operand}{us:Ups}{ob:Bool}(hx:sliceU T ty d t (zar σ A) (lo.map (zar σ)) (hi.map (zar σ))=some (ob,us))(hob:ob=true) :
  ∃v,(Instr.sliceAt t (a.eval A) (lo.map a.eval) (hi.map a.eval) none).run P S.w=.ok v S.w/\Inv P c (upd us σ) (a.put (some d) v) S.w:=by
 unfold sliceU at hx;split at hx;case h_3=>cases hx
 ·rename_i i u ht;obtain⟨jb,_,_,ha⟩:=hT.kind ht;obtain⟨_,d1,_,hp,_,_,_,hz⟩:=zbj jb;obtain⟨e,i1,hk,jf,ja⟩:=zdx ha;have:=zfz (hz.trans (xbr some hk));subst this;obtain⟨hq,hn,_,_⟩:=hT.kind jf;obtain⟨j',d',hf,jn,_,hy,_,_⟩:=zbj hq;have key:∀{M:Md} {xs:List u.den} {l r:Int},M=.sh\/M=.bw->(zar σ A).val (.slice u)=some (M,xs)->bndV (lo.map (zar σ)) 0=some l->bndV (hi.map (zar σ)) (xs.length:Int)=some r->zcr l r xs.length=true ->
    ∃v,(Instr.sliceAt t (a.eval A) (lo.map a.eval) (hi.map a.eval) none).run P S.w=.ok v S.w/\Inv P c (upd [(d,.v (.slice u) M ((xs.take r.toNat).drop l.toNat),0)] σ) (a.put (some d) v) S.w:=by
   intro M xs l r hM hv hl hr hc;obtain⟨h0,h1,h2⟩:=cut_of hc;obtain⟨p,hs⟩:=h.val hv;obtain⟨b,cap,h3,h4,h5⟩:=hs.cut hM (l:=l.toNat) (r:=r.toNat) (by omega) (by omega);have hg:=zim (P:=P) h true hl hr h0 h1 h2 h4;refine⟨_,?_,S,rfl,h.putE (e:=.v (.slice u) M _) hd ⟨by rcases hM with rfl|rfl<;>rfl,p,h5⟩⟩;rw[h3];simp[Instr.sliceAt,Instr.slice,run_underlying hp,hg,sizeOf,typeInfo,hf,hy,hn]
  split at hx
  ·rename_i xs hv;split at hx;case h_2=>cases hx
   rename_i l r hl hr;simp only[xaq,xaw]at hx;obtain⟨rfl,rfl⟩:=hx;exact key (.inl rfl) hv hl hr hob
  ·rename_i xs hv;split at hx;case h_2=>cases hx
   rename_i l r hl hr;simp only[xaq,xaw]at hx;obtain⟨rfl,rfl⟩:=hx;exact key (.inr rfl) hv hl hr hob
  ·rename_i e' M xs hv;split at hx
   ·rename_i lo' he;obtain⟨lop,rfl,rfl⟩:∃lop,lo=some lop/\lo'=zar σ lop:=by
     cases lo with
     |none=>cases he
     |some lop=>cases he;exact⟨lop,rfl,rfl⟩
    exact tail_sound h hd hp hf (by rw[hy,hn]) hv hx hob
   rename_i ji;split at hx;case h_2=>cases hx
   rename_i r us0 hr jh;simp only[xaq,xaw]at hx;obtain⟨rfl,rfl⟩:=hx;have he:lo=none:=by cases lo<;>first | rfl | cases ji
   subst he;obtain⟨h0,h1,h2⟩:=cut_of hob;have h9:∀A',zar σ A'=zar σ A->A'=A->srcU T ty e' d u .sh (zar σ A)=some (us0,M,xs):=λA' _ _=>by
    unfold srcU;split;·rename_i hw;rw[hw]at hv;simp only[Opd.val,xac,xaw]at hv;obtain⟨_,_,hv,_⟩:=hv;cases hv
    ·rw[hv];simp only[if_true,jh,xch]
   obtain⟨S1,h3,h4,h5,h6,h7,h8⟩:=src_sound h hd ja (h9 A rfl rfl);have hu:=h6.slot h7;obtain⟨p,hs⟩:=h.val hv;obtain⟨ad,cap,hA,jm⟩:=zqd hs (by simp);have ho:xs.length<=cap/\(ad=none->cap=0/\xs=[])/\(∀x,ad=some x->∃g,x=⟨g,0,none⟩):=by
    rcases hu.1.2.2.2 with⟨q1,q2⟩|⟨g,cap',cur,q1,q2,q3,q4,_⟩
    ·rw[<-h8,hA]at q1;simp only[Value.slice.injEq]at q1;obtain⟨rfl,_,rfl⟩:=q1;exact⟨by rw[q2];exact xag _,λ_=>⟨rfl,q2⟩,(λx hx=>by cases hx)⟩
    ·rw[<-h8,hA]at q1;cases q1;exact⟨q4,(λh=>by cases h),(λx hx=>⟨g,by cases hx;rfl⟩)⟩
   have hg:=zim (P:=P) h (lo:=none) true rfl hr h0 h1 h2 ho.1;have jc:(if cap=(0:Int).toNat then ad else ad.map (·.add ((0:Int).toNat*u.size)))=ad:=by
    split;·rfl
    ·cases ad with
     |none=>rfl
     |some x=>obtain⟨g,rfl⟩:=ho.2.2 x rfl;simp[Addr.add]
   refine⟨.slice ad r.toNat cap,?_,?_⟩;·rw[hA];simp only[Int.toNat_zero]at hg jc;simp only[xil]at hg;have jd:(if cap=0 then ad else ad.map (·.add (0*u.size)))=ad:=jc;simp[Instr.sliceAt,Instr.slice,run_underlying hp,hg,sizeOf,typeInfo,hf,hy,hn];intro jg;rw[if_neg jg]at jd;simpa using jd
   ·rw[zmj,<-h3];obtain⟨S',q1,q2,q3,q4⟩:=h6.regrow hd h7 (w':=S1.w) (v':=.slice ad r.toNat cap) (zs:=xs.take r.toNat) (cs:=(match S1.w.heap[((ad.map (·.block)).getD 0)]? with|some (Obj.cells cur _ _)=>cur.toList.take (r.toNat*u.size)|_=>[]))
     ⟨rfl,rfl,rfl,xag _,λ_ _ _=>rfl⟩ (λb hb=>.inl (by rw[<-h8,hA];cases ad<;>simp_all[Value.ownBlock]))
     (by
      have hh:(xs.take r.toNat).length=r.toNat:=by rw[xax];omega
      rw[hh];rcases hu.1.2.2.2 with⟨z1,z2⟩|⟨g,cap',cur,z1,z2,z3,z4,z5,z6,z7⟩
      ·rw[<-h8,hA]at z1;simp only[Value.slice.injEq]at z1;obtain⟨rfl,_,rfl⟩:=z1;have:r.toNat=0:=by rw[z2]at h2;simp at h2;omega
       rw[this];refine⟨?_,.inl ⟨rfl,rfl⟩⟩;split<;>simp
      ·rw[<-h8,hA]at z1;cases z1;simp only[xch,Option.getD_some,z3];have:r.toNat<=cap:=by omega
       have hm:r.toNat*u.size<=cap*u.size:=xau _ this;exact⟨by simp;omega,.inr ⟨g,cap,cur,rfl,xbx _,z3,this,z5,z6,rfl⟩⟩) (by rw[xax];omega)
     λS' hw' htr hf2 i hi=>by
      rw[xax]at hi;have hf:i<xs.length:=by omega
      rcases hu.1.2.2.2 with⟨z1,z2⟩|⟨g,cap',cur,z1,z2,z3,z4,z5,z6,z7⟩
      ·rw[z2]at hf;simp at hf
      ·rw[<-h8,hA]at z1;cases z1;simp only[xch,Option.getD_some,z3];rw[xgj];refine((z7 i hf).mono (.inl rfl) ((htr [i]).resolve_right (by simp)) λ_ _=>rfl).cong λj hj=>?_;have jj:i*u.size+j<r.toNat*u.size:=by have:(i+1)*u.size<=r.toNat*u.size:=xau _ (by omega);rw[xco]at this;omega
       rw[xdv,if_pos jj,xbe]
    rw[put_put]at q4;exact⟨S',q1,q4⟩
  ·cases hx
 ·rename_i i ht;obtain⟨jb,_,_,ha⟩:=hT.kind ht;obtain⟨_,d1,_,hp,_,_,_,hz⟩:=zbj jb;have:=zos (hz.trans (xbr some (zph ha)));subst this;split at hx;case h_2=>cases hx
  rename_i m x hv;split at hx;·cases hx
  rename_i hm;split at hx;case h_2=>cases hx
  rename_i l r hl hr;simp only[xaq,xaw]at hx;obtain⟨rfl,rfl⟩:=hx;obtain⟨h0,h1,h2⟩:=cut_of hob;obtain⟨p,hs⟩:=h.val hv;obtain⟨s,jk,je,jl⟩:=hs.str_inv hm;have hh:s.size=(x:List Int).length:=by rw[<-je,xao,xcj];rfl
  rw[<-hh]at hr h2;have hg:=zim (P:=P) (len:=s.size) (cap:=s.size) h false hl hr h0 h1 h2 (xag _);refine⟨.string (s.extract l.toNat r.toNat),?_,S,rfl,h.putE (e:=.v .str .sh _) hd ⟨rfl,(0,[]),?_,λh=>by cases h⟩⟩;·rw[jk];simp[Instr.sliceAt,Instr.slice,run_underlying hp,hg]
  ·refine⟨s.extract l.toNat r.toNat,by simp[zab,Ty.agg],?_,by rw[xeq,xax];omega⟩;rw[<-je,ByteArray.data_extract,Array.toList_extract,List.extract_eq_take_drop,xih,List.map_drop,<-List.drop_take]
end
end Go.X
