/- Part 3 of what stands below the statement. -/
import Derived.Test.YtmipjomnjkmdbaaGreatQ2
namespace Go.X
open Go Go.RowKit
abbrev Ups:=List (Nat × Ent × Nat)
def upd:Ups→Env→Env
  | [],σ=>σ
  | (t,e,k)::r,σ=>upd r (set1 σ t e k)
structure An where
  frz:List (Nat × List Nat):=[]
  fl:Nat:=0
  args:List Nat:=[]
  deriving Inhabited
def allocU (T:Tab) (d t:Nat):Option Ups :=
  match tl T t with
  | some (i,u)=>(cval u i.zero).map fun z=>[(d,.v (.ptr u) (.own 0 .sh) z,0)]
  | none=>none
def boxU (T:Tab) (d t:Nat) (x:Opd):Option Ups :=
  match tl T t with
  | some (_,u)=>match x.val u with
    | some (m,y)=>if m.noown then some [(d,.v (.ptr u) (.own 0 (nm u m)) y,0)] else none
    | none=>none
  | none=>none
def storeU (T:Tab) (t:Nat) (A V:Opd):Option Ups :=
  match tl T t,A.place with
  | some (_,u),some p=>match getP p.π p.t p.x with
    | some old=>if old.t=u∧0 < u.size then match V.val u with
      | some (m,y)=>if m.noown then match setM p.π p.t p.m m,setP p.π p.t p.x ⟨u,y⟩ with
          | some m',some x'=>some [(p.r,.v p.t m' x',2)]
          | _,_=>none
        else match V with
          | .slot s cc _=>match cc.e with
            | .v t' k z=>if s=p.r∨t' ≠ u then none else match setM p.π p.t p.m k,setP p.π p.t p.x ⟨t',z⟩ with
              | some m',some x'=>some [(s,.dead,0),(p.r,.v p.t m' x',1)]
              | _,_=>none
            | _=>none
          | _=>none
      | none=>none else none
    | none=>none
  | _,_=>none
def asgU (T:Tab) (ty d:Nat) (o:Opd):Option Ups :=
  match o with
  | .slot s cc root=>match cc.e with
    | .v t m x=>if m.noown then some [(d,.v t m x,0)] else if s=d then none else some [(s,.dead,0),(d,.v t m x,0)]
    | .view r π s'=>match root.e with
      | .v tr mr xr=>if root.h=s' then
          match zaz π tr mr,getP π tr xr with
          | some (.own e k),some ⟨.slice u,y⟩ =>
            if r=d then (if π=[] then some [] else none) else
            if π=[] then some [(r,.dead,0),(d,.v (.slice u) (.own e k) y,0)] else
            match setM π tr mr .dead with
            | some m'=>some [(r,.v tr m' xr,2),(d,.v (.slice u) (.own e k) y,0)]
            | none=>none
          | _,_=>none
        else none
      | _=>none
    | .tup es=>if s=d then none else some [(s,.dead,0),(d,.tup es,0)]
    | _=>(zga T ty o).map fun e=>[(d,e,0)]
  | _=>(zga T ty o).map fun e=>[(d,e,0)]
def extU (d i:Nat) (o:Opd):Option Ups :=
  match o with
  | .slot s cc _=>match cc.e with
    | .tup es=>if s=d then none else match es[i]? with
      | some e=>if e.m.noown then some [(d,.v e.t e.m e.x,0)] else some [(s,.tup (es.set i ⟨e.t,.dead,e.x⟩),0),(d,.v e.t e.m e.x,0)]
      | none=>none
    | _=>none
  | _=>none
section
variable {P:Program} {c:Ctx} {σ:Env} {a:Act} {S:St} {T:Tab}
theorem own_new (h:InvOf P c σ a S):S.own S.w.heap.size=none:=by
  cases ho:S.own S.w.heap.size with
  | none=>rfl
  | some p=>exact absurd (h.owned _ p ho).1 (Nat.lt_irrefl _)
theorem fut2_ext (h:InvOf P c σ a S) {S':St} (hw:Ext S.w S'.w) (hF:S'.F=S.F) (hB:S'.B=S.B):Fut2 S S' :=
  ⟨fun b hb=>⟨by rw [hF]; exact hb,hw.block b (h.wlt (.inl hb))⟩,fun b hb=>⟨.inr (by rw [hB]; exact hb),hw.block b (h.wlt (.inr (.inl hb)))⟩⟩
theorem InvOf.newBox (h:InvOf P c σ a S) {d:Nat} (hd:d < c.N) {u:Ty} {m:Md} {y:u.den} {v:Value} {p:Place} (hs:SR P u S m p y v) (hm:m.noown=true) (E:TypeId) :
    ∃ S',S'.w=S.w.alloc (.cells v.cells E)∧InvOf P c (set1 σ d (.v (.ptr u) (.own 0 m) y) 0) (a.put (some d) (.pointer (some ⟨S.w.heap.size,0,none⟩))) S':=by
  let S':St:={ S with w:=S.w.alloc (.cells v.cells E),own:=fun b=>if b=S.w.heap.size then some (d,[]) else S.own b,hv:=fun z=>if z=(d,[]) then .pointer (some ⟨S.w.heap.size,0,none⟩) else S.hv z }
  have hext:Ext S.w S'.w:=Ext.alloc _ _
  obtain ⟨hc1,hc2,_⟩:=zbh hs
  refine ⟨S',rfl,h.put hext rfl rfl hd (fun t ht q=>if_neg (fun he=>ht (by cases he; rfl))) (fun b=>?_) ?_⟩
  · by_cases hb:b=S.w.heap.size
    · subst hb; exact .inr ⟨own_new h,Nat.le_refl _,by show _ < (S.w.alloc _).heap.size; simp⟩
    · exact .inl (if_neg hb)
  · refine .v (zbd σ d _ 0) ?_
    rw [zai (by rw [h.size]; exact hd)]
    refine ⟨⟨?_,S.w.heap.size,v.cells,E,if_pos rfl,if_pos rfl,heap_alloc_new S.w _,hc1,?_⟩,fun h=>by cases h⟩
    · show zab (.ptr u) _ 0=some (if (d,([]:List Nat))=(d,[]) then _ else _)
      rw [if_pos rfl]
      simp [zab,Ty.agg]
    · exact hs.1.free hm (fut2_ext h hext rfl rfl) hc2
theorem alloc_sound (h:InvOf P c σ a S) (hT:TabOK P T) {d t:Nat} (hd:d < c.N) {us:Ups} (hx:allocU T d t=some us) :
    ∃ v w',(Instr.alloc t true (.tuple #[])).run P S.w=.ok v w'∧Inv P c (upd us σ) (a.put (some d) v) w':=by
  unfold allocU at hx
  split at hx
  case h_2=>cases hx
  rename_i i u ht
  simp only [Option.map_eq_some_iff] at hx
  obtain ⟨z,hz,rfl⟩:=hx
  obtain ⟨hty,_,_,_⟩:=hT.kind ht
  obtain ⟨j,dd,hi,hdd,hzz,_⟩:=zat hty
  obtain ⟨S',h1,h2⟩:=h.newBox hd (zbz (P:=P) (S:=S) (p:=(0,[])) hz) rfl t
  refine ⟨_,_,?_,S',h1,h2⟩
  simp [Instr.alloc,zeroValue,typeInfo,hi,hzz,newVar,newRow]
theorem box_sound (h:InvOf P c σ a S) {d t:Nat} (hd:d < c.N) {x:Operand} {us:Ups} (hx:boxU T d t (look σ x)=some us) :
    ∃ v w',(Instr.box t (a.eval x)).run P S.w=.ok v w'∧Inv P c (upd us σ) (a.put (some d) v) w':=by
  unfold boxU at hx
  split at hx
  case h_2=>cases hx
  rename_i i u ht
  split at hx
  case h_2=>cases hx
  rename_i m y hv
  split at hx
  case isFalse=>cases hx
  rename_i hm
  cases hx
  obtain ⟨p,hs⟩:=h.val hv
  obtain ⟨S',h1,h2⟩:=h.newBox hd (zim hs) (zin hm) t
  refine ⟨_,_,?_,S',h1,h2⟩
  simp [Instr.box,newVar,newRow]
theorem Rel.fits {u:Ty} {m:Md} {p:Place} {y:u.den} {w:World} {b off:Nat} {cur:Array Value} {e:TypeId} (h:Rel P u S m p y (blk w b off)) (hb:w.heap[b]? = some (.cells cur e (0,0))) (h0:off≤cur.size):off+u.size≤cur.size:=by
  rcases Nat.eq_zero_or_pos u.size with hz | hz
  · omega
  · obtain ⟨v,h1,_⟩:=h.cells (u.size - 1) (by omega)
    rw [zhw hb] at h1
    have:off+(u.size - 1) < cur.size:=by
      rcases Nat.lt_or_ge (off+(u.size - 1)) cur.size with h' | h'
      · exact h'
      · have h1':cur[off+(u.size - 1)]? = some v:=h1
        rw [Array.getElem?_eq_none h'] at h1'; cases h1'
    omega
theorem zed:∀ {π:List Nat} {t:Ty} {m k m':Md},setM π t m k=some m'→∃ k0,zaz π t m=some k0
  | [],_,m,_,_,_=>⟨m,rfl⟩
  | i::π,.pair a b,m,k,m',h=>by
    match i with
    | 0=>simp only [setM,Option.map_eq_some_iff] at h; obtain ⟨_,h1,_⟩:=h; exact zed (t:=a) h1
    | 1=>simp only [setM,Option.map_eq_some_iff] at h; obtain ⟨_,h1,_⟩:=h; exact zed (t:=b) h1
    | i+2=>simp [setM] at h
  | i::π,.arr n t,m,k,m',h=>by
    rw [zow] at h
    simp only [Option.bind_eq_some_iff] at h
    obtain ⟨_,h1,_⟩:=h
    rw [modeP_arr]
    exact zed h1
  | i::π,.slice t,m,k,m',h=>by
    obtain ⟨e,j,rfl⟩:=zhq h
    rw [zno] at h
    simp only [Option.bind_eq_some_iff] at h
    obtain ⟨_,h1,_⟩:=h
    rw [modeP_slice]
    exact zed h1
  | i::π,.ptr t,m,k,m',h=>by
    match i with
    | 0 =>
      cases m <;> first | (simp [setM] at h; done) | skip
      simp only [setM,Option.map_eq_some_iff] at h
      obtain ⟨_,h1,_⟩:=h
      exact zed (t:=t) h1
    | i+1=>cases m <;> simp [setM] at h
  | _::_,.int _,_,_,_,h=>by simp [setM] at h
  | _::_,.bool,_,_,_,h=>by simp [setM] at h
  | _::_,.str,_,_,_,h=>by simp [setM] at h
  | _::_,.unit,_,_,_,h=>by simp [setM] at h
  | _::_,.fn1 _ _,_,_,_,h=>by simp [setM] at h
  | _::_,.fn2 _ _ _,_,_,_,h=>by simp [setM] at h
  | _::_,.alt _ _ _,_,_,_,h=>by simp [setM] at h
  | _::_,.nilI,_,_,_,h=>by simp [setM] at h
theorem store_sound (h:InvOf P c σ a S) (hT:TabOK P T) {t:Nat} {A V:Operand} {us:Ups} (hx:storeU T t (look σ A) (look σ V)=some us) :
    ∃ w',(Instr.storeAt t (a.eval A) (a.eval V)).run P S.w=.ok () w'∧Inv P c (upd us σ) a w':=by
  unfold storeU at hx
  split at hx
  case h_2=>cases hx
  rename_i i u p ht hp
  split at hx
  case h_2=>cases hx
  rename_i old hg
  split at hx
  case isFalse=>cases hx
  rename_i hold
  obtain ⟨hty,hsz,_,_⟩:=hT.kind ht
  obtain ⟨hr,hc,hπ,hok,_⟩:=h.place hp
  have run:∀ {q:List Nat} {off b:Nat} {cur:Array Value} {e:TypeId} {v:Value} {k:Md} {y:u.den} {pl:Place},S.w.heap[b]? = some (.cells cur e (0,0))→off+u.size≤cur.size→SR P u S k pl y v →
      (Instr.storeAt t (.pointer (some ⟨b,off,none⟩)) v).run P S.w=.ok () (S.w.setRow b (splice cur off v.cells.toList)):=fun {q off b cur e v k y pl} hb hfit hs=>by
    obtain ⟨h1,_,h3⟩:=zbh hs
    exact run_storeAt hty hb (by rw [h1,hsz]) (by rw [hsz]; exact hfit) h3
  have part:∀ {k m':Md},setM p.π p.t p.m k=some m'→∃ (q:List Nat) (off b:Nat) (cur:Array Value) (e:TypeId),locP p.π p.t=some (some q,off)∧hvB (S.hv (p.r,q))=some b∧S.own b=some (p.r,q)∧S.w.heap[b]? = some (.cells cur e (0,0))∧a.eval A=.pointer (some ⟨b,off,none⟩)∧off+u.size≤cur.size:=fun {k m'} hm=>by
    obtain ⟨k0,hk0⟩:=zed hm
    obtain ⟨u',y',q,off,b,cur,e,h1,h2,h3,h4,h5,h6,h7⟩:=h.partAt hp hk0
    rw [hg] at h1
    cases h1
    simp only at hold
    obtain ⟨hold,hz⟩:=hold
    subst hold
    refine ⟨q,off,b,cur,e,h2,h3,h4,h5,h6,?_⟩
    obtain ⟨v,h8,_⟩:=h7.cells 0 hz
    rw [zhw h5] at h8
    have h8':cur[off+0]? = some v:=h8
    exact h7.fits h5 (by
      rcases Nat.lt_or_ge off cur.size with h' | h'
      · exact Nat.le_of_lt h'
      · rw [Nat.add_zero,Array.getElem?_eq_none h'] at h8'; cases h8')
  split at hx
  case h_2=>cases hx
  rename_i m y hv
  split at hx
  · rename_i hm
    split at hx
    case h_2=>cases hx
    rename_i m' x' hm' hx'
    cases hx
    obtain ⟨q,off,b,cur,e,h2,h3,h4,h5,h6,h7⟩:=part hm'
    obtain ⟨pl,hs⟩:=h.val hv
    rw [h6]
    exact ⟨_,run (q:=q) h5 h7 hs,_,rfl,h.store hr h2 hok h3 h4 h5 hm' hx' h7 hs hm⟩
  · cases V with
    | const v=>simp [look] at hx
    | func f=>simp [look] at hx
    | global g=>simp [look] at hx
    | tmp s =>
      simp only [look] at hx
      split at hx
      case h_2=>cases hx
      rename_i t' k z he
      split at hx
      · cases hx
      rename_i hne
      simp only [not_or,ne_eq,Decidable.not_not] at hne
      obtain ⟨hne,htu⟩:=hne
      subst htu
      split at hx
      case h_2=>cases hx
      rename_i m' x' hm' hx'
      cases hx
      obtain ⟨q,off,b,cur,e,h2,h3,h4,h5,h6,h7⟩:=part hm'
      rw [h6,zav]
      exact ⟨_,run (q:=q) h5 h7 (h.slot he),_,rfl,h.give hr he hne h2 hok hπ h3 h4 h5 hm' hx' h7⟩
theorem zpa (a:Act) (r:Nat):a.put (some r) (tmv a r)=a:=by
  have:a.tmps.setIfInBounds r (tmv a r)=a.tmps:=by
    apply Array.ext_getElem?
    intro i
    rw [Array.getElem?_setIfInBounds]
    split
    · rename_i h
      subst h
      split
      · rename_i h; unfold tmv; rw [Array.getD_eq_getD_getElem?,Array.getElem?_eq_getElem h]; rfl
      · rename_i h; rw [Array.getElem?_eq_none (by omega)]
    · rfl
  show ({ a with tmps:=a.tmps.setIfInBounds r (tmv a r) }:Act)=a
  rw [this]
theorem zmy (h:InvOf P c σ a S) {ty d:Nat} (hd:d < c.N) {o:Operand} {us:Ups} (hx:asgU T ty d (look σ o)=some us):∃ S1,S1.w=S.w∧S1.F=S.F∧S1.B=S.B∧InvOf P c (upd us σ) (a.put (some d) (a.eval o)) S1:=by
  have mvE:∀ {o:Operand} {us:Ups},(zga T ty (look σ o)).map (fun e=>[(d,e,0)])=some us→∃ S1,S1.w=S.w∧S1.F=S.F∧S1.B=S.B∧InvOf P c (upd us σ) (a.put (some d) (a.eval o)) S1:=fun {o us} hx=>by
    simp only [Option.map_eq_some_iff] at hx
    obtain ⟨e,h1,rfl⟩:=hx
    exact ⟨S,rfl,rfl,rfl,h.putE hd (h.move_sound h1)⟩
  cases o with
  | const v=>exact mvE hx
  | func f=>exact mvE hx
  | global g=>exact mvE hx
  | tmp s =>
    have hx0:=hx
    simp only [look,asgU] at hx
    split at hx
    · rename_i t m x he
      rw [zav]
      split at hx
      · rename_i hm
        cases hx
        exact ⟨S,rfl,rfl,rfl,h.putE hd ⟨hm,_,h.slot he⟩⟩
      · split at hx
        · cases hx
        rename_i hne
        cases hx
        exact ⟨mv S (s,[]) (d,[]),rfl,rfl,rfl,h.moveAll he hne hd⟩
    · rename_i r π s' he
      have hrt:zcd σ (σ s).e=σ r:=by rw [he]; rfl
      rw [hrt] at hx
      split at hx
      case h_2=>cases hx
      rename_i tr mr xr hroot
      split at hx
      case isFalse=>cases hx
      rename_i hgen
      obtain ⟨_,hvw⟩:=(h.ent s).view he
      obtain ⟨hok,hval⟩:=hvw tr mr xr hroot hgen
      rw [zav,hval]
      split at hx
      case h_2=>cases hx
      rename_i e k u y hm hg
      split at hx
      · rename_i hrd
        split at hx
        case isFalse=>cases hx
        rename_i hπ
        cases hx
        subst hπ hrd
        simp only [getP,Option.some.injEq] at hg
        cases hg
        simp only [zaz,Option.some.injEq] at hm
        subst hm
        rw [← h.hdr hroot,zpa]
        exact ⟨S,rfl,rfl,rfl,h⟩
      · rename_i hrd
        split at hx
        · rename_i hπ
          cases hx
          subst hπ
          simp only [getP,Option.some.injEq] at hg
          cases hg
          simp only [zaz,Option.some.injEq] at hm
          subst hm
          rw [← h.hdr hroot]
          exact ⟨mv S (r,[]) (d,[]),rfl,rfl,rfl,h.moveAll hroot hrd hd⟩
        · split at hx
          case h_2=>cases hx
          rename_i m' hs
          cases hx
          obtain ⟨u',y',l,cs',h1,h2,h3,h4⟩:=Rel.at (h.slot hroot).1 hm hok
          rw [hg] at h1
          cases h1
          rw [zbb] at h3
          refine ⟨mv S (r,π) (d,[]),rfl,rfl,rfl,h.takePart hroot hrd hd hm hg hok hs (fun cs l' hl hcs i hi=>?_) fun h=>by cases h⟩
          have:i=0:=by simp only [Ty.size] at hi; omega
          subst this
          rw [hl] at h2
          cases h2
          have hcc:cs=cs':=by
            obtain ⟨q,off⟩:=l
            cases q with
            | none=>exact hcs.trans h4.symm
            | some q =>
              obtain ⟨b,h5,h6⟩:=hcs
              obtain ⟨b',h7,_,h8,_⟩:=h4
              rw [zbb] at h7
              rw [h5] at h7
              cases h7
              exact h6.trans h8.symm
          rw [hcc,h3.2.2.1]
          simp [zab,Ty.agg]
    · rename_i es he
      rw [zav]
      split at hx
      · cases hx
      rename_i hne
      cases hx
      exact ⟨mv S (s,[]) (d,[]),rfl,rfl,rfl,h.moveTup he hne hd⟩
    · exact mvE hx
theorem InvOf.takeTup (h:InvOf P c σ a S) {s d i:Nat} {es:List TM} {e:TM} (hs:(σ s).e=.tup es) (hne:s ≠ d) (hd:d < c.N) (hi:es[i]? = some e) {vs:Array Value} {v:Value} (hvs:tmv a s=.tuple vs) (hv:vs[i]? = some v) :
    InvOf P c (set1 (set1 σ s (.tup (es.set i ⟨e.t,.dead,e.x⟩)) 0) d (.v e.t e.m e.x) 0) (a.put (some d) v) (mv S (s,[i]) (d,[])):=by
  have hsr:=h.ent s
  unfold SlotOK at hsr
  rw [hs] at hsr
  obtain ⟨vs',h1,h2,h3⟩:=hsr
  rw [hvs] at h1
  cases h1
  obtain ⟨v',h4,h5⟩:=h3 i e hi
  rw [hv] at h4
  cases h4
  obtain ⟨q1,q2,q3⟩:=h.mvOwned (p:=(s,[i])) (q:=(d,[]))
  refine h.rebuild (fun t=>t=s∨t=d) (by simpa [Act.put] using h.defers) (by simpa [Act.put] using h.size)
    (fun t ht=>⟨by rw [zaj _ _ _ (fun e=>ht (.inr e)),zaj _ _ _ (fun e=>ht (.inl e))],zbe fun e=>ht (.inr e)⟩) (fun r hr=>?_) (fun t ht=>?_) (fun _ h=>h) (fun _ _=>rfl) rfl (fun _ _=>rfl)
    (fun t ht q=>zco fun ρ he=>ht (.inr (zch he))) (fun t ht b q hb=>⟨zci hb fun ρ he=>ht (.inl (zch he)),rfl⟩) q1 q2 q3 rfl rfl rfl (Nat.le_refl _) (fun _ _ _=>rfl)
  · by_cases hrd:r=d
    · subst hrd
      exact ⟨by rw [zag]; exact Nat.le_refl _,.inl (by rw [zag,zaj _ _ _ (Ne.symm hne)]; exact Nat.lt_succ_self _)⟩
    · have hrs:=hr.resolve_right hrd
      subst hrs
      exact ⟨by rw [zaj _ _ _ hrd,zag]; exact Nat.le_refl _,.inl (by rw [zaj _ _ _ hrd,zag]; exact Nat.lt_succ_self _)⟩
  · by_cases htd:t=d
    · subst htd
      refine .v (zbd _ _ _ 0) ?_
      rw [zai (by rw [h.size]; exact hd)]
      exact h5.mono (.inl rfl) (mv_tr S _ _)
    · have hts:=ht.resolve_right htd
      subst hts
      unfold SlotOK
      rw [zaj _ _ _ htd,zbd,zbe htd]
      refine ⟨vs,hvs,by rw [List.length_set]; exact h2,fun k e' hk=>?_⟩
      rw [List.getElem?_set] at hk
      split at hk
      · rename_i hik
        subst hik
        split at hk
        · cases hk
          exact ⟨v,hv,(h5.1.weaken (zpk _ _)).dead_any fun _ _=>rfl,h5.2⟩
        · cases hk
      · rename_i hik
        obtain ⟨u,h6,h7⟩:=h3 k e' hk
        refine ⟨u,h6,h7.mono (.inl rfl) ⟨fun _ h=>h,fun _ _=>rfl,fun _ _ h=>.inr h,fun _ _ _=>rfl,fun r=>zco fun ρ he=>htd (zch he),fun b r hb=>⟨zci hb fun ρ he=>?_,rfl⟩⟩⟩
        simp only [pa,List.cons_append,List.nil_append,Prod.mk.injEq,List.cons.injEq,true_and] at he
        exact hik he.1.symm
theorem ext_sound (h:InvOf P c σ a S) {d i:Nat} (hd:d < c.N) {o:Operand} {us:Ups} (hx:extU d i (look σ o)=some us) :
    ∃ v,(Instr.extract (a.eval o) i).run P S.w=.ok v S.w∧Inv P c (upd us σ) (a.put (some d) v) S.w:=by
  cases o with
  | const v=>simp [look,extU] at hx
  | func f=>simp [look,extU] at hx
  | global g=>simp [look,extU] at hx
  | tmp s =>
    simp only [look,extU] at hx
    split at hx
    case h_2=>cases hx
    rename_i es he
    split at hx
    · cases hx
    rename_i hne
    split at hx
    case h_2=>cases hx
    rename_i e hi
    have hsr:=h.ent s
    unfold SlotOK at hsr
    rw [he] at hsr
    obtain ⟨vs,h1,h2,h3⟩:=hsr
    obtain ⟨v,h4,h5⟩:=h3 i e hi
    refine ⟨v,by rw [zav,h1]; simp [Instr.extract,h4],?_⟩
    split at hx
    · rename_i hm
      cases hx
      exact ⟨S,rfl,h.putE hd ⟨hm,_,h5⟩⟩
    · cases hx
      exact ⟨mv S (s,[i]) (d,[]),rfl,h.takeTup he hne hd hi h1 h4⟩
end
end Go.X
namespace Go.X
open Go Go.RowKit
def zmq (path:Nat→Option (List Nat)) (l:Operand→Opd) (u:Ty):List (Nat × Operand)→Md→u.den→Option (Md × u.den)
  | [],m,x=>some (m,x)
  | (i,o)::rest,m,x=>match path i with
    | none=>none
    | some ρ=>match getP ρ u x with
      | none=>none
      | some old=>match (l o).val old.t with
        | none=>none
        | some (k,y)=>if k.noown then match setM ρ u m (nm old.t k),setP ρ u x ⟨old.t,y⟩ with
            | some m',some x'=>zmq path l u rest m' x'
            | _,_=>none
          else none
def buildE (T:Tab) (t:Nat) (ps:List (Nat × Operand)) (l:Operand→Opd):Option Ent :=
  match tl T t with
  | some (i,u)=>match cval u i.zero with
    | some z=>match i.k with
      | .struct offs=>(zmq (zgm offs.length) l u ps .sh z).bind fun q=>if q.1.noown then some (.v u (nm u q.1) q.2) else none
      | .array n _=>(zmq (fun i=>if i < n then some [i] else none) l u ps .sh z).bind fun q=>if q.1.noown then some (.v u (nm u q.1) q.2) else none
      | _=>none
    | none=>none
  | none=>none
theorem limX:∃ n:Int,n=4294967296:=⟨_,rfl⟩
noncomputable def LIM:Int:=Classical.choose limX
theorem zev:LIM=4294967296:=Classical.choose_spec limX
def litU (T:Tab) (fl:Nat) (d t len:Nat) (ps:List (Nat × Operand)) (l:Operand→Opd):Option Ups :=
  match tl T t with
  | some (i,.slice u)=>match i.k with
    | .slice e=>match tl T e with
      | some (j,_)=>match cval u j.zero with
        | some z=>if 0 < u.size∧len * u.size≤16777216 then
            match zmq (fun i=>if i < len then some [i] else none) l (.arr len u) ps (if fl=1 then .bw else .sh) (List.replicate len z) with
            | some (m,x)=>if m.noown then some [(d,.v (.slice u) (.own e m) x,0)] else none
            | none=>none
          else none
        | none=>none
      | none=>none
    | _=>none
  | _=>none
noncomputable def makeU (T:Tab) (d t:Nat) (o o':Opd):Option (Bool × Ups) :=
  match tl T t,o.ival,o'.ival with
  | some (i,.slice u),some (k,n),some (k',n')=>match i.k with
    | .slice e=>match tl T e with
      | some (j,_)=>match cval u j.zero with
        | some z=>if k=k'∧0 < u.size∧j.bytes≤16384 then some (decide (n'=n) && (decide (0≤n) && decide (n≤LIM)),[(d,.v (.slice u) (.own e .sh) (List.replicate n.toNat z),0)]) else none
        | none=>none
      | none=>none
    | _=>none
  | _,_,_=>none
section
variable {P:Program} {c:Ctx} {σ:Env} {a:Act} {S:St} {T:Tab}
theorem Fr.refl (S:St) (p:Place) (π:List Nat):Fr S S p π none:=⟨fun _ h=>h,fun _ _=>rfl,fun _ h=>.inr h,fun _ _=>rfl,fun _ _=>rfl,fun _ _ _ h=>⟨h,fun _=>rfl⟩⟩
theorem ziw (h:InvOf P c σ a S) {S1:St} (hF:Fut2 S S1) {u:Ty} {p:Place} {place:Nat→Option (Nat × Nat)} {path:Nat→Option (List Nat)}
    (hpp:∀ i ρ x tv,path i=some ρ→getP ρ u x=some tv→∃ off,place i=some (off,tv.t.size)∧locP ρ u=some (none,off)∧okP S1 ρ u p) :
    ∀ (ps:List (Nat × Operand)) (m:Md) (x:u.den) (cs:Array Value) (m':Md) (x':u.den),cs.size=u.size→Rel P u S1 m p x (fun i=>cs[i]?)→zmq path (look σ) u ps m x=some (m',x') →
      ∃ cs',Instr.fill place cs (ps.map fun q=>(q.1,a.eval q.2))=some cs'∧cs'.size=u.size∧Rel P u S1 m' p x' (fun i=>cs'[i]?)
  | [],m,x,cs,m',x',hsz,hr,hf=>by
    simp only [zmq,Option.some.injEq,Prod.mk.injEq] at hf
    obtain ⟨rfl,rfl⟩:=hf
    exact ⟨cs,rfl,hsz,hr⟩
  | (i,o)::rest,m,x,cs,m',x',hsz,hr,hf=>by
    simp only [zmq] at hf
    split at hf
    · cases hf
    rename_i ρ hρ
    split at hf
    · cases hf
    rename_i old hg
    split at hf
    · cases hf
    rename_i k y hv
    split at hf
    case isFalse=>cases hf
    rename_i hk
    split at hf
    case h_2=>cases hf
    rename_i m1 x1 hm1 hx1
    obtain ⟨off,hpl,hloc,hok⟩:=hpp i ρ x old hρ hg
    obtain ⟨pl,hs⟩:=h.val hv
    have hs:=zim hs
    obtain ⟨hc1,hc2,_⟩:=zbh hs
    have hfit:=zkj (S:=S1) hloc hx1 hok
    have hcond:¬ (((a.eval o).cells.size ≠ old.t.size || decide (off+(a.eval o).cells.size > cs.size))=true):=by simp [hc1]; omega
    have hfold:=zmk off (a.eval o).cells.toList 0 cs (by simp [hc1]; omega)
    have hspl:((a.eval o).cells.zipIdx.foldl (fun cs (x:Value × Nat)=>cs.setIfInBounds (off+x.2) x.1) cs)=splice cs off (a.eval o).cells.toList:=by
      apply Array.ext'
      rw [← Array.foldl_toList,Array.toList_zipIdx]
      unfold splice
      simpa using hfold
    have hfit':off+(a.eval o).cells.toList.length≤cs.size:=by simp [hc1]; omega
    have hr1:Rel P u S1 m1 p x1 (fun i=>(splice cs off (a.eval o).cells.toList)[i]?):=by
      refine hr.updA hloc hm1 hx1 hok (.refl S1 p ρ) (fun j hj hjo=>zjj hfit' (by simp [hc1]; exact hjo)) ?_
      refine (hs.1.free (zin hk) hF fun j hj=>?_)
      rw [zlq hfit' (by simp [hc1]; exact hj),Array.getElem?_toList,hc2 j hj]
    obtain ⟨cs',h1,h2,h3⟩:=ziw h hF hpp rest m1 x1 _ m' x' (by rw [zfv hfit']; exact hsz) hr1 hf
    refine ⟨cs',?_,h2,h3⟩
    simp only [List.map_cons]
    unfold Instr.fill
    rw [hpl]
    simp only
    rw [if_neg hcond,hspl]
    exact h1
theorem build_sound (h:InvOf P c σ a S) (hT:TabOK P T) {t:Nat} {ps:Array (Nat × Operand)} {e:Ent} (hx:buildE T t ps.toList (look σ)=some e) :
    ∃ v,(Instr.build t (ps.map fun (i,x)=>(i,a.eval x))).run P S.w=.ok v S.w∧zgj P S σ e v:=by
  unfold buildE at hx
  split at hx
  case h_2=>cases hx
  rename_i i u ht
  split at hx
  case h_2=>cases hx
  rename_i z hz
  obtain ⟨hty,hsz,hag,hkind⟩:=hT.kind ht
  obtain ⟨j,d,hi,hd,hzz,hs,_,hk⟩:=zat hty
  have hzs:=zbz (P:=P) (S:=S) (p:=(0,[])) hz
  obtain ⟨hz1,hz2,_⟩:=zbh hzs
  have hz0:Rel P u S .sh (0,[]) z (fun i'=>i.zero.cells[i']?):=hzs.1.cong hz2
  have hmap:(ps.map fun (x:Nat × Operand)=>(x.1,a.eval x.2)).toList=ps.toList.map fun q=>(q.1,a.eval q.2):=by simp
  have fin:∀ {cs:Array Value} {m:Md} {x:u.den},u.agg=true→cs.size=u.size→Rel P u S m (0,[]) x (fun i=>cs[i]?)→m.noown=true→zgj P S σ (.v u (nm u m) x) (.agg cs):=fun {cs m x} hag hcs hr hm=>by
    refine ⟨zin hm,(0,[]),zim ⟨?_,fun _=>⟨cs,rfl,hcs⟩⟩⟩
    unfold zab
    rw [if_pos hag]
    exact hr
  split at hx
  · rename_i offs hoffs
    obtain ⟨fs,rfl,hm⟩:=zfh (hk.trans (congrArg some hoffs))
    rw [hoffs] at hkind
    obtain ⟨fs',hfl,ho⟩:=zdf hkind
    have hagg:u.agg=true:=by obtain ⟨A,B,rfl⟩:=zeq hfl; rfl
    simp only [Option.bind_eq_some_iff] at hx
    obtain ⟨⟨m',x'⟩,h1,h2⟩:=hx
    split at h2
    case isFalse=>cases h2
    rename_i hno
    cases h2
    obtain ⟨cs',h3,h4,h5⟩:=ziw h (.refl S) (p:=(0,[])) (place:=fun (k:Nat)=>offs[k]?) (path:=zgm offs.length) (fun i ρ x tv hρ hg=>by
      obtain ⟨u',y',o,h6,h7,h8,h9,h10⟩:=zep (S:=S) (o0:=0) (x:=x) (p:=(0,[])) hfl hρ
      rw [hg] at h7
      cases h7
      refine ⟨o,?_,h8,h9⟩
      rw [← ho,Nat.zero_add] at h10
      exact h10) _ _ _ i.zero.cells _ _ hz1 hz0 h1
    refine ⟨.agg cs',run_build S.w t _ cs' ?_,fin hagg h4 h5 hno⟩
    simp only [Program.built,hi,hd,hzz,hm]
    rw [hmap]
    have:(fun (x:Nat)=>offs.toArray[x]?)=fun (k:Nat)=>offs[k]?:=by funext k; simp
    rw [this]
    exact h3
  · rename_i n e1 he1
    have:=zlj (hk.trans (congrArg some he1))
    subst this
    cases hu:u with
    | arr n' s =>
      subst hu
      rw [he1] at hkind
      simp only [zdt] at hkind
      split at hkind
      case h_2=>cases hkind
      rename_i n2 s1 i1 s2 hs1 hs2
      cases hs1
      simp only [Bool.and_eq_true,decide_eq_true_eq] at hkind
      obtain ⟨rfl,rfl⟩:=hkind
      obtain ⟨hty1,hsz1,_,_⟩:=hT.kind hs2
      obtain ⟨j',d',hi',hd',_,hs',_,_⟩:=zat hty1
      simp only [Option.bind_eq_some_iff] at hx
      obtain ⟨⟨m',x'⟩,h1,h2⟩:=hx
      split at h2
      case isFalse=>cases h2
      rename_i hno
      cases h2
      obtain ⟨cs',h3,h4,h5⟩:=ziw h (.refl S) (p:=(0,[])) (place:=fun k=>some (k * i1.size,i1.size)) (path:=fun i=>if i < n then some [i] else none) (fun i ρ x tv hρ hg=>by
        split at hρ
        · rename_i hin
          cases hρ
          rw [zhk] at hg
          simp only [getP,Option.some.injEq] at hg
          subst hg
          exact ⟨i * s.size,by rw [hsz1],by rw [zcw]; simp [locP],by rw [zdd]; exact ⟨hin,trivial⟩⟩
        · cases hρ) _ _ _ i.zero.cells _ _ hz1 hz0 h1
      refine ⟨.agg cs',run_build S.w t _ cs' ?_,fin rfl h4 h5 hno⟩
      simp only [Program.built,hi,hd,hzz,hi',hs']
      rw [hmap]
      exact h3
    | _=>subst hu; rw [he1] at hkind; simp [zdt] at hkind
  · cases hx
def nilM (T:Tab) (e n:Nat) (u:Ty) (v:Value):List Nat→Md→u.den→Md × u.den
  | [],M,z=>(M,z)
  | i::r,M,z=>match zgm n i with
    | some π=>match locP π u,getP π u z,tl T e with
      | some (none,off),some ⟨.slice s,_⟩,some (_,s')=>match v.cells[off]? with
        | some (.slice none 0 0)=>if s=s'∧0 < s.size then match setM π u M (.own e .sh),setP π u z ⟨.slice s,[]⟩ with
          | some M',some z'=>nilM T e n u v r M' z'
          | _,_=>nilM T e n u v r M z else nilM T e n u v r M z
        | _=>nilM T e n u v r M z
      | _,_,_=>nilM T e n u v r M z
    | none=>nilM T e n u v r M z
def nilMs (T:Tab) (n:Nat) (u:Ty) (v:Value):List (Nat × Nat)→Md→u.den→Md × u.den
  | [],M,z=>(M,z)
  | (i,e)::r,M,z=>match nilM T e n u v [i] M z with
    | (M',z')=>nilMs T n u v r M' z'
def decN:Nat→Nat→List (Nat × Nat)
  | 0,_=>[]
  | k+1,c=>if c=0 then [] else ((c % 100000) / 1000,c % 1000)::decN k (c / 100000)
def nilX (T:Tab) (fl n:Nat) (u:Ty) (v:Value) (z:u.den):Md × u.den :=
  if fl < 1000000000 then nilM T (fl - 4) n u v (List.range n) .sh z else nilMs T n u v (decN 8 (fl - 1000000000)) .sh z
def ownOp:Opd→Bool
  | .slot _ cc _=>match cc.e with
    | .v _ m _=>!m.noown
    | _=>false
  | _=>false
def zgt (path:Nat→Option (List Nat)) (l:Operand→Opd) (d:Nat) (u:Ty):List (Nat × Operand)→List Nat→Md→u.den→Option Ups
  | [],_,_,_=>some []
  | (i,o)::rest,used,m,x=>match path i with
    | none=>none
    | some ρ=>match l o with
      | .slot s cc _=>match cc.e with
        | .v t k y=>if s=d∨s∈used then none else match getP ρ u x with
          | some old=>if old.t=t then match setM ρ u m k,setP ρ u x ⟨t,y⟩ with
            | some m',some x'=>(zgt path l d u rest (s::used) m' x').map fun r=>(s,.dead,0)::(d,.v u m' x',0)::r
            | _,_=>none else none
          | none=>none
        | _=>none
      | _=>none
def zol (T:Tab) (fl d t:Nat) (ps:List (Nat × Operand)) (l:Operand→Opd):Option Ups :=
  match tl T t with
  | some (i,u)=>match cval u i.zero with
    | some z=>match i.k with
      | .struct offs=>match nilX T fl offs.length u i.zero z with
        | (M,z')=>(zmq (zgm offs.length) l u (ps.takeWhile fun p=>!ownOp (l p.2)) M z').bind fun q =>
          (zgt (zgm offs.length) l d u (ps.dropWhile fun p=>!ownOp (l p.2)) [] q.1 q.2).map fun r=>(d,.v u q.1 q.2,0)::r
      | _=>none
    | none=>none
  | none=>none
theorem zkw {S1:St} {p:Place} (hn:∀ π,S1.hv (pa p π)=.slice none 0 0) {e n:Nat} {u:Ty} {v:Value} {fs:List Ty} (hfl:flds n u=some fs):∀ (is:List Nat) (M:Md) (z:u.den),Rel P u S1 M p z (fun i=>v.cells[i]?)→Rel P u S1 (nilM T e n u v is M z).1 p (nilM T e n u v is M z).2 (fun i=>v.cells[i]?)
  | [],M,z,h=>h
  | i::r,M,z,h=>by
    have ih:=zkw hn (e:=e) (v:=v) hfl r M z h
    unfold nilM
    split
    · rename_i π hπ
      split
      · rename_i off s y i2 s' hl hg ht
        split
        · rename_i hc
          split
          · rename_i hs
            split
            · rename_i M' z' hM hz
              refine zkw hn hfl r M' z' ?_
              obtain ⟨u',y',o,_,h7,h8,h9,_⟩:=zep (S:=S1) (o0:=0) (x:=z) (p:=p) hfl hπ
              refine h.updA hl hM hz h9 (.refl S1 p π) (fun _ _ _=>rfl) ?_
              refine ⟨Nat.zero_le _,hs.2,?_,.inl ⟨hn π,rfl⟩⟩
              show v.cells[off+0]? = _
              rw [Nat.add_zero,hc,hn]
            · exact ih
          · exact ih
        · exact ih
      · exact ih
    · exact ih
theorem nilMs_rel {S1:St} {p:Place} (hn:∀ π,S1.hv (pa p π)=.slice none 0 0) {n:Nat} {u:Ty} {v:Value} {fs:List Ty} (hfl:flds n u=some fs):∀ (is:List (Nat × Nat)) (M:Md) (z:u.den),Rel P u S1 M p z (fun i=>v.cells[i]?)→Rel P u S1 (nilMs T n u v is M z).1 p (nilMs T n u v is M z).2 (fun i=>v.cells[i]?)
  | [],_,_,h=>h
  | (i,e)::r,M,z,h=>nilMs_rel hn hfl r _ _ (zkw hn (e:=e) hfl [i] M z h)
theorem nilX_rel {S1:St} {p:Place} (hn:∀ π,S1.hv (pa p π)=.slice none 0 0) {n:Nat} {u:Ty} {v:Value} {fs:List Ty} (fl:Nat) (hfl:flds n u=some fs) (z:u.den) (h:Rel P u S1 .sh p z (fun i=>v.cells[i]?)):Rel P u S1 (nilX T fl n u v z).1 p (nilX T fl n u v z).2 (fun i=>v.cells[i]?):=by
  unfold nilX
  split
  · exact zkw hn hfl _ _ _ h
  · exact nilMs_rel hn hfl _ _ _ h
theorem zmp (place:Nat→Option (Nat × Nat)):∀ (ps qs:List (Nat × Value)) (cs cs':Array Value),Instr.fill place cs ps=some cs'→Instr.fill place cs (ps++qs)=Instr.fill place cs' qs
  | [],qs,cs,cs',h=>by
    unfold Instr.fill at h
    cases h
    rfl
  | (i,v)::ps,qs,cs,cs',h=>by
    unfold Instr.fill at h
    rw [List.cons_append]
    conv=>lhs; unfold Instr.fill
    split at h
    · cases h
    rename_i off n hp
    split at h
    · cases h
    rename_i hc
    rw [if_neg hc]
    exact zmp place ps qs _ cs' h
theorem InvOf.moveIn (h:InvOf P c σ a S) {s d:Nat} {t u:Ty} {m m' k:Md} {x x':t.den} {y:u.den} {π:List Nat} {o:Nat} {cs:Array Value} (hd:d < c.N) (hdr:(σ d).e=.v t m x) (hcs:tmv a d=.agg cs) (hsz:cs.size=t.size) (hag:t.agg=true)
    (hs:(σ s).e=.v u k y) (hne:s ≠ d) (hl:locP π t=some (none,o)) (hok:okP S π t (d,[])) (hm:setM π t m k=some m') (hx:setP π t x ⟨u,y⟩=some x') (hfit:o+u.size≤cs.size) :
    InvOf P c (set1 (set1 σ s .dead 0) d (.v t m' x') 0) (a.put (some d) (.agg (splice cs o (tmv a s).cells.toList))) (mv S (s,[]) (d,π)):=by
  have hsr:=h.slot hs
  have hdr':=h.slot hdr
  obtain ⟨hv1,hv2,_⟩:=zbh hsr
  obtain ⟨q1,q2,q3⟩:=h.mvOwned (p:=(s,[])) (q:=(d,π))
  have hfit':o+(tmv a s).cells.toList.length≤cs.size:=by simp [hv1]; omega
  have hvc:∀ (w:Array Value),zab t (.agg w)=fun i=>w[i]?:=fun w=>by unfold zab; rw [if_pos hag]
  refine h.rebuild (fun t=>t=s∨t=d) (by simpa [Act.put] using h.defers) (by simpa [Act.put] using h.size)
    (fun t ht=>⟨by rw [zaj _ _ _ (fun e=>ht (.inr e)),zaj _ _ _ (fun e=>ht (.inl e))],zbe fun e=>ht (.inr e)⟩) (fun r hr=>?_) (fun t ht=>?_) (fun _ h=>h) (fun _ _=>rfl) rfl (fun _ _=>rfl)
    (fun t ht q=>zco fun ρ he=>ht (.inr (zch he))) (fun t ht b q hb=>⟨zci hb fun ρ he=>ht (.inl (zch he)),rfl⟩) q1 q2 q3 rfl rfl rfl (Nat.le_refl _) (fun _ _ _=>rfl)
  · by_cases hrd:r=d
    · subst hrd
      exact ⟨by rw [zag]; exact Nat.le_refl _,.inl (by rw [zag,zaj _ _ _ (Ne.symm hne)]; exact Nat.lt_succ_self _)⟩
    · have hrs:=hr.resolve_right hrd
      subst hrs
      exact ⟨by rw [zaj _ _ _ hrd,zag]; exact Nat.le_refl _,.inl (by rw [zaj _ _ _ hrd,zag]; exact Nat.lt_succ_self _)⟩
  · by_cases htd:t=d
    · subst htd
      refine .v (zbd _ _ _ 0) ?_
      rw [zai (by rw [h.size]; exact hd)]
      refine ⟨?_,fun _=>⟨_,rfl,by rw [zfv hfit']; exact hsz⟩⟩
      have h1:=hdr'.1
      rw [hcs] at h1
      refine h1.updA hl hm hx hok ⟨fun _ h=>h,fun _ _=>rfl,fun _ h=>.inr h,fun _ _=>rfl,fun ρ hρ=>zco fun ρ' he=>by rw [zbb] at he; exact hρ (zih he),
        fun b' r' _ hb'=>⟨zci hb' fun ρ he=>by rw [zbb,zbb] at he; cases he; exact hne rfl,fun _=>rfl⟩⟩ (fun j hj hjo=>?_) ?_
      · rw [hvc,hvc]
        exact zjj hfit' (by simp [hv1]; exact hjo)
      · rw [zbb]
        refine hsr.1.mono (q:=true) (.inl rfl) (mv_tr S _ _) fun j hj=>?_
        rw [hvc]
        show (splice cs o _)[o+j]? = _
        rw [zlq hfit' (by simp [hv1]; exact hj),Array.getElem?_toList,hv2 j hj]
    · have hts:=ht.resolve_right htd
      subst hts
      unfold SlotOK
      rw [zaj _ _ _ htd,zbd]
      trivial
theorem put_putN (a:Act) (d:Nat) (v v':Value):(a.put (some d) v).put (some d) v'=a.put (some d) v':=by
  simp [Act.put]
theorem zio {path:Nat→Option (List Nat)} {place:Nat→Option (Nat × Nat)} {d:Nat} (hd:d < c.N) {u:Ty} (hag:u.agg=true)
    (hpp:∀ (S1:St) i ρ x tv,path i=some ρ→getP ρ u x=some tv→∃ off,place i=some (off,tv.t.size)∧locP ρ u=some (none,off)∧okP S1 ρ u (d,[])) :
    ∀ (ps:List (Nat × Operand)) (used:List Nat) (m:Md) (x:u.den) (us:Ups) (σ':Env) (a':Act) (S':St) (cs:Array Value),InvOf P c σ' a' S'→(σ' d).e=.v u m x→tmv a' d=.agg cs→cs.size=u.size →
      (∀ s,s ≠ d→s ∉ used→(σ' s).e=(σ s).e∧tmv a' s=tmv a s)→zgt path (look σ) d u ps used m x=some us →
      ∃ cs' S'',Instr.fill place cs (ps.map fun q=>(q.1,a.eval q.2))=some cs'∧S''.w=S'.w∧InvOf P c (upd us σ') (a'.put (some d) (.agg cs')) S''
  | [],used,m,x,us,σ',a',S',cs,h,hdr,hcs,hsz,hk,hx=>by
    simp only [zgt,Option.some.injEq] at hx
    subst hx
    refine ⟨cs,S',rfl,rfl,?_⟩
    rw [← hcs,zpa]
    exact h
  | (i,o)::rest,used,m,x,us,σ',a',S',cs,h,hdr,hcs,hsz,hk,hx=>by
    simp only [zgt] at hx
    split at hx
    · cases hx
    rename_i ρ hρ
    split at hx
    case h_2=>cases hx
    rename_i s cc root hlo
    split at hx
    case h_2=>cases hx
    rename_i t k y he
    split at hx
    · cases hx
    rename_i hne
    simp only [not_or] at hne
    split at hx
    case h_2=>cases hx
    rename_i old hg
    split at hx
    case isFalse=>cases hx
    rename_i hold
    subst hold
    split at hx
    case h_2=>cases hx
    rename_i m1 x1 hm1 hx1
    simp only [Option.map_eq_some_iff] at hx
    obtain ⟨r,hr,rfl⟩:=hx
    cases o with
    | const v=>simp [look] at hlo
    | func f=>simp [look] at hlo
    | global g=>simp [look] at hlo
    | tmp s' =>
    simp only [look,Opd.slot.injEq] at hlo
    obtain ⟨rfl,rfl,rfl⟩:=hlo
    obtain ⟨hk1,hk2⟩:=hk s' hne.1 hne.2
    obtain ⟨off,hpl,hloc,hok⟩:=hpp S' i ρ x old hρ hg
    have hes:(σ' s').e=.v old.t k y:=hk1.trans he
    have hsr:=h.slot hes
    obtain ⟨hc1,hc2,_⟩:=zbh hsr
    have hfit:=zkj (S:=S') hloc hx1 hok
    have hcond:¬ (((a.eval (.tmp s')).cells.size ≠ old.t.size || decide (off+(a.eval (.tmp s')).cells.size > cs.size))=true):=by
      rw [zav,← hk2]
      simp [hc1]
      omega
    have hfold:=zmk off (tmv a' s').cells.toList 0 cs (by simp [hc1]; omega)
    have hspl:((a.eval (.tmp s')).cells.zipIdx.foldl (fun cs (x:Value × Nat)=>cs.setIfInBounds (off+x.2) x.1) cs)=splice cs off (tmv a' s').cells.toList:=by
      rw [zav,← hk2]
      apply Array.ext'
      rw [← Array.foldl_toList,Array.toList_zipIdx]
      unfold splice
      simpa using hfold
    have hfit':off+(tmv a' s').cells.toList.length≤cs.size:=by simp [hc1]; omega
    have h1:=h.moveIn hd hdr hcs hsz hag hes hne.1 hloc hok hm1 hx1 (by omega)
    have hsize:=h.size
    obtain ⟨cs',S'',h2,h3,h4⟩:=zio hd hag hpp rest (s'::used) m1 x1 r _ _ _ _ h1 (zbd _ _ _ 0) (zai (by rw [hsize]; exact hd)) (by rw [zfv hfit']; exact hsz) (fun s2 h5 h6=>by
      simp only [List.mem_cons,not_or] at h6
      obtain ⟨h7,h8⟩:=hk s2 h5 h6.2
      exact ⟨by rw [zaj _ _ _ h5,zaj _ _ _ h6.1]; exact h7,by rw [zbe h5]; exact h8⟩) hr
    refine ⟨cs',S'',?_,h3,?_⟩
    · simp only [List.map_cons]
      unfold Instr.fill
      rw [hpl]
      simp only
      rw [if_neg hcond,hspl]
      exact h2
    · rw [put_putN] at h4
      exact h4
theorem buildN_sound (h:InvOf P c σ a S) (hT:TabOK P T) {fl d t:Nat} (hd:d < c.N) {ps:Array (Nat × Operand)} {us:Ups} (hx:zol T fl d t ps.toList (look σ)=some us) :
    ∃ v,(Instr.build t (ps.map fun (i,x)=>(i,a.eval x))).run P S.w=.ok v S.w∧Inv P c (upd us σ) (a.put (some d) v) S.w:=by
  unfold zol at hx
  split at hx
  case h_2=>cases hx
  rename_i i u ht
  split at hx
  case h_2=>cases hx
  rename_i z hz
  obtain ⟨hty,hsz,hag,hkind⟩:=hT.kind ht
  obtain ⟨j,d',hi,hd',hzz,hs,_,hk⟩:=zat hty
  have hmap:(ps.map fun (x:Nat × Operand)=>(x.1,a.eval x.2)).toList=ps.toList.map fun q=>(q.1,a.eval q.2):=by simp
  let S1:St:={ S with hv:=fun z=>if z.1=d then .slice none 0 0 else S.hv z }
  have hF:Fut2 S S1:=⟨fun _ h=>⟨h,rfl⟩,fun _ h=>⟨.inr h,rfl⟩⟩
  have hzs:=zbz (P:=P) (S:=S1) (p:=(d,[])) hz
  obtain ⟨hz1,hz2,_⟩:=zbh hzs
  have hz0:Rel P u S1 .sh (d,[]) z (fun i'=>i.zero.cells[i']?):=hzs.1.cong hz2
  split at hx
  case h_2=>cases hx
  rename_i offs hoffs
  obtain ⟨fs,rfl,hm⟩:=zfh (hk.trans (congrArg some hoffs))
  rw [hoffs] at hkind
  obtain ⟨fs',hfl,ho⟩:=zdf hkind
  have hagg:u.agg=true:=by obtain ⟨A,B,rfl⟩:=zeq hfl; rfl
  have hnm:=nilX_rel (T:=T) (S1:=S1) (p:=(d,[])) (fun π=>by show (if d=d then _ else _)=_; rw [if_pos rfl]) (v:=i.zero) fl hfl z hz0
  simp only [Option.bind_eq_some_iff,Option.map_eq_some_iff] at hx
  obtain ⟨⟨m',x'⟩,h1,r,hr,rfl⟩:=hx
  have hpp:∀ (S1:St) i ρ x tv,zgm offs.length i=some ρ→getP ρ u x=some tv→∃ off,offs[i]? = some (off,tv.t.size)∧locP ρ u=some (none,off)∧okP S1 ρ u (d,[]):=fun S1 i ρ x tv hρ hg=>by
    obtain ⟨u',y',o,h6,h7,h8,h9,h10⟩:=zep (S:=S1) (o0:=0) (x:=x) (p:=(d,[])) hfl hρ
    rw [hg] at h7
    cases h7
    refine ⟨o,?_,h8,h9⟩
    rw [← ho,Nat.zero_add] at h10
    exact h10
  obtain ⟨cs',h3,h4,h5⟩:=ziw h hF (p:=(d,[])) (place:=fun (k:Nat)=>offs[k]?) (path:=zgm offs.length) (hpp S1) _ _ _ i.zero.cells _ _ hz1 hnm h1
  have h6:InvOf P c (set1 σ d (.v u m' x') 0) (a.put (some d) (.agg cs')) S1:=by
    refine h.put (S':=S1) (.refl _) rfl rfl hd (fun t ht q=>?_) (fun _=>.inl rfl) (.v (zbd σ d _ 0) ?_)
    · exact if_neg ht
    · rw [zai (by rw [h.size]; exact hd)]
      refine ⟨?_,fun _=>⟨cs',rfl,h4⟩⟩
      unfold zab
      rw [if_pos hagg]
      exact h5
  obtain ⟨cs2,S2,h7,h8,h9⟩:=zio (σ:=σ) (a:=a) hd hagg hpp _ [] m' x' r _ _ _ cs' h6 (zbd _ _ _ 0) (zai (by rw [h.size]; exact hd)) h4 (fun s hs _=>⟨by rw [zaj _ _ _ hs],zbe hs⟩) hr
  refine ⟨.agg cs2,run_build S.w t _ cs2 ?_,S2,h8,?_⟩
  · simp only [Program.built,hi,hd',hzz,hm]
    rw [hmap]
    have:(fun (x:Nat)=>offs.toArray[x]?)=fun (k:Nat)=>offs[k]?:=by funext k; simp
    rw [this]
    conv=>lhs; arg 3; rw [← List.takeWhile_append_dropWhile (p:=fun p=>!ownOp (look σ p.2)) (l:=ps.toList),List.map_append]
    rw [zmp _ _ _ _ _ h3]
    exact h7
  · rw [put_putN] at h9
    exact h9
def boxO (T:Tab) (d t:Nat) (x:Opd):Option Ups :=
  match tl T t,x with
  | some (_,u),.slot s cc _=>match cc.e with
    | .v t' m y=>if s=d∨t' ≠ u then none else some [(s,.dead,0),(d,.v (.ptr t') (.own 0 m) y,0)]
    | _=>none
  | _,_=>none
def boxX (T:Tab) (d t:Nat) (x:Opd):Option Ups :=
  match boxU T d t x with
  | some us=>some us
  | none=>boxO T d t x
theorem boxO_sound (h:InvOf P c σ a S) {d t:Nat} (hd:d < c.N) {x:Operand} {us:Ups} (hx:boxO T d t (look σ x)=some us) :
    ∃ v w',(Instr.box t (a.eval x)).run P S.w=.ok v w'∧Inv P c (upd us σ) (a.put (some d) v) w':=by
  unfold boxO at hx
  split at hx
  case h_2=>cases hx
  rename_i i u s cc root ht hlo
  split at hx
  case h_2=>cases hx
  rename_i t' m y he
  split at hx
  · cases hx
  rename_i hne
  simp only [not_or,ne_eq,Decidable.not_not] at hne
  obtain ⟨hne,rfl⟩:=hne
  cases hx
  cases x with
  | const v=>simp [look] at hlo
  | func f=>simp [look] at hlo
  | global g=>simp [look] at hlo
  | tmp s' =>
  simp only [look,Opd.slot.injEq] at hlo
  obtain ⟨rfl,rfl,rfl⟩:=hlo
  rw [zav]
  have hsr:=h.slot he
  obtain ⟨hc1,hc2,_⟩:=zbh hsr
  obtain ⟨q1,q2,q3⟩:=h.mvOwned (p:=(s',[])) (q:=(d,[0]))
  let b0:=S.w.heap.size
  let S0:=mv S (s',[]) (d,[0])
  let S':St:={ S0 with w:=S.w.alloc (.cells (tmv a s').cells t),own:=fun b=>if b=b0 then some (d,[]) else S0.own b,hv:=fun z=>if z=(d,[]) then .pointer (some ⟨b0,0,none⟩) else S0.hv z }
  have hext:Ext S.w S'.w:=Ext.alloc _ _
  have hlt:∀ {b},b < S.w.heap.size→b ≠ b0:=fun h=>Nat.ne_of_lt h
  have hown:∀ {b z},S0.own b=some z→S'.own b=some z:=fun {b z} hb=>by
    show (if b=b0 then _ else _)=_
    rw [if_neg (hlt (q3 b z hb).1)]; exact hb
  have hsame:∀ b,b < S.w.heap.size→S'.w.heap[b]? = S.w.heap[b]?:=fun b hb=>hext.block b hb
  refine ⟨.pointer (some ⟨b0,0,none⟩),S'.w,by simp [Instr.box,newVar,newRow]; rfl,S',rfl,?_⟩
  refine h.rebuild (S':=S') (fun t=>t=s'∨t=d) (by simpa [Act.put] using h.defers) (by simpa [Act.put] using h.size)
    (fun t ht=>⟨by rw [show upd [(s',Ent.dead,0),(d,.v (.ptr t') (.own 0 m) y,0)] σ=set1 (set1 σ s' .dead 0) d (.v (.ptr t') (.own 0 m) y) 0 from rfl,zaj _ _ _ (fun e=>ht (.inr e)),zaj _ _ _ (fun e=>ht (.inl e))],zbe fun e=>ht (.inr e)⟩) (fun r hr=>?_) (fun t ht=>?_) (fun _ h=>h) (fun b hb=>hsame b (h.wlt (.inl hb))) rfl (fun b hb=>hsame b (h.wlt (.inr (.inl hb))))
    (fun t ht q=>?_) (fun t ht b q hb=>⟨hown (zci hb fun ρ he=>ht (.inl (zch he))),hsame b (h.wlt (.inr (.inr ⟨_,hb⟩)))⟩) (fun b hb=>?_) (fun b hb=>?_) (fun b p hb=>?_) hext.os hext.tape hext.output hext.size (fun b hb _=>hsame b (Nat.lt_of_lt_of_le hb h.grown))
  · show Chg S S' σ (set1 (set1 σ s' .dead 0) d _ 0) r
    by_cases hrd:r=d
    · subst hrd
      exact ⟨by rw [zag]; exact Nat.le_refl _,.inl (by rw [zag,zaj _ _ _ (Ne.symm hne)]; exact Nat.lt_succ_self _)⟩
    · have hrs:=hr.resolve_right hrd
      subst hrs
      exact ⟨by rw [zaj _ _ _ hrd,zag]; exact Nat.le_refl _,.inl (by rw [zaj _ _ _ hrd,zag]; exact Nat.lt_succ_self _)⟩
  · show SlotOK P S' (set1 (set1 σ s' .dead 0) d _ 0) _ t
    by_cases htd:t=d
    · subst htd
      refine .v (zbd _ _ _ 0) ?_
      rw [zai (by rw [h.size]; exact hd)]
      have hhv:S'.hv (t,[])=.pointer (some ⟨b0,0,none⟩):=if_pos rfl
      refine ⟨⟨by rw [hhv]; simp [zab,Ty.agg],b0,(tmv a s').cells,_,hhv,if_pos rfl,heap_alloc_new S.w _,hc1,?_⟩,fun h=>by cases h⟩
      refine hsr.1.mono (q:=true) (p':=px (t,[]) 0) (.inl rfl) ⟨fun _ h=>h,fun b hb=>hsame b (h.wlt (.inl hb)),fun _ _ h=>.inr h,fun _ b hb=>hsame b (h.wlt (.inr (.inl hb))),fun ρ=>?_,fun b ρ hb=>⟨?_,hsame b (h.wlt (.inr (.inr ⟨_,hb⟩)))⟩⟩ (fun j hj=>hc2 j hj)
      · have e1:pa (px (t,[]) 0) ρ=pa (t,[0]) ρ:=rfl
        have:S'.hv (pa (t,[0]) ρ)=S0.hv (pa (t,[0]) ρ):=if_neg (by simp [pa])
        rw [e1,this]
        exact mv_hv ρ
      · exact hown (mv_own hb)
    · have hts:=ht.resolve_right htd
      subst hts
      unfold SlotOK
      rw [zaj _ _ _ htd,zbd]
      trivial
  · show (if (t,q)=(d,[]) then _ else _)=_
    rw [if_neg fun he=>ht (.inr (by cases he; rfl))]
    exact zco fun ρ he=>ht (.inr (zch he))
  · have h1:=q1 b hb
    refine ⟨?_,Nat.lt_of_lt_of_le h1.2.1 hext.size,h1.2.2⟩
    show (if b=b0 then _ else _)=_
    rw [if_neg (hlt h1.2.1)]
    exact h1.1
  · show (if b=b0 then _ else _)=_
    rw [if_neg (hlt (Nat.lt_of_lt_of_le (h.borrowed b hb).2.1 h.grown))]
    exact q2 b hb
  · have h1:(if b=b0 then some (d,[]) else S0.own b)=some p:=hb
    split at h1
    · rename_i hbb
      subst hbb
      exact ⟨by show _ < (S.w.alloc _).heap.size; simp [b0],.inl h.grown⟩
    · have:=q3 b p h1
      exact ⟨Nat.lt_of_lt_of_le this.1 hext.size,this.2⟩
theorem boxX_sound (h:InvOf P c σ a S) {d t:Nat} (hd:d < c.N) {x:Operand} {us:Ups} (hx:boxX T d t (look σ x)=some us) :
    ∃ v w',(Instr.box t (a.eval x)).run P S.w=.ok v w'∧Inv P c (upd us σ) (a.put (some d) v) w':=by
  unfold boxX at hx
  split at hx
  · rename_i us' hu
    cases hx
    exact box_sound h hd hu
  · exact boxO_sound h hd hx
theorem InvOf.newOwn (h:InvOf P c σ a S) {d:Nat} (hd:d < c.N) {w':World} (hw:Ext S.w w') {u:Ty} {e:TypeId} {m:Md} {xs:List u.den} {cap:Nat} {cur:Array Value} (hg:w'.heap[S.w.heap.size]? = some (.cells cur e (0,0))) (hcap:xs.length≤cap) (hcm:cap≤maxLen)
    (hcur:cur.size=cap * u.size) (hpos:0 < u.size) (hl:xs.length≤maxL) (hm:m.noown=true) (hr:∀ (i:Nat) (h:i < xs.length),∃ q,Rel P u S m q xs[i] (fun j=>cur[i * u.size+j]?)) :
    ∃ S',S'.w=w'∧InvOf P c (set1 σ d (.v (.slice u) (.own e m) xs) 0) (a.put (some d) (.slice (some ⟨S.w.heap.size,0,none⟩) xs.length cap)) S':=by
  let S':St:={ S with w:=w',own:=fun b=>if b=S.w.heap.size then some (d,[]) else S.own b,hv:=fun z=>if z=(d,[]) then .slice (some ⟨S.w.heap.size,0,none⟩) xs.length cap else S.hv z }
  have hlt:S.w.heap.size < w'.heap.size:=(Array.getElem?_eq_some_iff.1 hg).1
  refine ⟨S',rfl,h.put (S':=S') hw rfl rfl hd (fun t ht q=>if_neg (fun he=>ht (by cases he; rfl))) (fun b=>?_) ?_⟩
  · by_cases hb:b=S.w.heap.size
    · subst hb; exact .inr ⟨own_new h,Nat.le_refl _,hlt⟩
    · exact .inl (if_neg hb)
  · refine .v (zbd σ d _ 0) ?_
    rw [zai (by rw [h.size]; exact hd)]
    have hhv:S'.hv (d,[])=.slice (some ⟨S.w.heap.size,0,none⟩) xs.length cap:=if_pos rfl
    refine ⟨⟨hl,hpos,by rw [hhv]; simp [zab,Ty.agg],.inr ⟨S.w.heap.size,cap,cur,hhv,if_pos rfl,hg,hcap,hcm,hcur,fun i hi=>?_⟩⟩,fun h=>by cases h⟩
    obtain ⟨q,h1⟩:=hr i hi
    exact h1.free hm (fut2_ext h hw rfl rfl) fun _ _=>rfl
theorem leM_sh {M:Md} (hM:M=.sh∨M=.bw):∀ u:Ty,leM u .sh M=true:=by
  intro u
  induction u with
  | pair A B ihA ihB=>rcases hM with rfl | rfl <;> (simp only [leM,Md.l,Md.r,ihA,ihB]; rfl)
  | arr n t ih=>exact ih
  | slice t ih=>rcases hM with rfl | rfl <;> first | rfl | exact ih
  | ptr t ih=>rcases hM with rfl | rfl <;> first | rfl | exact ih
  | alt tid A B ihA ihB=>rcases hM with rfl | rfl <;> (simp only [leM,ihA,ihB]; rfl)
  | _=>rcases hM with rfl | rfl <;> rfl
theorem zhg {u:Ty} {z:u.den} {v:Value} {S:St} (hs:SR P u S .sh (0,[]) z v) (n:Nat):(madeCells v.cells (n * u.size)).size=n * u.size ∧
    ∀ (i:Nat),i < n→∀ q,Rel P u S .sh q z (fun j=>(madeCells v.cells (n * u.size))[i * u.size+j]?):=by
  obtain ⟨hc1,hc2,_⟩:=zbh hs
  refine ⟨by simp [madeCells],fun i hi q=>hs.1.free rfl (.refl S) fun j hj=>?_⟩
  have hlt:i * u.size+j < n * u.size:=by
    have:(i+1) * u.size≤n * u.size:=Nat.mul_le_mul_right _ hi
    rw [Nat.add_mul] at this
    omega
  have hmod:(i * u.size+j) % v.cells.size=j:=by rw [hc1,Nat.add_comm,Nat.add_mul_mod_self_right,Nat.mod_eq_of_lt hj]
  have hj':j < v.cells.size:=by omega
  rw [← hc2 j hj]
  simp only [madeCells]
  rw [Array.getElem?_map,Array.getElem?_range]
  simp only [hlt,if_true,Option.map_some,hmod]
  rw [Array.getElem?_eq_getElem hj',getElem!_pos v.cells j hj']
theorem make_sound (h:InvOf P c σ a S) (hT:TabOK P T) {d t:Nat} (hd:d < c.N) {o o':Operand} {us:Ups} {ob:Bool} (hx:makeU T d t (look σ o) (look σ o')=some (ob,us)) (hob:ob=true) :
    ∃ v w',(Instr.makeSlice t (a.eval o) (a.eval o')).run P S.w=.ok v w'∧Inv P c (upd us σ) (a.put (some d) v) w':=by
  unfold makeU at hx
  split at hx
  case h_2=>cases hx
  rename_i i u k n k' n' ht hn hn'
  split at hx
  case h_2=>cases hx
  rename_i e he
  split at hx
  case h_2=>cases hx
  rename_i j u2 hte
  split at hx
  case h_2=>cases hx
  rename_i z hz
  split at hx
  case isFalse=>cases hx
  rename_i hcond
  obtain ⟨rfl,hpos,hby⟩:=hcond
  simp only [Option.some.injEq,Prod.mk.injEq] at hx
  obtain ⟨rfl,rfl⟩:=hx
  simp only [Bool.and_eq_true,decide_eq_true_eq] at hob
  obtain ⟨rfl,h0,h1⟩:=hob
  obtain ⟨hty,_,_,hkind⟩:=hT.kind ht
  obtain ⟨_,d1,_,hd1,_,_,_,hk1⟩:=zat hty
  obtain ⟨e2,i2,hk2,hte2,_⟩:=zca hkind
  rw [he] at hk2
  cases hk2
  rw [hte] at hte2
  cases hte2
  have:=zdc (hk1.trans (congrArg some he))
  subst this
  obtain ⟨hty1,hsz1,_,_⟩:=hT.kind hte
  obtain ⟨j',d',hi',hd',hzz,hs',hb',_⟩:=zat hty1
  obtain ⟨nn,rfl⟩:=Int.eq_ofNat_of_zero_le h0
  have hnn:nn≤4294967296:=by rw [zev] at h1; omega
  rw [(h.ival hn).1,(h.ival hn').1]
  have hzs:=zbz (P:=P) (S:=S) (p:=(0,[])) hz
  obtain ⟨w',h2,h3,h4⟩:=run_make_full (P:=P) S.w S.w.heap.size t e j' j.zero u.size hd1 hi' hzz (by rw [hs',hsz1]) k k nn (by rw [hb']; exact Nat.le_trans (Nat.mul_le_mul hby hnn) (by decide)) (by unfold maxLen; omega) (Nat.le_refl _)
  have hext:Ext S.w w':=⟨h4.os,h4.tape,h4.output,h4.size,fun k hk=>h4.block k hk (by simp)⟩
  obtain ⟨_,h5⟩:=h3
  rcases h5 with ⟨h5,_⟩ | ⟨g,cap,cur,h5,_,h6,h7,h8,h9,h10⟩
  · cases h5
  cases h5
  have hcur:cur.toList=(madeCells j.zero.cells (nn * u.size)).toList:=by
    rw [← h10,List.take_of_length_le (by simp [h9])]
  have hcur':cur=madeCells j.zero.cells (nn * u.size):=Array.ext' hcur
  obtain ⟨_,hm2⟩:=zhg hzs nn
  obtain ⟨S',h11,h12⟩:=h.newOwn hd hext (u:=u) (e:=e) (m:=.sh) (xs:=List.replicate nn z) (cap:=nn) (cur:=cur) h6 (by simp) h8 h9 hpos (by simp [maxL]; omega) rfl fun i hi=>by
    simp only [List.length_replicate] at hi
    refine ⟨(0,[]),?_⟩
    rw [List.getElem_replicate,hcur']
    exact hm2 i hi _
  rw [List.length_replicate] at h12
  refine ⟨_,w',h2,S',h11,?_⟩
  show InvOf P c (set1 σ d (.v (.slice u) (.own e .sh) (List.replicate (nn:Int).toNat z)) 0) _ S'
  rw [Int.toNat_natCast]
  exact h12
theorem lit_sound (h:InvOf P c σ a S) (hT:TabOK P T) {fl d t len:Nat} (hd:d < c.N) {ps:Array (Nat × Operand)} {us:Ups} (hx:litU T fl d t len ps.toList (look σ)=some us) :
    ∃ v w',(Instr.buildSlice t len (ps.map fun (i,x)=>(i,a.eval x))).run P S.w=.ok v w'∧Inv P c (upd us σ) (a.put (some d) v) w':=by
  unfold litU at hx
  split at hx
  case h_2=>cases hx
  rename_i i u ht
  split at hx
  case h_2=>cases hx
  rename_i e he
  split at hx
  case h_2=>cases hx
  rename_i j u2 hte
  split at hx
  case h_2=>cases hx
  rename_i z hz
  split at hx
  case isFalse=>cases hx
  rename_i hcond
  obtain ⟨hpos,hbig⟩:=hcond
  split at hx
  case h_2=>cases hx
  rename_i m x hfill
  split at hx
  case isFalse=>cases hx
  rename_i hm
  cases hx
  obtain ⟨hty,_,_,hkind⟩:=hT.kind ht
  obtain ⟨_,d1,_,hd1,_,_,_,hk1⟩:=zat hty
  obtain ⟨e2,i2,hk2,hte2,_⟩:=zca hkind
  rw [he] at hk2
  cases hk2
  rw [hte] at hte2
  cases hte2
  have:=zdc (hk1.trans (congrArg some he))
  subst this
  obtain ⟨hty1,hsz1,_,_⟩:=hT.kind hte
  obtain ⟨j',d',hi',hd',hzz,hs',hb',_⟩:=zat hty1
  have hzs:=zbz (P:=P) (S:=S) (p:=(0,[])) hz
  obtain ⟨hm1,hm2⟩:=zhg hzs len
  have hM:(if fl=1 then Md.bw else Md.sh)=.sh∨(if fl=1 then Md.bw else Md.sh)=.bw:=by split <;> simp
  have hleM:leM u .sh (if fl=1 then Md.bw else Md.sh)=true:=leM_sh hM u
  obtain ⟨cs',h3,h4,h5⟩:=ziw h (.refl S) (u:=.arr len u) (p:=(0,[])) (place:=fun k=>some (k * j.size,j.size)) (path:=fun i=>if i < len then some [i] else none) (fun i ρ x tv hρ hg=>by
    split at hρ
    · rename_i hin
      cases hρ
      rw [zhk] at hg
      simp only [getP,Option.some.injEq] at hg
      subst hg
      exact ⟨i * u.size,by rw [hsz1],by rw [zcw]; simp [locP],by rw [zdd]; exact ⟨hin,trivial⟩⟩
    · cases hρ) _ _ _ (madeCells j.zero.cells (len * u.size)) _ _ hm1 ⟨by simp,fun i hi=>by
      simp only [List.length_replicate] at hi
      rw [List.getElem_replicate]
      exact (hm2 i hi _).weaken hleM⟩ hfill
  obtain ⟨h6,h7⟩:=h5
  have hlen:len≤len * u.size:=Nat.le_mul_of_pos_right _ hpos
  obtain ⟨S',h11,h12⟩:=h.newOwn hd (Ext.alloc S.w (.cells cs' e)) (u:=u) (e:=e) (m:=m) (xs:=x) (cap:=len) (cur:=cs') (heap_alloc_new S.w _) (by omega) (by unfold maxLen; omega) h4 hpos (by unfold maxL; omega) hm fun i hi=>⟨_,h7 i hi⟩
  have hmap:(ps.map fun (x:Nat × Operand)=>(x.1,a.eval x.2)).toList=ps.toList.map fun q=>(q.1,a.eval q.2):=by simp
  refine ⟨_,_,?_,S',h11,by rw [h6] at h12; exact h12⟩
  have hmade:(Array.range (len * u.size)).map (fun k=>j.zero.cells[k % j.zero.cells.size]!)=madeCells j.zero.cells (len * u.size):=rfl
  have h1':Instr.fill (fun i=>some (i * j.size,j.size)) (madeCells j.zero.cells (len * u.size)) (ps.map fun (x:Nat × Operand)=>(x.1,a.eval x.2)).toList=some cs':=by rw [hmap]; exact h3
  rw [hsz1] at h1' hs'
  by_cases hz0:len * u.size=0
  · have e0:(Array.range (len * u.size)).map (fun k=>(#[]:Array Value)[k % (#[]:Array Value).size]!)=madeCells j.zero.cells (len * u.size):=by rw [hz0]; simp [madeCells]
    simp only [Instr.buildSlice,run_underlying hd1,sizeOf,typeInfo,Sem.run_bind,Sem.run_pure,Result.andThen_ok,run_program,hi',hs',if_pos hz0,if_neg (Nat.not_lt.2 hbig),e0,h1',newRow,run_newObj,World.alloc_eq,gt_iff_lt]
  · simp only [Instr.buildSlice,run_underlying hd1,sizeOf,typeInfo,Sem.run_bind,Sem.run_pure,Result.andThen_ok,run_program,hi',hs',zeroValue,hzz,if_neg hz0,if_neg (Nat.not_lt.2 hbig),hmade,h1',newRow,run_newObj,World.alloc_eq,gt_iff_lt]
end
end Go.X
set_option linter.unusedSimpArgs false
set_option linter.unusedVariables false
namespace Go.X
open Go Go.RowKit
def elm:Md→Md
  | .own _ k=>k
  | m=>m
def srcU (T:Tab) (ty e d:Nat) (u:Ty) (M0:Md) (o:Opd):Option (Ups × Md × List u.den) :=
  match o with
  | .con (.slice none 0 0)=>some ([(d,.v (.slice u) (.own e M0) [],0)],M0,[])
  | o=>match o.val (.slice u) with
    | some (.own e' M,xs)=>if e'=e then (asgU T ty d o).map fun us=>(us,M,xs) else none
    | _=>none
noncomputable def appU (T:Tab) (ty d t:Nat) (A X:Opd):Option (Bool × Ups) :=
  match tl T t with
  | some (i,.slice u)=>match i.k with
    | .slice e=>match tl T e with
      | some (j,_)=>if 0 < u.size∧j.bytes≤16384∧j.zero.cells.toList.length=u.size then
          match X.val (.slice u) with
          | some (mx,ys)=>if (elm mx).noown=true∧live u (elm mx)=true∧mx ≠ .dead then
              match srcU T ty e d u (nm u (elm mx)) A with
              | some (us,M,xs)=>if leM u (elm mx) M then some (decide ((xs.length:Int)+(ys.length:Int)≤LIM),us++[(d,.v (.slice u) (.own e M) (xs++ys),0)]) else none
              | none=>none
            else none
          | none=>none
        else none
      | none=>none
    | _=>none
  | _=>none
noncomputable def appZ (T:Tab) (ty d t u:Nat) (A N:Opd):Option (Bool × Ups) :=
  match tl T t,tl T u,N.ival with
  | some (i,.slice s),some (_,.int _),some (_,n)=>match i.k with
    | .slice e=>match tl T e with
      | some (j,_)=>match cval s j.zero with
        | some z=>if 0 < s.size∧j.bytes≤16384∧j.zero.cells.toList.length=s.size then
            match srcU T ty e d s .sh A with
            | some (us,M,xs)=>if leM s .sh M then some (decide (0≤n) && decide ((xs.length:Int)+n≤LIM),us++[(d,.v (.slice s) (.own e M) (xs++List.replicate n.toNat z),0)]) else none
            | none=>none
          else none
        | none=>none
      | none=>none
    | _=>none
  | _,_,_=>none
def bndV (o:Option Opd) (dflt:Int):Option Int :=
  match o with
  | none=>some dflt
  | some o=>o.ival.map (·.2)
def zcf (l h:Int) (n:Nat):Bool:=decide (0≤l) && (decide (l≤h) && decide (h≤(n:Int)))
def tailU (d:Nat) (o:Opd) (lo:Option Opd) (hi:Option Opd):Option (Bool × Ups) :=
  match o,lo,hi with
  | .slot _ c root,some l,none=>match c.e with
    | .view r [] s=>match root.e with
      | .v (.slice _) (.own _ _) xs=>if root.h=s then (match bndV (some l) 0 with
        | some n=>some (zcf n (xs.length:Int) xs.length,[(d,.tail r s n.toNat,0)])
        | none=>none) else none
      | _=>none
    | _=>none
  | _,_,_=>none
def sliceU (T:Tab) (ty d t:Nat) (o:Opd) (lo hi:Option Opd):Option (Bool × Ups) :=
  match tl T t with
  | some (_,.slice u)=>match o.val (.slice u) with
    | some (.sh,xs)=>match bndV lo 0,bndV hi (xs.length:Int) with
      | some l,some h=>some (zcf l h xs.length,[(d,.v (.slice u) .sh ((xs.take h.toNat).drop l.toNat),0)])
      | _,_=>none
    | some (.bw,xs)=>match bndV lo 0,bndV hi (xs.length:Int) with
      | some l,some h=>some (zcf l h xs.length,[(d,.v (.slice u) .bw ((xs.take h.toNat).drop l.toNat),0)])
      | _,_=>none
    | some (.own e M,xs)=>match lo with
      | some _=>tailU d o lo hi
      | none=>match bndV hi (xs.length:Int),asgU T ty d o with
        | some h,some us=>some (zcf 0 h xs.length,us++[(d,.v (.slice u) (.own e M) (xs.take h.toNat),0)])
        | _,_=>none
    | _=>none
  | some (_,.str)=>match o.val .str with
    | some (m,x)=>if m=.dead then none else match bndV lo 0,bndV hi ((x:List Int).length:Int) with
      | some l,some h=>some (zcf l h (x:List Int).length,[(d,.v .str .sh (((x:List Int).take h.toNat).drop l.toNat),0)])
      | _,_=>none
    | none=>none
  | _=>none
section
variable {P:Program} {c:Ctx} {σ:Env} {a:Act} {S:St} {T:Tab}
def Rows (P:Program) (S:St) (u:Ty) (k:Md) (ys:List u.den) (v:Value):Prop :=
  (v=.slice none 0 0∧ys=[])∨(∃ ad,v=.slice (some ad) 0 0∧ys=[])∨∃ b o cap,v=.slice (some ⟨b,o,none⟩) ys.length cap∧ys.length≤cap∧∀ (i:Nat) (h:i < ys.length),∃ q,Rel P u S k q ys[i] (blk S.w b (o+i * u.size))
theorem rows_of {u:Ty} {m:Md} {p:Place} {ys:List u.den} {v:Value} (h:SR P (.slice u) S m p ys v) (hm:m ≠ .dead):Rows P S u (elm m) ys v:=by
  obtain ⟨h1,_,h3⟩:=h.1
  have hc:zab (.slice u) v 0=some v:=by simp [zab,Ty.agg]
  have shbw:(∃ a' len cap,zab (.slice u) v 0=some (.slice a' len cap)∧len=ys.length∧len≤cap∧((ys=[]∧cap=0)∨∃ b o',a'=some ⟨b,o',none⟩∧(ys ≠ []→S.G m b)∧∀ (i:Nat) (h:i < ys.length),Rel P u S m (px p i) ys[i] (blk S.w b (o'+i * u.size))))→Rows P S u m ys v:=fun ⟨a',len,cap,h4,h5,h6,h7⟩=>by
    rw [hc] at h4
    have hv:=Option.some.inj h4
    subst h5
    rcases h7 with ⟨rfl,rfl⟩ | ⟨b,o',rfl,_,h8⟩
    · cases a' with
      | none=>exact .inl ⟨hv,rfl⟩
      | some ad=>exact .inr (.inl ⟨ad,hv,rfl⟩)
    · exact .inr (.inr ⟨b,o',cap,hv,h6,fun i hi=>⟨_,h8 i hi⟩⟩)
  cases m with
  | dead=>exact absurd rfl hm
  | pr=>exact h3.elim
  | sh=>exact shbw h3
  | bw=>exact shbw h3
  | own e k =>
    obtain ⟨h3,h4⟩:=h3
    rw [hc] at h3
    have hv:=Option.some.inj h3
    rcases h4 with ⟨h4,h5⟩ | ⟨g,cap,cur,h4,h5,h6,h7,h8,h9,h10⟩
    · exact .inl ⟨hv.trans h4,h5⟩
    · refine .inr (.inr ⟨g,0,cap,hv.trans h4,h7,fun i hi=>⟨px p i,?_⟩⟩)
      rw [zhw h6]
      have:=h10 i hi
      simpa [elm] using this
theorem Rows.fut {u:Ty} {k:Md} {ys:List u.den} {v:Value} {S':St} (h:Rows P S u k ys v) (hk:k.noown=true) (hf:Fut2 S S') (hw:S'.w=S.w):Rows P S' u k ys v:=by
  refine h.imp id (Or.imp id fun ⟨b,o,cap,h1,h2,h3⟩=>⟨b,o,cap,h1,h2,fun i hi=>?_⟩)
  obtain ⟨q,h4⟩:=h3 i hi
  exact ⟨q,h4.free hk hf fun j _=>by rw [hw]⟩
theorem rows_news {u:Ty} {k:Md} {b o:Nat} {ys:List u.den} (h:∀ (i:Nat) (h:i < ys.length),∃ q,Rel P u S k q ys[i] (blk S.w b (o+i * u.size))) :
    ∃ news:List Value,news.length=ys.length * u.size∧(∀ j w,news[j]? = some w→S.w.cell? ((⟨b,o,none⟩:Addr).add j)=some w)∧(∀ w∈news,w.oneCell'=true)∧∀ (i:Nat) (h:i < ys.length),∃ q,Rel P u S k q ys[i] (fun j=>news[i * u.size+j]?):=by
  rcases Nat.eq_zero_or_pos u.size with hz | hz
  · refine ⟨[],by rw [hz]; simp,fun j w hj=>by simp at hj,by simp,fun i hi=>?_⟩
    obtain ⟨q,h1⟩:=h i hi
    exact ⟨q,h1.cong fun j hj=>by omega⟩
  have hcell:∀ k',k' < ys.length * u.size→∃ w,blk S.w b o k'=some w∧w.oneCell'=true:=fun k' hk'=>by
    have hi:k' / u.size < ys.length:=(Nat.div_lt_iff_lt_mul hz).2 hk'
    obtain ⟨q,h1⟩:=h _ hi
    obtain ⟨w,h2,h3⟩:=h1.cells (k' % u.size) (Nat.mod_lt _ hz)
    refine ⟨w,?_,h3⟩
    have he:o+k' / u.size * u.size+k' % u.size=o+k':=by rw [Nat.add_assoc,Nat.div_add_mod']
    have h2':S.w.cell? ⟨b,o+k' / u.size * u.size+k' % u.size,none⟩=some w:=h2
    rw [he] at h2'
    exact h2'
  obtain ⟨news,h1,h2,h3⟩:=znk hcell
  refine ⟨news,h1,fun j w hj=>?_,h3,fun i hi=>?_⟩
  · have hlt:j < ys.length * u.size:=by
      rcases Nat.lt_or_ge j news.length with h' | h'
      · omega
      · rw [List.getElem?_eq_none h'] at hj; cases hj
    rw [h2 j hlt] at hj
    rw [zdh]
    exact hj
  · obtain ⟨q,h4⟩:=h i hi
    refine ⟨q,h4.cong fun j hj=>?_⟩
    have hlt:i * u.size+j < ys.length * u.size:=by
      have:(i+1) * u.size≤ys.length * u.size:=Nat.mul_le_mul_right _ hi
      rw [Nat.add_mul] at this
      omega
    show news[i * u.size+j]? = _
    rw [h2 _ hlt]
    simp [blk,Nat.add_assoc]
theorem Rows.news {u:Ty} {k:Md} {ys:List u.den} {v:Value} (h:Rows P S u k ys v):(v=.slice none 0 0∧ys=[])∨∃ ad cap,v=.slice (some ad) ys.length cap∧ys.length≤cap ∧
    ∃ news:List Value,news.length=ys.length * u.size∧(∀ j w,news[j]? = some w→S.w.cell? (ad.add j)=some w)∧(∀ w∈news,w.oneCell'=true)∧∀ (i:Nat) (h:i < ys.length),∃ q,Rel P u S k q ys[i] (fun j=>news[i * u.size+j]?):=by
  rcases h with h | ⟨ad,h1,rfl⟩ | ⟨b,o,cap,h1,h2,h3⟩
  · exact .inl h
  · refine .inr ⟨ad,0,h1,Nat.le_refl 0,([]:List Value),(Nat.zero_mul _).symm,?_,?_,fun i h=>absurd h (Nat.not_lt_zero i)⟩
    · intro j w h; simp at h
    · intro w h; cases h
  · exact .inr ⟨_,cap,h1,h2,rows_news h3⟩
theorem zpb (a:Act) (d:Nat) (v v':Value):(a.put (some d) v).put (some d) v'=a.put (some d) v':=by
  simp [Act.put]
theorem InvOf.regrow (h:InvOf P c σ a S) {d:Nat} (hd:d < c.N) {u:Ty} {e:TypeId} {M:Md} {xs zs:List u.den} (he:(σ d).e=.v (.slice u) (.own e M) xs) {w':World} (hg:S.w.grownBy w' (S.hv (d,[])).ownBlock) {v':Value}
    (hb:∀ b,v'.ownBlock=some b→(S.hv (d,[])).ownBlock=some b∨(b=S.w.heap.size∧b < w'.heap.size)) {cs:List Value} (ho:w'.ownsRow 0 e u.size v' zs.length cs) (hl:zs.length≤maxL)
    (hz:∀ S',S'.w=w'→(∀ q,Tr true S S' (d,q) (d,q)∨q=[])→Fut2 S S'→∀ (i:Nat) (h:i < zs.length),Rel P u S' M (d,[i]) zs[i] (fun j=>cs[i * u.size+j]?)) :
    ∃ S',S'.w=w'∧S'.F=S.F∧S'.B=S.B∧InvOf P c (set1 σ d (.v (.slice u) (.own e M) zs) 0) (a.put (some d) v') S':=by
  let S':St:={ S with w:=w',own:=fun b=>if v'.ownBlock=some b then some (d,[]) else S.own b,hv:=fun z=>if z=(d,[]) then v' else S.hv z }
  have hsr:=h.slot he
  have hpos:0 < u.size:=hsr.1.2.1
  have hrow:∀ b,(S.hv (d,[])).ownBlock=some b→S.own b=some (d,[]):=fun b hbb=>by
    rcases hsr.1.2.2.2 with ⟨h1,_⟩ | ⟨g,cap,cur,h1,h2,_⟩
    · rw [h1] at hbb; cases hbb
    · rw [h1] at hbb; cases hbb; exact h2
  have hsame:∀ b,b < S.w.heap.size→S.own b ≠ some (d,[])→w'.heap[b]? = S.w.heap[b]?:=fun b hlt hne=>hg.block b hlt fun hh=>hne (hrow b hh.symm)
  have hown:∀ b,b < S.w.heap.size→S.own b ≠ some (d,[])→S'.own b=S.own b:=fun b hlt hne=>if_neg fun hh=>by
    rcases hb b hh with h1 | ⟨h1,_⟩
    · exact hne (hrow b h1)
    · omega
  have hf2:Fut2 S S':=⟨fun b hb=>⟨hb,hsame b (h.wlt (.inl hb)) (by rw [(h.shared b hb).1]; simp)⟩,fun b hb=>⟨.inr hb,hsame b (h.wlt (.inr (.inl hb))) (by rw [(h.WF.borrowed b hb).1]; simp)⟩⟩
  have htr:∀ q,Tr true S S' (d,q) (d,q)∨q=[]:=fun q=>by
    by_cases hq:q=[]
    · exact .inr hq
    · refine .inl ⟨fun _ h=>h,fun b hb=>(hf2.F b hb).2,fun _ _ h=>.inr h,fun _ b hb=>(hf2.B b hb).2,fun r=>if_neg fun hh=>?_,fun b r hbb=>?_⟩
      · simp only [pa,Prod.mk.injEq,true_and,List.append_eq_nil_iff] at hh
        exact hq hh.1
      · have hne:S.own b ≠ some (d,[]):=by
          rw [hbb]
          intro hh
          simp only [pa,Option.some.injEq,Prod.mk.injEq,true_and,List.append_eq_nil_iff] at hh
          exact hq hh.1
        have hlt:=h.wlt (.inr (.inr ⟨_,hbb⟩))
        exact ⟨(hown b hlt hne).trans hbb,hsame b hlt hne⟩
  refine ⟨S',rfl,rfl,rfl,h.rebuild (fun t=>t=d) (by simpa [Act.put] using h.defers) (by simpa [Act.put] using h.size) (fun t ht=>⟨zaj σ _ _ ht,zbe ht⟩) (fun r hr=>?_) (fun t ht=>?_)
    (fun _ h=>h) (fun b hb=>(hf2.F b hb).2) rfl (fun b hb=>(hf2.B b hb).2) (fun t ht q=>if_neg (fun he=>ht (by cases he; rfl))) (fun t ht b q hbb=>?_) (fun b hbb=>⟨?_,Nat.lt_of_lt_of_le (h.shared b hbb).2.1 hg.size,(h.shared b hbb).2.2⟩) (fun b hbb=>?_) (fun b p hp=>?_)
    hg.os hg.tape hg.output hg.size (fun b hlt hO=>?_)⟩
  · subst hr
    exact ⟨by rw [zag]; exact Nat.le_refl _,.inl (by rw [zag]; exact Nat.lt_succ_self _)⟩
  · subst ht
    refine .v (zbd σ t _ 0) ?_
    rw [zai (by rw [h.size]; exact hd)]
    have hhv:S'.hv (t,[])=v':=if_pos rfl
    refine ⟨⟨hl,hpos,by rw [hhv]; simp [zab,Ty.agg],?_⟩,fun h=>by cases h⟩
    rw [hhv]
    obtain ⟨ho1,ho2⟩:=ho
    rcases ho2 with ⟨h1,h2⟩ | ⟨g,cap,cur,h1,_,h2,h3,h4,h5,h6⟩
    · exact .inl ⟨h1,List.eq_nil_of_length_eq_zero h2⟩
    · refine .inr ⟨g,cap,cur,h1,if_pos (by rw [h1]; rfl),h2,h3,h4,h5,fun i hi=>?_⟩
      have:=hz S' rfl htr hf2 i hi
      have hpx:px (t,([]:List Nat)) i=(t,[i]):=rfl
      rw [hpx]
      refine this.cong fun j hj=>?_
      have hlt:i * u.size+j < zs.length * u.size:=by
        have:(i+1) * u.size≤zs.length * u.size:=Nat.mul_le_mul_right _ hi
        rw [Nat.add_mul] at this
        omega
      rw [← h6,List.getElem?_take,if_pos hlt,Array.getElem?_toList]
  · have hne:S.own b ≠ some (d,[]):=by rw [hbb]; intro hh; cases hh; exact ht rfl
    have hlt:=h.wlt (.inr (.inr ⟨_,hbb⟩))
    exact ⟨(hown b hlt hne).trans hbb,hsame b hlt hne⟩
  · exact (hown b (h.wlt (.inl hbb)) (by rw [(h.shared b hbb).1]; simp)).trans (h.shared b hbb).1
  · exact (hown b (Nat.lt_of_lt_of_le (h.borrowed b hbb).2.1 h.grown) (by rw [(h.borrowed b hbb).1]; simp)).trans (h.borrowed b hbb).1
  · have hp':(if v'.ownBlock=some b then some (d,[]) else S.own b)=some p:=hp
    split at hp'
    · rename_i hh
      rcases hb b hh with h1 | ⟨h1,h2⟩
      · have:=h.owned b _ (hrow b h1)
        exact ⟨Nat.lt_of_lt_of_le this.1 hg.size,this.2⟩
      · exact ⟨h2,.inl (by rw [h1]; exact h.grown)⟩
    · exact ⟨Nat.lt_of_lt_of_le (h.owned b p hp').1 hg.size,(h.owned b p hp').2⟩
  · refine hsame b (Nat.lt_of_lt_of_le hlt h.grown) fun hh=>?_
    rcases (h.owned b _ hh).2 with h1 | h1
    · omega
    · exact hO h1
theorem zgn:∀ (us vs:Ups) (σ:Env),upd (us++vs) σ=upd vs (upd us σ)
  | [],_,_=>rfl
  | (_,_,_)::us,vs,_=>zgn us vs _
end
end Go.X
set_option linter.unusedSimpArgs false
set_option linter.unusedVariables false
namespace Go.X
open Go Go.RowKit
section
variable {P:Program} {c:Ctx} {σ:Env} {a:Act} {S:St} {T:Tab}
theorem zlo (h:InvOf P c σ a S) {ty e d:Nat} (hd:d < c.N) {u:Ty} {M0 M:Md} {A:Operand} {us:Ups} {xs:List u.den} (hpos:0 < u.size) (hx:srcU T ty e d u M0 (look σ A)=some (us,M,xs)) :
    ∃ S1,S1.w=S.w∧S1.F=S.F∧S1.B=S.B∧InvOf P c (upd us σ) (a.put (some d) (a.eval A)) S1∧(upd us σ d).e=.v (.slice u) (.own e M) xs∧a.eval A=S1.hv (d,[]):=by
  unfold srcU at hx
  split at hx
  rotate_left
  · split at hx
    case h_2=>cases hx
    rename_i e' M' xs' hv
    split at hx
    case isFalse=>cases hx
    rename_i hee
    subst hee
    simp only [Option.map_eq_some_iff,Prod.mk.injEq] at hx
    obtain ⟨us',h1,rfl,rfl,rfl⟩:=hx
    obtain ⟨S1,h2,h3,h4,h5⟩:=zmy h hd h1
    have he:(upd us' σ d).e=.v (.slice u) (.own e' M') xs':=by
      cases A with
      | const v=>simp only [look,Opd.val,Option.map_eq_some_iff,Prod.mk.injEq] at hv; obtain ⟨_,_,hv,_⟩:=hv; cases hv
      | func f=>simp [look,Opd.val] at hv
      | global g=>simp [look,Opd.val] at hv
      | tmp s =>
        simp only [look,Opd.val] at hv
        simp only [look,asgU] at h1
        split at hv
        · rename_i t m x he
          simp only [Option.map_eq_some_iff,Prod.mk.injEq] at hv
          obtain ⟨z,h6,rfl,rfl⟩:=hv
          have:=TV.to_some h6
          cases this
          rw [he] at h1
          simp only [Md.noown,Bool.false_eq_true,if_false] at h1
          split at h1
          · cases h1
          · rename_i hne
            cases h1
            show (set1 (set1 σ s .dead 0) d _ 0 d).e=_
            rw [zbd]
        · rename_i r π s' he
          have hrt:zcd σ (σ s).e=σ r:=by rw [he]; rfl
          rw [hrt] at hv h1
          rw [he] at h1
          simp only at h1
          split at hv
          case h_2=>cases hv
          rename_i tr mr xr hroot
          rw [hroot] at h1
          simp only at h1
          split at hv
          case isFalse=>cases hv
          rename_i hgen
          rw [if_pos hgen.1] at h1
          split at hv
          case h_2=>cases hv
          rename_i e2 k2 y2 hm hg
          simp only [Option.map_eq_some_iff,Prod.mk.injEq] at hv
          obtain ⟨z,h6,h7,rfl⟩:=hv
          have:=TV.to_some h6
          subst this
          cases h7
          rw [hm,hg] at h1
          simp only at h1
          split at h1
          · rename_i hrd
            split at h1
            case isFalse=>cases h1
            rename_i hπ
            cases h1
            subst hπ hrd
            simp only [getP,Option.some.injEq] at hg
            cases hg
            simp only [zaz,Option.some.injEq] at hm
            subst hm
            exact hroot
          · split at h1
            · cases h1
              show (set1 (set1 σ r .dead 0) d _ 0 d).e=_
              rw [zbd]
            · split at h1
              · cases h1
                show (set1 (set1 σ r _ 2) d _ 0 d).e=_
                rw [zbd]
              · cases h1
        · cases hv
    have hhd:=h5.hdr he
    rw [zai (by rw [h.size]; exact hd)] at hhd
    exact ⟨S1,h2,h3,h4,h5,he,hhd⟩
  · rename_i hA
    cases hx
    have hev:a.eval A=.slice none 0 0:=by
      cases A <;> simp only [look] at hA <;> first | (cases hA; done) | (cases hA; rfl)
    let S1:St:={ S with hv:=fun z=>if z=(d,[]) then .slice none 0 0 else S.hv z }
    have hhv:S1.hv (d,[])=.slice none 0 0:=if_pos rfl
    refine ⟨S1,rfl,rfl,rfl,h.put (S':=S1) (.refl _) rfl rfl hd (fun t ht q=>if_neg fun he=>ht (by cases he; rfl)) (fun _=>.inl rfl) ?_,zbd σ d _ 0,by rw [hev,hhv]⟩
    refine .v (zbd σ d _ 0) ?_
    rw [zai (by rw [h.size]; exact hd),hev]
    exact ⟨⟨Nat.zero_le _,hpos,by rw [hhv]; simp [zab,Ty.agg],.inl ⟨hhv,rfl⟩⟩,fun h=>by cases h⟩
theorem app_sound (h:InvOf P c σ a S) (hT:TabOK P T) {t rt ty d:Nat} (hd:d < c.N) {A X:Operand} {us:Ups} {ob:Bool} (hx:appU T ty d t (look σ A) (look σ X)=some (ob,us)) (hob:ob=true) :
    ∃ v w',(Builtin.append_ #[t,t] rt #[a.eval A,a.eval X]).run P S.w=.ok v w'∧Inv P c (upd us σ) (a.put (some d) v) w':=by
  unfold appU at hx
  split at hx
  case h_2=>cases hx
  rename_i i u ht
  split at hx
  case h_2=>cases hx
  rename_i e he
  split at hx
  case h_2=>cases hx
  rename_i j u2 hte
  split at hx
  case isFalse=>cases hx
  rename_i hcond
  obtain ⟨hpos,hby,hzl⟩:=hcond
  split at hx
  case h_2=>cases hx
  rename_i mx ys hv
  split at hx
  case isFalse=>cases hx
  rename_i hcond
  obtain ⟨hno,hlv,hmx⟩:=hcond
  split at hx
  case h_2=>cases hx
  rename_i us0 M xs hsrc
  split at hx
  case isFalse=>cases hx
  rename_i hle
  simp only [Option.some.injEq,Prod.mk.injEq] at hx
  obtain ⟨rfl,rfl⟩:=hx
  have hlim:(xs.length:Int)+ys.length≤4294967296:=by have:=of_decide_eq_true hob; rw [zev] at this; exact this
  obtain ⟨hty,_,_,hkind⟩:=hT.kind ht
  obtain ⟨_,d1,_,hd1,_,_,_,hk1⟩:=zat hty
  obtain ⟨e2,i2,hk2,hte2,_⟩:=zca hkind
  rw [he] at hk2
  cases hk2
  rw [hte] at hte2
  cases hte2
  have:=zdc (hk1.trans (congrArg some he))
  subst this
  obtain ⟨hty1,hsz1,_,_⟩:=hT.kind hte
  obtain ⟨j',d',hi',hd',hzz,hs',hb',_⟩:=zat hty1
  obtain ⟨p,hs⟩:=h.val hv
  have hrows:=rows_of hs hmx
  obtain ⟨S1,h1,h2,h3,h4,h5,h6⟩:=zlo h hd hpos hsrc
  have hf:Fut2 S S1:=⟨fun b hb=>⟨by rw [h2]; exact hb,by rw [h1]⟩,fun b hb=>⟨.inr (by rw [h3]; exact hb),by rw [h1]⟩⟩
  have hrows1:=hrows.fut hno hf h1
  have hsr:=h4.slot h5
  have hl1:xs.length≤maxL:=hsr.1.1
  have htm:tmv (a.put (some d) (a.eval A)) d=a.eval A:=zai (by rw [h.size]; exact hd)
  have hold:∃ cs,S1.w.ownsRow 0 e u.size (a.eval A) xs.length cs∧∀ (i:Nat) (h:i < xs.length),Rel P u S1 M (d,[i]) xs[i] (fun j=>cs[i * u.size+j]?):=by
    rcases hsr.1.2.2.2 with ⟨h7,h8⟩ | ⟨g,cap,cur,h7,h8,h9,h10,h11,h12,h13⟩
    · subst h8
      rw [← h6] at h7
      rw [h7]
      exact ⟨[],World.ownsRow_nil _ _ _ _,fun i hi=>by simp at hi⟩
    · rw [← h6] at h7
      rw [h7]
      have hle:xs.length * u.size≤cur.size:=by rw [h12]; exact Nat.mul_le_mul_right _ h10
      refine ⟨cur.toList.take (xs.length * u.size),⟨by simp; omega,.inr ⟨g,cap,cur,rfl,Nat.zero_le _,h9,h10,h11,h12,rfl⟩⟩,fun i hi=>?_⟩
      refine (h13 i hi).cong fun j hj=>?_
      have hlt:i * u.size+j < xs.length * u.size:=by
        have:(i+1) * u.size≤xs.length * u.size:=Nat.mul_le_mul_right _ hi
        rw [Nat.add_mul] at this
        omega
      rw [List.getElem?_take,if_pos hlt,Array.getElem?_toList]
  obtain ⟨cs,ho,hel⟩:=hold
  have oldEl:∀ (S':St),(∀ q,Tr true S1 S' (d,q) (d,q)∨q=[])→∀ (i:Nat) (h:i < xs.length),Rel P u S' M (d,[i]) xs[i] (fun j=>cs[i * u.size+j]?):=fun S' htr i hi =>
    (hel i hi).mono (.inl rfl) ((htr [i]).resolve_right (by simp)) fun _ _=>rfl
  have hl2:xs.length+ys.length≤4294967296:=by omega
  rw [← h1]
  rcases hrows1.news with ⟨hX,hy0⟩ | ⟨ad,cap,hX,hcap,news,hn1,hn2,hn3,hn4⟩
  · subst hy0
    rw [hX]
    obtain ⟨S',q1,q2,q3,q4⟩:=h4.regrow hd h5 (w':=S1.w) (v':=a.eval A) (zs:=xs++[]) (cs:=cs) (by rw [← h6]; exact ⟨rfl,rfl,rfl,Nat.le_refl _,fun _ _ _=>rfl⟩) (fun b hb=>.inl (by rw [← h6]; exact hb)) (by rw [List.append_nil]; exact ho) (by rw [List.append_nil]; exact hl1)
      fun S' _ htr _ i hi=>by
        have hi':i < xs.length:=by simpa using hi
        have:=oldEl S' htr i hi'
        simpa using this
    refine ⟨a.eval A,S1.w,run_append_owned_none (P:=P) (w:=S1.w) 0 t rt e j' u.size hd1 hi' _ xs.length cs ho,S',q1,?_⟩
    rw [zgn]
    rw [zpb] at q4
    exact q4
  · rw [hX]
    obtain ⟨v',w',h7,h8,h9,h10⟩:=zlv (P:=P) (w:=S1.w) t rt e j' j.zero u.size j.bytes hd1 hi' hzz (by rw [hs',hsz1]) hb' (by simpa using hzl) hpos (a.eval A) xs.length cs ho ad ys.length cap news hn1 hn2 hn3
      (by unfold maxLen; omega) (Nat.le_trans (Nat.mul_le_mul hl2 hby) (by decide))
    obtain ⟨S',q1,q2,q3,q4⟩:=h4.regrow hd h5 (w':=w') (v':=v') (zs:=xs++ys) (cs:=cs++news) (by rw [← h6]; exact h9) (fun b hb=>by rw [← h6]; exact h10 b hb) (by rw [List.length_append]; exact h8) (by rw [List.length_append]; unfold maxL; omega)
      fun S' hw' htr hf2 i hi=>by
        rw [List.length_append] at hi
        have hcl:cs.length=xs.length * u.size:=ho.1
        rcases Nat.lt_or_ge i xs.length with hlt | hge
        · have:=oldEl S' htr i hlt
          rw [List.getElem_append_left hlt]
          refine this.cong fun j hj=>?_
          have hlt':i * u.size+j < cs.length:=by
            have:(i+1) * u.size≤xs.length * u.size:=Nat.mul_le_mul_right _ hlt
            rw [Nat.add_mul] at this
            omega
          exact List.getElem?_append_left hlt'
        · obtain ⟨q,h11⟩:=hn4 (i - xs.length) (by omega)
          rw [List.getElem_append_right hge]
          refine (h11.free hno hf2 fun j hj=>?_).weaken hle
          · have hmul:i * u.size=xs.length * u.size+(i - xs.length) * u.size:=by rw [← Nat.add_mul]; congr 1; omega
            rw [List.getElem?_append_right (by omega)]
            congr 1
            omega
    refine ⟨v',w',h7,S',q1,?_⟩
    rw [zgn]
    rw [zpb] at q4
    exact q4
theorem appZ_sound (h:InvOf P c σ a S) (hT:TabOK P T) {t rt ty d tu:Nat} (hd:d < c.N) {A N:Operand} {us:Ups} {ob:Bool} (hx:appZ T ty d t tu (look σ A) (look σ N)=some (ob,us)) (hob:ob=true) :
    ∃ v w',(Builtin.append_ #[t,tu] rt #[a.eval A,a.eval N]).run P S.w=.ok v w'∧Inv P c (upd us σ) (a.put (some d) v) w':=by
  unfold appZ at hx
  split at hx
  case h_2=>cases hx
  rename_i i u iu ku k n ht htu hn
  split at hx
  case h_2=>cases hx
  rename_i e he
  split at hx
  case h_2=>cases hx
  rename_i j u2 hte
  split at hx
  case h_2=>cases hx
  rename_i z hz
  split at hx
  case isFalse=>cases hx
  rename_i hcond
  obtain ⟨hpos,hby,hzl⟩:=hcond
  split at hx
  case h_2=>cases hx
  rename_i us0 M xs hsrc
  split at hx
  case isFalse=>cases hx
  rename_i hle
  simp only [Option.some.injEq,Prod.mk.injEq] at hx
  obtain ⟨rfl,rfl⟩:=hx
  simp only [Bool.and_eq_true,decide_eq_true_eq] at hob
  obtain ⟨hn0,hlim0⟩:=hob
  obtain ⟨m,rfl⟩:=Int.eq_ofNat_of_zero_le hn0
  have hlim:(xs.length:Int)+(m:Int)≤4294967296:=by rw [zev] at hlim0; exact hlim0
  obtain ⟨hty,_,_,hkind⟩:=hT.kind ht
  obtain ⟨_,d1,_,hd1,_,_,_,hk1⟩:=zat hty
  obtain ⟨e2,i2,hk2,hte2,_⟩:=zca hkind
  rw [he] at hk2
  cases hk2
  rw [hte] at hte2
  cases hte2
  have:=zdc (hk1.trans (congrArg some he))
  subst this
  obtain ⟨htyu,_,_,hkindu⟩:=hT.kind htu
  obtain ⟨_,d2,_,hd2,_,_,_,hk2⟩:=zat htyu
  have:=tyK_int (hk2.trans (congrArg some (zjs hkindu)))
  subst this
  obtain ⟨hty1,hsz1,_,_⟩:=hT.kind hte
  obtain ⟨j',d',hi',hd',hzz,hs',hb',_⟩:=zat hty1
  have hzs:=zbz (P:=P) (S:=S) (p:=(0,[])) hz
  obtain ⟨S1,h1,h2,h3,h4,h5,h6⟩:=zlo h hd hpos hsrc
  have hf:Fut2 S S1:=⟨fun b hb=>⟨by rw [h2]; exact hb,by rw [h1]⟩,fun b hb=>⟨.inr (by rw [h3]; exact hb),by rw [h1]⟩⟩
  have hsr:=h4.slot h5
  have hl1:xs.length≤maxL:=hsr.1.1
  have htm:tmv (a.put (some d) (a.eval A)) d=a.eval A:=zai (by rw [h.size]; exact hd)
  have hold:∃ cs,S1.w.ownsRow 0 e u.size (a.eval A) xs.length cs∧∀ (i:Nat) (h:i < xs.length),Rel P u S1 M (d,[i]) xs[i] (fun j=>cs[i * u.size+j]?):=by
    rcases hsr.1.2.2.2 with ⟨h7,h8⟩ | ⟨g,cap,cur,h7,h8,h9,h10,h11,h12,h13⟩
    · subst h8
      rw [← h6] at h7
      rw [h7]
      exact ⟨[],World.ownsRow_nil _ _ _ _,fun i hi=>by simp at hi⟩
    · rw [← h6] at h7
      rw [h7]
      have hle:xs.length * u.size≤cur.size:=by rw [h12]; exact Nat.mul_le_mul_right _ h10
      refine ⟨cur.toList.take (xs.length * u.size),⟨by simp; omega,.inr ⟨g,cap,cur,rfl,Nat.zero_le _,h9,h10,h11,h12,rfl⟩⟩,fun i hi=>?_⟩
      refine (h13 i hi).cong fun j hj=>?_
      have hlt:i * u.size+j < xs.length * u.size:=by
        have:(i+1) * u.size≤xs.length * u.size:=Nat.mul_le_mul_right _ hi
        rw [Nat.add_mul] at this
        omega
      rw [List.getElem?_take,if_pos hlt,Array.getElem?_toList]
  obtain ⟨cs,ho,hel⟩:=hold
  have oldEl:∀ (S':St),(∀ q,Tr true S1 S' (d,q) (d,q)∨q=[])→∀ (i:Nat) (h:i < xs.length),Rel P u S' M (d,[i]) xs[i] (fun j=>cs[i * u.size+j]?):=fun S' htr i hi =>
    (hel i hi).mono (.inl rfl) ((htr [i]).resolve_right (by simp)) fun _ _=>rfl
  have hzc:Builtin.zeroCells j.zero.cells m=madeCells j.zero.cells (m * u.size):=by
    have e:j.zero.cells.size=u.size:=by simpa using hzl
    unfold Builtin.zeroCells madeCells
    rw [e]
  obtain ⟨hm1,hm2⟩:=zhg hzs m
  have hone:∀ c∈(Builtin.zeroCells j.zero.cells m).toList,c.oneCell'=true:=fun c hc=>by
    obtain ⟨i,hi,rfl⟩:=List.getElem_of_mem hc
    rw [Array.length_toList,hzc,hm1] at hi
    have hq:i / u.size < m:=(Nat.div_lt_iff_lt_mul hpos).2 hi
    obtain ⟨c',hc1,hc2⟩:=(hm2 (i / u.size) hq (0,[])).cells (i % u.size) (Nat.mod_lt _ hpos)
    rw [Nat.div_add_mod',← hzc] at hc1
    have:(Builtin.zeroCells j.zero.cells m).toList[i]? = some c':=by rw [Array.getElem?_toList]; exact hc1
    rw [List.getElem?_eq_getElem (by rw [Array.length_toList,hzc,hm1]; exact hi)] at this
    rw [Option.some.inj this]
    exact hc2
  rw [← h1,(h.ival hn).1]
  obtain ⟨v',w',h7,h8,h9,h10⟩:=zkr (P:=P) (w:=S1.w) t tu rt e j' j.zero u.size j.bytes ku hd1 hd2 hi' hzz (by rw [hs',hsz1]) hb' (by simpa using hzl) hpos (a.eval A) xs.length cs ho k m hone
    (by unfold maxLen; omega) (Nat.le_trans (Nat.mul_le_mul (show xs.length+m≤4294967296 by omega) hby) (by decide))
  obtain ⟨S',q1,q2,q3,q4⟩:=h4.regrow hd h5 (w':=w') (v':=v') (zs:=xs++List.replicate m z) (cs:=cs++(Builtin.zeroCells j.zero.cells m).toList) (by rw [← h6]; exact h9) (fun b hb=>by rw [← h6]; exact h10 b hb) (by rw [List.length_append,List.length_replicate]; exact h8) (by rw [List.length_append,List.length_replicate]; unfold maxL; omega)
    fun S' hw' htr hf2 i hi=>by
      rw [List.length_append,List.length_replicate] at hi
      have hcl:cs.length=xs.length * u.size:=ho.1
      rcases Nat.lt_or_ge i xs.length with hlt | hge
      · have:=oldEl S' htr i hlt
        rw [List.getElem_append_left hlt]
        refine this.cong fun j hj=>?_
        have hlt':i * u.size+j < cs.length:=by
          have:(i+1) * u.size≤xs.length * u.size:=Nat.mul_le_mul_right _ hlt
          rw [Nat.add_mul] at this
          omega
        exact List.getElem?_append_left hlt'
      · have h11:=(zhg (zbz (P:=P) (S:=S') (p:=(0,[])) hz) m).2 (i - xs.length) (by omega) (d,[i])
        rw [List.getElem_append_right hge,List.getElem_replicate]
        refine (h11.cong fun j' hj=>?_).weaken hle
        have hmul:i * u.size=xs.length * u.size+(i - xs.length) * u.size:=by rw [← Nat.add_mul]; congr 1; omega
        rw [List.getElem?_append_right (by omega),Array.getElem?_toList,hzc]
        congr 1
        omega
  refine ⟨v',w',h7,S',q1,?_⟩
  rw [zgn]
  rw [zpb] at q4
  exact q4
theorem bnd_run (h:InvOf P c σ a S) {o:Option Operand} {dflt n:Int} (hb:bndV (o.map (look σ)) dflt=some n):(o=none∧n=dflt)∨∃ k x,o=some x∧a.eval x=.int k n:=by
  cases o with
  | none=>simp only [Option.map_none,bndV] at hb; cases hb; exact .inl ⟨rfl,rfl⟩
  | some x =>
    simp only [Option.map_some,bndV,Option.map_eq_some_iff] at hb
    obtain ⟨⟨k,m⟩,h1,rfl⟩:=hb
    exact .inr ⟨k,x,rfl,(h.ival h1).1⟩
theorem zfi (h:InvOf P c σ a S) {lo hi:Option Operand} {len cap:Nat} {l u:Int} (q:Bool) (hl:bndV (lo.map (look σ)) 0=some l) (hh:bndV (hi.map (look σ)) len=some u) (h0:0≤l) (h1:l≤u) (h2:u≤len) (hc:len≤cap) :
    (Instr.sliceBounds q len cap (lo.map a.eval) (hi.map a.eval) none).run P S.w=.ok (l.toNat,u.toNat,cap) S.w:=by
  obtain ⟨l,rfl⟩:=Int.eq_ofNat_of_zero_le h0
  obtain ⟨u,rfl⟩:=Int.eq_ofNat_of_zero_le (Int.le_trans h0 h1)
  have h1':l≤u:=by omega
  have h2':u≤cap:=by omega
  rcases bnd_run h hl with ⟨rfl,he⟩ | ⟨k,x,rfl,hx⟩
  · have:l=0:=by omega
    subst this
    rcases bnd_run h hh with ⟨rfl,he2⟩ | ⟨k',x',rfl,hx'⟩
    · have:u=len:=by omega
      subst this
      simp [Instr.sliceBounds]
    · simp [Instr.sliceBounds,Instr.sliceBound,hx',asIntOf,h2']
  · rcases bnd_run h hh with ⟨rfl,he2⟩ | ⟨k',x',rfl,hx'⟩
    · have:u=len:=by omega
      subst this
      simp [Instr.sliceBounds,Instr.sliceBound,hx,asIntOf,h1']
    · simp [Instr.sliceBounds,Instr.sliceBound,hx,hx',asIntOf,h1',h2']
theorem cut_of {l h:Int} {n:Nat} (hc:zcf l h n=true):0≤l∧l≤h∧h≤n:=by
  simp only [zcf,Bool.and_eq_true,decide_eq_true_eq] at hc
  exact hc
theorem SR.cut {M:Md} (hM:M=.sh∨M=.bw) {u:Ty} {p:Place} {xs:List u.den} {v:Value} (h:SR P (.slice u) S M p xs v) {l r:Nat} (hlr:l≤r) (hr:r≤xs.length) :
    ∃ (b:Option Addr) (cap:Nat),v=.slice b xs.length cap∧xs.length≤cap∧SR P (.slice u) S M p ((xs.take r).drop l) (.slice (if cap=l then b else b.map (·.add (l * u.size))) (r - l) (cap - l)):=by
  obtain ⟨h1,h2,h3⟩:=h.1
  have hc:∀ v,zab (.slice u) v 0=some v:=fun v=>by simp [zab,Ty.agg]
  have h3':∃ a' len cap,zab (.slice u) v 0=some (.slice a' len cap)∧len=xs.length∧len≤cap∧((xs=[]∧cap=0)∨∃ b o',a'=some ⟨b,o',none⟩∧(xs ≠ []→S.G M b)∧∀ (i:Nat) (h:i < xs.length),Rel P u S M (px p i) xs[i] (blk S.w b (o'+i * u.size))):=by rcases hM with rfl | rfl <;> exact h3
  obtain ⟨a',len,cap,h4,h5,h6,h7⟩:=h3'
  rw [hc] at h4
  have hv:=Option.some.inj h4
  subst h5
  have hlen:((xs.take r).drop l).length=r - l:=by rw [List.length_drop,List.length_take,Nat.min_eq_left hr]
  refine ⟨a',cap,hv,h6,?_,fun h=>by cases h⟩
  have goal:∃ a2 len2 cap2,zab (.slice u) (.slice (if cap=l then a' else a'.map (·.add (l * u.size))) (r - l) (cap - l)) 0=some (.slice a2 len2 cap2)∧len2=((xs.take r).drop l).length∧len2≤cap2∧(((xs.take r).drop l=[]∧cap2=0)∨∃ b o',a2=some ⟨b,o',none⟩∧((xs.take r).drop l ≠ []→S.G M b)∧∀ (i:Nat) (h:i < ((xs.take r).drop l).length),Rel P u S M (px p i) ((xs.take r).drop l)[i] (blk S.w b (o'+i * u.size))):=by
    refine ⟨_,_,_,hc _,hlen.symm,by omega,?_⟩
    rcases h7 with ⟨rfl,rfl⟩ | ⟨b,o',rfl,hG,h8⟩
    · left
      exact ⟨by simp,by omega⟩
    · right
      by_cases hcl:cap=l
      · have hz:(xs.take r).drop l=[]:=List.drop_eq_nil_of_le (by rw [List.length_take]; omega)
        exact ⟨b,o',by rw [if_pos hcl],fun hne=>absurd hz hne,fun i hi=>by rw [hz] at hi; simp at hi⟩
      · refine ⟨b,o'+l * u.size,by rw [if_neg hcl]; simp [zdh],fun hne=>hG (by rintro rfl; simp at hne),fun i hi=>?_⟩
        have hi':l+i < xs.length:=by omega
        have:=h8 (l+i) hi'
        have he:((xs.take r).drop l)[i]=xs[l+i]:=by rw [List.getElem_drop,List.getElem_take]
        rw [he]
        have h9:Rel P u S M (px p i) xs[l+i] (blk S.w b (o'+(l+i) * u.size)):=this.fut hM ((Fut2.refl S).sh _) fun _ _=>rfl
        have ho:o'+l * u.size+i * u.size=o'+(l+i) * u.size:=by rw [Nat.add_mul]; omega
        rw [ho]
        exact h9
  have hl':((xs.take r).drop l).length≤maxL:=by omega
  rcases hM with rfl | rfl <;> exact ⟨hl',h2,goal⟩
theorem tail_sound (h:InvOf P c σ a S) {t e e' d:Nat} {j':TypeInfo} {u:Ty} {M:Md} {xs:List u.den} (hd:d < c.N) (ht:P.underlying t=some (.slice e)) (hi:P.info? e=some j') (hs:j'.size=u.size) {A lop:Operand} {hi0:Option Operand} (hv:(look σ A).val (.slice u)=some (.own e' M,xs))
    {us:Ups} {ob:Bool} (hx:tailU d (look σ A) (some (look σ lop)) (hi0.map (look σ))=some (ob,us)) (hob:ob=true) :
    ∃ v,(Instr.sliceAt t (a.eval A) ((some lop).map a.eval) (hi0.map a.eval) none).run P S.w=.ok v S.w∧Inv P c (upd us σ) (a.put (some d) v) S.w:=by
  unfold tailU at hx
  split at hx
  case h_2=>cases hx
  rename_i s0 c0 root l0 hA hl0 hh0
  cases hl0
  have hhi:hi0=none:=by cases hi0 <;> first | rfl | cases hh0
  subst hhi
  cases A with
  | const v=>simp [look] at hA
  | func f=>simp [look] at hA
  | global g=>simp [look] at hA
  | tmp s =>
    simp only [look,Opd.slot.injEq] at hA
    obtain ⟨rfl,rfl,rfl⟩:=hA
    split at hx
    case h_2=>cases hx
    rename_i r s' he
    have hrt:zcd σ (σ s).e=σ r:=by rw [he]; rfl
    rw [hrt] at hx
    split at hx
    case h_2=>cases hx
    rename_i u' e2 M2 xs2 hroot
    split at hx
    case isFalse=>cases hx
    rename_i hgen
    split at hx
    case h_2=>cases hx
    rename_i n hn
    simp only [Option.some.injEq,Prod.mk.injEq] at hx
    obtain ⟨rfl,rfl⟩:=hx
    obtain ⟨c1,c2,_⟩:=cut_of hob
    obtain ⟨n,rfl⟩:=Int.eq_ofNat_of_zero_le c1
    have hnl:n≤xs2.length:=by omega
    have hu:u'=u:=by
      simp only [look,Opd.val,hrt] at hv
      rw [he] at hv
      simp only [hroot] at hv
      split at hv
      case isFalse=>cases hv
      simp only [zaz,getP] at hv
      simp only [Option.map_eq_some_iff,Prod.mk.injEq] at hv
      obtain ⟨z,h6,_,_⟩:=hv
      have:=TV.to_some h6
      cases this
      rfl
    subst hu
    obtain ⟨_,hvw⟩:=(h.ent s).view he
    obtain ⟨_,hev⟩:=hvw _ _ _ hroot hgen
    have hsr:=h.slot hroot
    have hbn:bndV ((some lop).map (look σ)) 0=some (n:Int):=hn
    have fin:∀ (v:Value),(Instr.sliceAt t (a.eval (.tmp s)) ((some lop).map a.eval) none none).run P S.w=.ok v S.w→TailV (S.hv (r,[])) n u'.size v→∃ v,(Instr.sliceAt t (a.eval (.tmp s)) ((some lop).map a.eval) ((none:Option Operand).map a.eval) none).run P S.w=.ok v S.w∧Inv P c (upd [(d,.tail r s' (n:Int).toNat,0)] σ) (a.put (some d) v) S.w:=fun v h1 h2 =>
      ⟨v,h1,S,rfl,h.puttail hd ⟨by rw [← hgen]; exact Nat.le_refl _,fun t m x hx _=>by rw [hroot] at hx; cases hx; exact ⟨_,rfl,h2⟩⟩⟩
    rcases hsr.1.2.2.2 with ⟨q1,q2⟩ | ⟨g,cap,cur,q1,q2,q3,q4,_⟩
    · have hn0:n=0:=by rw [q2] at hnl; simpa using hnl
      subst hn0
      have hrb:=zfi (P:=P) h (lo:=some lop) (hi:=none) (len:=0) (cap:=0) true hbn rfl (by omega) (by omega) (by omega) (Nat.le_refl _)
      refine fin (.slice none 0 0) ?_ (.inl ⟨none,none,0,0,rfl,q1⟩)
      rw [zav,hev,q1]
      simp only [Int.toNat_natCast,Option.map_none,Option.map_some] at hrb
      simp [Instr.sliceAt,Instr.slice,run_underlying ht,hrb,sizeOf,typeInfo,hi,hs]
    · have hrb:=zfi (P:=P) h (lo:=some lop) (hi:=none) (len:=xs2.length) (cap:=cap) true hbn rfl (by omega) (by omega) (by omega) q4
      have hev':a.eval (.tmp s)=.slice (some ⟨g,0,none⟩) xs2.length cap:=by rw [zav,hev,q1]
      simp only [Int.toNat_natCast,Option.map_none,Option.map_some] at hrb
      refine fin (.slice (if cap=n then some ⟨g,0,none⟩ else some ⟨g,n * u'.size,none⟩) (xs2.length - n) (cap - n)) ?_ ?_
      · rw [hev']
        simp [Instr.sliceAt,Instr.slice,run_underlying ht,hrb,sizeOf,typeInfo,hi,hs,zdh]
      · rw [q1]
        by_cases hlt:n < xs2.length
        · have:¬ cap=n:=by omega
          rw [if_neg this]
          exact .inr ⟨g,_,_,_,rfl,hlt,rfl⟩
        · have e0:xs2.length - n=0:=by omega
          have e1:xs2.length=n:=by omega
          rw [e0]
          exact .inl ⟨_,_,_,_,rfl,by rw [e1]⟩
theorem slice_sound (h:InvOf P c σ a S) (hT:TabOK P T) {t ty d:Nat} (hd:d < c.N) {A:Operand} {lo hi:Option Operand} {us:Ups} {ob:Bool} (hx:sliceU T ty d t (look σ A) (lo.map (look σ)) (hi.map (look σ))=some (ob,us)) (hob:ob=true) :
    ∃ v,(Instr.sliceAt t (a.eval A) (lo.map a.eval) (hi.map a.eval) none).run P S.w=.ok v S.w∧Inv P c (upd us σ) (a.put (some d) v) S.w:=by
  unfold sliceU at hx
  split at hx
  case h_3=>cases hx
  · rename_i i u ht
    obtain ⟨hty,_,_,hkind⟩:=hT.kind ht
    obtain ⟨_,d1,_,hd1,_,_,_,hk1⟩:=zat hty
    obtain ⟨e,i1,hk,hte,hpos⟩:=zca hkind
    have:=zdc (hk1.trans (congrArg some hk))
    subst this
    obtain ⟨hty1,hsz1,_,_⟩:=hT.kind hte
    obtain ⟨j',d',hi',hd',_,hs',_,_⟩:=zat hty1
    have key:∀ {M:Md} {xs:List u.den} {l r:Int},M=.sh∨M=.bw→(look σ A).val (.slice u)=some (M,xs)→bndV (lo.map (look σ)) 0=some l→bndV (hi.map (look σ)) (xs.length:Int)=some r→zcf l r xs.length=true →
        ∃ v,(Instr.sliceAt t (a.eval A) (lo.map a.eval) (hi.map a.eval) none).run P S.w=.ok v S.w∧Inv P c (upd [(d,.v (.slice u) M ((xs.take r.toNat).drop l.toNat),0)] σ) (a.put (some d) v) S.w:=by
      intro M xs l r hM hv hl hr hc
      obtain ⟨h0,h1,h2⟩:=cut_of hc
      obtain ⟨p,hs⟩:=h.val hv
      obtain ⟨b,cap,h3,h4,h5⟩:=hs.cut hM (l:=l.toNat) (r:=r.toNat) (by omega) (by omega)
      have hrb:=zfi (P:=P) h true hl hr h0 h1 h2 h4
      refine ⟨_,?_,S,rfl,h.putE (e:=.v (.slice u) M _) hd ⟨by rcases hM with rfl | rfl <;> rfl,p,h5⟩⟩
      rw [h3]
      simp [Instr.sliceAt,Instr.slice,run_underlying hd1,hrb,sizeOf,typeInfo,hi',hs',hsz1]
    split at hx
    · rename_i xs hv
      split at hx
      case h_2=>cases hx
      rename_i l r hl hr
      simp only [Option.some.injEq,Prod.mk.injEq] at hx
      obtain ⟨rfl,rfl⟩:=hx
      exact key (.inl rfl) hv hl hr hob
    · rename_i xs hv
      split at hx
      case h_2=>cases hx
      rename_i l r hl hr
      simp only [Option.some.injEq,Prod.mk.injEq] at hx
      obtain ⟨rfl,rfl⟩:=hx
      exact key (.inr rfl) hv hl hr hob
    · rename_i e' M xs hv
      split at hx
      · rename_i lo' hlo'
        obtain ⟨lop,rfl,rfl⟩:∃ lop,lo=some lop∧lo'=look σ lop:=by
          cases lo with
          | none=>cases hlo'
          | some lop=>cases hlo'; exact ⟨lop,rfl,rfl⟩
        exact tail_sound h hd hd1 hi' (by rw [hs',hsz1]) hv hx hob
      rename_i hlo
      split at hx
      case h_2=>cases hx
      rename_i r us0 hr has
      simp only [Option.some.injEq,Prod.mk.injEq] at hx
      obtain ⟨rfl,rfl⟩:=hx
      have hlo':lo=none:=by cases lo <;> first | rfl | cases hlo
      subst hlo'
      obtain ⟨h0,h1,h2⟩:=cut_of hob
      have hsrc:∀ A',look σ A'=look σ A→A'=A→srcU T ty e' d u .sh (look σ A)=some (us0,M,xs):=fun A' _ _=>by
        unfold srcU
        split
        · rename_i hcon; rw [hcon] at hv; simp only [Opd.val,Option.map_eq_some_iff,Prod.mk.injEq] at hv; obtain ⟨_,_,hv,_⟩:=hv; cases hv
        · rw [hv]; simp only [if_true,has,Option.map_some]
      obtain ⟨S1,h3,h4,h5,h6,h7,h8⟩:=zlo h hd hpos (hsrc A rfl rfl)
      have hsr:=h6.slot h7
      obtain ⟨p,hs⟩:=h.val hv
      obtain ⟨ad,cap,hA,hlA⟩:=zkf hs (by simp)
      have hcap:xs.length≤cap∧(ad=none→cap=0∧xs=[])∧(∀ x,ad=some x→∃ g,x=⟨g,0,none⟩):=by
        rcases hsr.1.2.2.2 with ⟨q1,q2⟩ | ⟨g,cap',cur,q1,q2,q3,q4,_⟩
        · rw [← h8,hA] at q1
          simp only [Value.slice.injEq] at q1
          obtain ⟨rfl,_,rfl⟩:=q1
          exact ⟨by rw [q2]; exact Nat.le_refl _,fun _=>⟨rfl,q2⟩,(fun x hx=>by cases hx)⟩
        · rw [← h8,hA] at q1
          cases q1
          exact ⟨q4,(fun h=>by cases h),(fun x hx=>⟨g,by cases hx; rfl⟩)⟩
      have hrb:=zfi (P:=P) h (lo:=none) true rfl hr h0 h1 h2 hcap.1
      have hv':(if cap=(0:Int).toNat then ad else ad.map (·.add ((0:Int).toNat * u.size)))=ad:=by
        split
        · rfl
        · cases ad with
          | none=>rfl
          | some x=>obtain ⟨g,rfl⟩:=hcap.2.2 x rfl; simp [Addr.add]
      refine ⟨.slice ad r.toNat cap,?_,?_⟩
      · rw [hA]
        simp only [Int.toNat_zero] at hrb hv'
        simp only [Option.map_none] at hrb
        have hv2:(if cap=0 then ad else ad.map (·.add (0 * u.size)))=ad:=hv'
        simp [Instr.sliceAt,Instr.slice,run_underlying hd1,hrb,sizeOf,typeInfo,hi',hs',hsz1]
        intro hne
        rw [if_neg hne] at hv2
        simpa using hv2
      · rw [zgn,← h3]
        obtain ⟨S',q1,q2,q3,q4⟩:=h6.regrow hd h7 (w':=S1.w) (v':=.slice ad r.toNat cap) (zs:=xs.take r.toNat) (cs:=(match S1.w.heap[((ad.map (·.block)).getD 0)]? with | some (Obj.cells cur _ _)=>cur.toList.take (r.toNat * u.size) | _=>[]))
          ⟨rfl,rfl,rfl,Nat.le_refl _,fun _ _ _=>rfl⟩ (fun b hb=>.inl (by rw [← h8,hA]; cases ad <;> simp_all [Value.ownBlock]))
          (by
            have hlen:(xs.take r.toNat).length=r.toNat:=by rw [List.length_take]; omega
            rw [hlen]
            rcases hsr.1.2.2.2 with ⟨z1,z2⟩ | ⟨g,cap',cur,z1,z2,z3,z4,z5,z6,z7⟩
            · rw [← h8,hA] at z1
              simp only [Value.slice.injEq] at z1
              obtain ⟨rfl,_,rfl⟩:=z1
              have:r.toNat=0:=by rw [z2] at h2; simp at h2; omega
              rw [this]
              refine ⟨?_,.inl ⟨rfl,rfl⟩⟩
              split <;> simp
            · rw [← h8,hA] at z1
              cases z1
              simp only [Option.map_some,Option.getD_some,z3]
              have:r.toNat≤cap:=by omega
              have hm:r.toNat * u.size≤cap * u.size:=Nat.mul_le_mul_right _ this
              exact ⟨by simp; omega,.inr ⟨g,cap,cur,rfl,Nat.zero_le _,z3,this,z5,z6,rfl⟩⟩) (by rw [List.length_take]; omega)
          fun S' hw' htr hf2 i hi=>by
            rw [List.length_take] at hi
            have hi':i < xs.length:=by omega
            rcases hsr.1.2.2.2 with ⟨z1,z2⟩ | ⟨g,cap',cur,z1,z2,z3,z4,z5,z6,z7⟩
            · rw [z2] at hi'; simp at hi'
            · rw [← h8,hA] at z1
              cases z1
              simp only [Option.map_some,Option.getD_some,z3]
              rw [List.getElem_take]
              refine ((z7 i hi').mono (.inl rfl) ((htr [i]).resolve_right (by simp)) fun _ _=>rfl).cong fun j hj=>?_
              have hlt:i * u.size+j < r.toNat * u.size:=by
                have:(i+1) * u.size≤r.toNat * u.size:=Nat.mul_le_mul_right _ (by omega)
                rw [Nat.add_mul] at this
                omega
              rw [List.getElem?_take,if_pos hlt,Array.getElem?_toList]
        rw [zpb] at q4
        exact ⟨S',q1,q4⟩
    · cases hx
  · rename_i i ht
    obtain ⟨hty,_,_,hkind⟩:=hT.kind ht
    obtain ⟨_,d1,_,hd1,_,_,_,hk1⟩:=zat hty
    have:=zjf (hk1.trans (congrArg some (zjr hkind)))
    subst this
    split at hx
    case h_2=>cases hx
    rename_i m x hv
    split at hx
    · cases hx
    rename_i hm
    split at hx
    case h_2=>cases hx
    rename_i l r hl hr
    simp only [Option.some.injEq,Prod.mk.injEq] at hx
    obtain ⟨rfl,rfl⟩:=hx
    obtain ⟨h0,h1,h2⟩:=cut_of hob
    obtain ⟨p,hs⟩:=h.val hv
    obtain ⟨s,hs1,hs2,hs3⟩:=hs.str_inv hm
    have hlen:s.size=(x:List Int).length:=by rw [← hs2,List.length_map,Array.length_toList]; rfl
    rw [← hlen] at hr h2
    have hrb:=zfi (P:=P) (len:=s.size) (cap:=s.size) h false hl hr h0 h1 h2 (Nat.le_refl _)
    refine ⟨.string (s.extract l.toNat r.toNat),?_,S,rfl,h.putE (e:=.v .str .sh _) hd ⟨rfl,(0,[]),?_,fun h=>by cases h⟩⟩
    · rw [hs1]
      simp [Instr.sliceAt,Instr.slice,run_underlying hd1,hrb]
    · refine ⟨s.extract l.toNat r.toNat,by simp [zab,Ty.agg],?_,by rw [List.length_drop,List.length_take]; omega⟩
      rw [← hs2,ByteArray.data_extract,Array.toList_extract,List.extract_eq_take_drop,List.map_take,List.map_drop,← List.drop_take]
end
end Go.X
