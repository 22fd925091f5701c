/- Part 12 of what stands below the statement. -/
import Derived.Maps.OwnIn
import Derived.Maps.Views
import Derived.StringKeys
import Derived.Test.YtieoleabnjdkfaaGreatQ11
set_option linter.unusedSimpArgs false
set_option linter.unusedVariables false
namespace Go.Proofs.YtieoleabnjdkfaaGreat
open Go Go.Proofs Go.RowKit Go.X
def SI (w:World) (v:Value) (xs:List Int) (b:Nat):Prop :=
  xs.length≤1000∧(∀ x∈xs,IntKind.i64.wrap x=x)∧b < w.heap.size∧∃ off cap,v=.slice (some ⟨b,off,none⟩) xs.length cap∧xs.length≤cap∧∀ (i:Nat) (h:i < xs.length),w.cell? ⟨b,off+i,none⟩=some (.int .i64 xs[i])
theorem SI.same {w w':World} {v:Value} {xs:List Int} {b:Nat} (h:SI w v xs b) (hb:w'.heap[b]? = w.heap[b]?):SI w' v xs b:=by
  obtain ⟨h1,h2,h3,off,cap,h4,h5,h6⟩:=h
  refine ⟨h1,h2,?_,off,cap,h4,h5,fun i hi=>(World.cell?_of_block (w:=w) (a:=⟨b,off+i,none⟩) hb).trans (h6 i hi)⟩
  have:w.heap[b]? = some w.heap[b]:=Array.getElem?_eq_getElem h3
  rw [this] at hb
  exact (Array.getElem?_eq_some_iff.1 hb).1
theorem SI.keep {X:Nat→Prop} {w w':World} {v:Value} {xs:List Int} {b:Nat} (h:SI w v xs b) (hk:Kx X w w') (hx:¬ X b):SI w' v xs b:=h.same (hk.block b h.2.2.1 hx)
theorem sr_si {S:St} {p:X.Place} {m:Md} (hm:m=.sh∨m=.bw) {xs:List Int} {v:Value} {b:Nat} (h:SI S.w v xs b) (hF:S.F b):SR Tryz.prog y26 S m p xs v:=by
  obtain ⟨h1,h2,_,off,cap,rfl,h5,h6⟩:=h
  rcases hm with rfl | rfl
  · refine ⟨⟨Nat.le_trans h1 (by decide),by simp [Ty.size],some ⟨b,off,none⟩,_,cap,by simp [vcells,Ty.agg],rfl,h5,.inr ⟨b,off,rfl,fun _=>.inl hF,fun i hi=>⟨?_,h2 _ (List.getElem_mem hi)⟩⟩⟩,fun h=>by cases h⟩
    have:=h6 i hi
    simp [blk,Ty.size,this]
  · refine ⟨⟨Nat.le_trans h1 (by decide),by simp [Ty.size],some ⟨b,off,none⟩,_,cap,by simp [vcells,Ty.agg],rfl,h5,.inr ⟨b,off,rfl,fun _=>.inl hF,fun i hi=>⟨?_,h2 _ (List.getElem_mem hi)⟩⟩⟩,fun h=>by cases h⟩
    have:=h6 i hi
    simp [blk,Ty.size,this]
def SB (w:World) (v:Value) (xs:List Bool) (b:Nat):Prop :=
  xs.length≤1000∧b < w.heap.size∧∃ cap,v=.slice (some ⟨b,0,none⟩) xs.length cap∧xs.length≤cap∧∀ (i:Nat) (h:i < xs.length),w.cell? ⟨b,i,none⟩=some (.bool xs[i])
theorem sr_sb {S:St} {p:X.Place} {xs:List Bool} {v:Value} {b:Nat} (h:SB S.w v xs b) (hF:S.F b):SR Tryz.prog y81 S .bw p xs v:=by
  obtain ⟨h1,_,cap,rfl,h5,h6⟩:=h
  refine ⟨⟨Nat.le_trans h1 (by decide),by simp [Ty.size],some ⟨b,0,none⟩,_,cap,by simp [vcells,Ty.agg],rfl,h5,.inr ⟨b,0,rfl,fun _=>.inl hF,fun i hi=>?_⟩⟩,fun h=>by cases h⟩
  have:=h6 i hi
  simp [Rel,blk,Ty.size,this]
structure GA (F:Nat→Prop) (W:World) (gv:Value) (gs:List Grp):Prop where
  rel:SR Tryz.prog y25 (stF F W) .bw (0,[]) gs gv
  lt:∀ b,F b→b < W.heap.size
theorem GA.keep {X F:Nat→Prop} {W W':World} {gv:Value} {gs:List Grp} (h:GA F W gv gs) (hk:Kx X W W') (hx:∀ b,F b→¬ X b):GA F W' gv gs :=
  ⟨⟨h.rel.1.fut (.inr rfl) ⟨fun b hb=>hb,fun b _ hb=>hb.elim,fun b hb=>hb.elim (fun hb=>hk.block b (h.lt b hb) (hx b hb)) fun hb=>hb.2.elim⟩ fun _ _=>rfl,h.rel.2⟩,fun b hb=>Nat.lt_of_lt_of_le (h.lt b hb) hk.size⟩
theorem GA.sr {F F':Nat→Prop} {W:World} {gv:Value} {gs:List Grp} (h:GA F W gv gs) (hF:∀ b,F b→F' b) {p:X.Place}:SR Tryz.prog y25 (stF F' W) .bw p gs gv :=
  ⟨h.rel.1.fut (.inr rfl) ⟨fun b hb=>hF b hb,fun b _ hb=>hb.elim,fun b hb=>rfl⟩ fun _ _=>rfl,h.rel.2⟩
def wI (x:Int):Prop:=IntKind.i64.wrap x=x
def KI (w:World) (v:Value) (xs:List Int) (b:Nat):Prop :=
  xs.length≤1000∧(∀ x∈xs,wI x)∧∃ cap cur,v=.slice (some ⟨b,0,none⟩) xs.length cap∧xs.length≤cap∧w.heap[b]? = some (.cells cur 3 (0,0))∧∀ (i:Nat) (h:i < xs.length),cur[i]? = some (.int .i64 xs[i])
theorem KI.lt {w:World} {v:Value} {xs:List Int} {b:Nat} (h:KI w v xs b):b < w.heap.size:=by
  obtain ⟨_,_,cap,cur,_,_,h1,_⟩:=h
  exact (Array.getElem?_eq_some_iff.1 h1).1
theorem KI.same {w w':World} {v:Value} {xs:List Int} {b:Nat} (h:KI w v xs b) (hb:w'.heap[b]? = w.heap[b]?):KI w' v xs b:=by
  obtain ⟨h1,h2,cap,cur,h3,h4,h5,h6⟩:=h
  exact ⟨h1,h2,cap,cur,h3,h4,hb.trans h5,h6⟩
theorem KI.ext {w w':World} {v:Value} {xs:List Int} {b:Nat} (h:KI w v xs b) (he:Ext w w'):KI w' v xs b:=h.same (he.block b h.lt)
theorem KI.keep {X:Nat→Prop} {w w':World} {v:Value} {xs:List Int} {b:Nat} (h:KI w v xs b) (hk:Kx X w w') (hx:¬ X b):KI w' v xs b:=h.same (hk.block b h.lt hx)
theorem KI.si {w:World} {v:Value} {xs:List Int} {b:Nat} (h:KI w v xs b):SI w v xs b:=by
  have hl:=h.lt
  obtain ⟨h1,h2,cap,cur,h3,h4,h5,h6⟩:=h
  exact ⟨h1,h2,hl,0,cap,h3,h4,fun i hi=>by have:=h6 i hi; simp [World.cell?,h5,this]⟩
def SL (X:Nat→Prop) (w:World) (v:Value) (xs:List Int):Prop:=(v=.slice none 0 0∧xs=[])∨∃ b,KI w v xs b∧¬ X b
theorem SL.keep {X:Nat→Prop} {w w':World} {v:Value} {xs:List Int} (h:SL X w v xs) (hk:Kx X w w'):SL X w' v xs:=h.imp id fun ⟨b,h1,h2⟩=>⟨b,h1.keep hk h2,h2⟩
theorem SL.old {X:Nat→Prop} {w:World} {v:Value} {xs:List Int} (h:SL X w v xs):(v=.slice none 0 0∧xs=[])∨∃ b,SI w v xs b∧¬ X b:=h.imp id fun ⟨b,h1,h2⟩=>⟨b,h1.si,h2⟩
theorem SL.slice {X:Nat→Prop} {w:World} {v:Value} {xs:List Int} (h:SL X w v xs):∃ sa sl sc,v=.slice sa sl sc:=by
  rcases h with ⟨rfl,_⟩ | ⟨b,⟨_,_,c,_,rfl,_⟩,_⟩ <;> exact ⟨_,_,_,rfl⟩
def AV (X:Nat→Prop) (w:World) (v:Value) (a:Asn):Prop:=∃ sv,v=.agg #[.int .i64 a.1,.int .i64 a.2.1,.int .i64 a.2.2.1,sv,.int .i64 a.2.2.2.2]∧SL X w sv a.2.2.2.1∧wI a.1∧wI a.2.1∧wI a.2.2.1∧wI a.2.2.2.2
theorem AV.keep {X:Nat→Prop} {w w':World} {v:Value} {a:Asn} (h:AV X w v a) (hk:Kx X w w'):AV X w' v a:=by
  obtain ⟨sv,h1,h2,h3⟩:=h
  exact ⟨sv,h1,h2.keep hk,h3⟩
def AF (v:Value) (b:Nat):Prop:=∃ c0 c1 c2 off l c c4,v=.agg #[c0,c1,c2,.slice (some ⟨b,off,none⟩) l c,c4]
theorem sr_av {S:St} {p:X.Place} {X:Nat→Prop} {v:Value} {a:Asn} (h:AV X S.w v a) (hF:∀ b,AF v b→S.F b):SR Tryz.prog y49 S .bw p a v:=by
  obtain ⟨sv,rfl,h2,w0,w1,w2,w4⟩:=h
  obtain ⟨k,A,B,m,q⟩:=a
  simp only at h2 w0 w1 w2 w4
  have hs:∃ a len cap,sv=.slice a len cap∧len=m.length∧len≤cap∧m.length≤1000∧((m=[]∧a=none∧cap=0)∨∃ b off,a=some ⟨b,off,none⟩∧S.F b∧∀ (i:Nat) (h:i < m.length),S.w.cell? ⟨b,off+i,none⟩=some (.int .i64 m[i])∧IntKind.i64.wrap m[i]=m[i]):=by
    rcases h2.old with ⟨rfl,rfl⟩ | ⟨b,⟨h1,h3,_,off,cap,rfl,h5,h6⟩,_⟩
    · exact ⟨none,0,0,rfl,rfl,Nat.le_refl _,by simp,.inl ⟨rfl,rfl,rfl⟩⟩
    · exact ⟨_,_,_,rfl,rfl,h5,h1,.inr ⟨b,off,rfl,hF b ⟨_,_,_,_,_,_,_,rfl⟩,fun i hi=>⟨h6 i hi,h3 _ (List.getElem_mem hi)⟩⟩⟩
  obtain ⟨ad,len,cap,rfl,rfl,hc,hm,hcase⟩:=hs
  refine ⟨?_,fun _=>⟨_,rfl,by simp [Ty.size]⟩⟩
  refine ⟨⟨by simp [vcells,Ty.agg],w0⟩,⟨by simp [vcells,Ty.agg,Ty.size],w1⟩,⟨by simp [vcells,Ty.agg,Ty.size],w2⟩,⟨Nat.le_trans hm (by decide),by simp [Ty.size],ad,m.length,cap,by simp [vcells,Ty.agg,Ty.size],rfl,hc,?_⟩,⟨by simp [vcells,Ty.agg,Ty.size],w4⟩⟩
  rcases hcase with ⟨rfl,rfl,rfl⟩ | ⟨b,off,rfl,hb,hcell⟩
  · exact .inl ⟨rfl,rfl⟩
  · refine .inr ⟨b,off,rfl,fun _=>.inl hb,fun i hi=>⟨?_,(hcell i hi).2⟩⟩
    have:=(hcell i hi).1
    simp [blk,Ty.size,this]
end Go.Proofs.YtieoleabnjdkfaaGreat
set_option linter.unusedSimpArgs false
set_option linter.unusedVariables false
namespace Go.Proofs.YtieoleabnjdkfaaGreat
open Go Go.Proofs Go.RowKit Go.X
theorem con118 {n:Int} {gs:List Grp} {N:Int} (hp:PileOK n gs N) (hn:n≤7) {r:List Bool} (h0:0 < r.length) (hr7:r.length≤7) {F:Nat→Prop} {W:World} {gv rv:Value} {rb:Nat} (hg:GA F W gv gs) (hr:SB W rv r rb) :
    Calls Tryz.prog 118 #[gv,rv] W fun e w'=>∃ v b,e=.returned (.tuple #[v,.int .i64 (wsum (none1 r) gs)])∧SI w' v (votesAt r gs) b∧Ext W w'∧(F b∨b=rb∨W.heap.size≤b):=by
  have hwf:(stF (fun c=>F c∨c=rb) W).WF:=stF_wf fun c hc=>hc.elim (hg.lt c) fun h=>h ▸ hr.2.1
  refine Calls.mono (sim118.2 (gs,r,()) (votesAt r gs,wsum (none1 r) gs) (hp.d118 hn hr7) (stF (fun c=>F c∨c=rb) W) hwf [gv,rv] rfl fun i e he=>?_) fun e w' ⟨v,S',h1,h2,h3,h4,_⟩=>?_
  · match i,he with
    | 0,he=>cases he; exact ⟨_,rfl,hg.sr fun b hb=>.inl hb⟩
    | 1,he=>cases he; exact ⟨_,rfl,sr_sb hr (.inr rfl)⟩
    | i+2,he=>cases he
  · subst h1 h2
    obtain ⟨us,rfl,hsz,hus⟩:=h4
    obtain ⟨u0,q0,r0⟩:=hus 0 ⟨y26,.sh,votesAt r gs⟩ rfl
    obtain ⟨u1,q1,r1⟩:=hus 1 ⟨y2,.sh,wsum (none1 r) gs⟩ rfl
    have hus2:us=#[u0,u1]:=by
      have hs2:us.size=2:=hsz
      apply Array.ext
      · simpa using hs2
      · intro i h1 h2
        have hi:i=0∨i=1:=by omega
        rcases hi with rfl | rfl
        · rw [Array.getElem?_eq_getElem (by omega)] at q0; simpa using q0
        · rw [Array.getElem?_eq_getElem (by omega)] at q1; simpa using q1
    have h7:u1=.int .i64 (wsum (none1 r) gs):=by
      have:=r1.1.1
      simpa [vcells,Ty.agg] using this
    obtain ⟨hl,_,A,len,cap,k0,rfl,kc,k3⟩:=r0.1
    dsimp only at hl k0 kc k3
    have hv0:u0=.slice A (votesAt r gs).length cap:=by simpa [vcells,Ty.agg] using k0
    rcases k3 with ⟨k3,_⟩ | ⟨b,o,rfl,hb,k4⟩
    · exfalso
      have:=votesAt_len r gs
      rw [k3] at this
      simp at this
      omega
    · have hne:votesAt r gs ≠ []:=fun e=>by
        have:=votesAt_len r gs
        rw [e] at this
        simp at this
        omega
      have hF:S'.F b:=(hb hne).elim id fun h=>by cases h.1
      obtain ⟨f1,f2,f3⟩:=h3.shared b hF
      refine ⟨u0,b,by rw [hus2,h7],⟨by rw [votesAt_len]; omega,fun x hx=>?_,f2,o,cap,hv0,kc,fun i hi=>?_⟩,frm_ext h3,?_⟩
      · obtain ⟨i,hi,rfl⟩:=List.getElem_of_mem hx
        exact (k4 i hi).2
      · have:=(k4 i hi).1
        simpa [blk,Ty.size] using this
      · rcases f3 with f3 | f3 | f3
        · exact f3.elim .inl fun h=>.inr (.inl h)
        · exact .inr (.inr f3)
        · exact absurd rfl f3
theorem con58 {W:World} {tv:Value} {t:List Int} {tb:Nat} {c:Int} (hc:wI c) (ht:SI W tv t tb):Calls Tryz.prog 58 #[tv,.int .i64 c] W fun e w'=>e=.returned (.bool (decide (c∈t)))∧Ext W w':=by
  have hwf:(stF (fun c=>c=tb) W).WF:=stF_wf fun c hc=>hc ▸ ht.2.2.1
  refine Calls.mono (sim58.2 (t,c,()) _ (d58_eq (s:=t) c (by have:=ht.1; omega)) (stF (fun c=>c=tb) W) hwf [tv,.int .i64 c] rfl fun i e he=>?_) fun e w' ⟨v,S',h1,h2,h3,h4,_⟩=>?_
  · match i,he with
    | 0,he=>cases he; exact ⟨_,rfl,sr_si (.inr rfl) ht rfl⟩
    | 1,he=>cases he; exact ⟨_,rfl,sr_int (.inl rfl) hc⟩
    | i+2,he=>cases he
  · subst h1 h2
    have h5:SR Tryz.prog .bool S' .sh (0,[0]) (decide (c∈t)) v:=h4
    have h6:v=.bool (decide (c∈t)):=by have:=h5.1; simpa [Rel,vcells,Ty.agg] using this
    exact ⟨by rw [h6],frm_ext h3⟩
instance (x:Int):Decidable (wI x):=by unfold wI; infer_instance
theorem con51 {n:Int} {gs:List Grp} (hgs:GsOK gs) {F:Nat→Prop} {W:World} {gv:Value} {x y:Int} (hn:wI n) (hx:wI x) (hy:wI y) (hg:GA F W gv gs) :
    Calls Tryz.prog 51 #[.int .i64 n,gv,.agg #[.int .i64 1,.int .i64 x,.int .i64 y,.slice none 0 0,.int .i64 0]] W fun e w'=>e=.returned (.int .i64 (mrg n gs (1,x,y,[],0)))∧Ext W w'∧wI (mrg n gs (1,x,y,[],0)):=by
  have hwf:(stF F W).WF:=stF_wf hg.lt
  have ha:AV (fun _=>False) W (.agg #[.int .i64 1,.int .i64 x,.int .i64 y,.slice none 0 0,.int .i64 0]) (1,x,y,[],0):=⟨_,rfl,.inl ⟨rfl,rfl⟩,(by decide:wI 1),hx,hy,(by decide:wI 0)⟩
  have hno:∀ b,¬ AF (.agg #[.int .i64 1,.int .i64 x,.int .i64 y,.slice none 0 0,.int .i64 0]) b:=fun b ⟨_,_,_,_,_,_,_,h⟩=>by simp at h
  refine Calls.mono (sim51.2 (n,gs,(1,x,y,[],0),()) (mrg n gs (1,x,y,[],0)) (d51_eq (a:=(1,x,y,[],0)) hgs (by simp)) (stF F W) hwf [.int .i64 n,gv,_] rfl fun i e he=>?_) fun e w' ⟨v,S',h1,h2,h3,h4,_⟩=>?_
  · match i,he with
    | 0,he=>cases he; exact ⟨_,rfl,sr_int (.inl rfl) hn⟩
    | 1,he=>cases he; exact ⟨_,rfl,hg.sr fun b hb=>hb⟩
    | 2,he=>cases he; exact ⟨_,rfl,sr_av (S:=stF F W) ha fun b hb=>absurd hb (hno b)⟩
    | i+3,he=>cases he
  · subst h1 h2
    have h5:SR Tryz.prog (.int .i64) S' .sh (0,[0]) (mrg n gs (1,x,y,[],0)) v:=h4
    have h6:v=.int .i64 (mrg n gs (1,x,y,[],0)):=by have:=h5.1.1; simpa [vcells,Ty.agg] using this
    exact ⟨by rw [h6],frm_ext h3,h5.1.2⟩
theorem AV.lt {X:Nat→Prop} {w:World} {v:Value} {a:Asn} (h:AV X w v a) {b:Nat} (hb:AF v b):b < w.heap.size∧¬ X b:=by
  obtain ⟨sv,rfl,h2,_⟩:=h
  obtain ⟨_,_,_,off,l,c,_,e⟩:=hb
  have e3:sv=.slice (some ⟨b,off,none⟩) l c:=by simp at e; exact e.2.2.2.1
  subst e3
  rcases h2.old with ⟨h,_⟩ | ⟨b',⟨_,_,hlt,o',c',h,_⟩,hx⟩
  · cases h
  · have:b=b':=by simp at h; exact h.1.1
    subst this
    exact ⟨hlt,hx⟩
theorem con40 {X:Nat→Prop} {W:World} {av bv:Value} {a b:Asn} (ha:AV X W av a) (hb:AV X W bv b) (hla:a.2.2.2.1.length≤1000) (hlb:b.2.2.2.1.length≤1000) :
    Calls Tryz.prog 40 #[av,bv] W fun e w'=>e=.returned (.int .i64 (cmpA a b))∧Ext W w':=by
  have hwf:(stF (fun c=>AF av c∨AF bv c) W).WF:=stF_wf fun c hc=>hc.elim (fun h=>(ha.lt h).1) fun h=>(hb.lt h).1
  refine Calls.mono (sim40.2 (a,b,()) (cmpA a b) (d40_eq (a:=a) (b:=b) (by omega) (by omega)) (stF (fun c=>AF av c∨AF bv c) W) hwf [av,bv] rfl fun i e he=>?_) fun e w' ⟨v,S',h1,h2,h3,h4,_⟩=>?_
  · match i,he with
    | 0,he=>cases he; exact ⟨_,rfl,sr_av (S:=stF (fun c=>AF av c∨AF bv c) W) ha fun c hc=>.inl hc⟩
    | 1,he=>cases he; exact ⟨_,rfl,sr_av (S:=stF (fun c=>AF av c∨AF bv c) W) hb fun c hc=>.inr hc⟩
    | i+2,he=>cases he
  · subst h1 h2
    have h5:SR Tryz.prog (.int .i64) S' .sh (0,[0]) (cmpA a b) v:=h4
    have h6:v=.int .i64 (cmpA a b):=by have:=h5.1.1; simpa [vcells,Ty.agg] using this
    exact ⟨by rw [h6],frm_ext h3⟩
def keyB (t:List Int):List UInt8:=t.map fun x=>UInt8.ofNat x.toNat
def keyW (t:List Int) (i:Nat):List Int:=(t.take i).map wu8++List.replicate (t.length - i) 0
theorem d75_eq {t:List Int} (hl:t.length≤1000):d75 t=some (t.map wu8):=by
  unfold d75
  have l1:(t.length:Int)≤LIM:=by rw [LIM_eq]; omega
  have l2:(0:Int)≤(t.length:Int):=by omega
  simp only [l1,l2,decide_true,Bool.and_self,cond_true,Int.toNat_natCast]
  refine while_bind (b:=t.map wu8) (fun i=>(keyW t i,t,(t.length:Int),(i:Int))) t.length (by simp [keyW]) (fun i hi=>?_) ?_ rfl
  · have e1:(i:Int) < (t.length:Int):=by omega
    have e0:(0:Int)≤(i:Int):=by omega
    have ew:w ((i:Int)+1)=((i+1:Nat):Int):=by rw [w_id (by omega) (by omega)]; omega
    have hk:(keyW t i).length=t.length:=by simp [keyW]; omega
    have hset:(keyW t i).set i (wu8 (t.getD i 0))=keyW t (i+1):=by
      have hlen:((t.take i).map wu8).length=i:=by simp; omega
      unfold keyW
      rw [List.set_append_right _ _ (by omega),hlen,Nat.sub_self,take_get t 0 hi,List.map_append]
      have:List.replicate (t.length - i) (0:Int)=0::List.replicate (t.length - (i+1)) 0:=by
        rw [← List.replicate_succ]; congr 1; omega
      rw [this]
      simp
    simp only [e1,e0,ew,hk,hset,decide_true,cond_true,Bool.and_self,Int.toNat_natCast]
  · have:¬ ((t.length:Int) < (t.length:Int)):=by omega
    simp only [this,decide_false,cond_false]
    simp [keyW]
theorem con75 {n:Nat} (hn:n≤7) {W:World} {tv:Value} {t:List Int} {tb:Nat} (ht:SI W tv t tb) (hb:isB n t):Calls Tryz.prog 75 #[tv] W fun e w'=>(∃ s:ByteArray,e=.returned (.string s)∧s.data.toList=keyB t)∧Ext W w':=by
  have hwf:(stF (fun c=>c=tb) W).WF:=stF_wf fun c hc=>hc ▸ ht.2.2.1
  refine Calls.mono (sim75.2 (t,()) (t.map wu8) (d75_eq ht.1) (stF (fun c=>c=tb) W) hwf [tv] rfl fun i e he=>?_) fun e w' ⟨v,S',h1,h2,h3,h4,_⟩=>?_
  · match i,he with
    | 0,he=>cases he; exact ⟨_,rfl,sr_si (.inr rfl) ht rfl⟩
    | i+1,he=>cases he
  · subst h1 h2
    have h5:SR Tryz.prog .str S' .sh (0,[0]) (t.map wu8) v:=h4
    obtain ⟨s,h6,h7,_⟩:=h5.1
    have h8:v=.string s:=by simpa [vcells,Ty.agg] using h6
    refine ⟨⟨s,by rw [h8],?_⟩,frm_ext h3⟩
    have hlen:s.data.toList.length=t.length:=by have:=congrArg List.length h7; simpa using this
    apply List.ext_getElem
    · simp [keyB,hlen]
    · intro i i1 i2
      have hi:i < t.length:=by simpa [keyB] using i2
      have:=congrArg (fun l=>l[i]?) h7
      simp only [List.getElem?_map,List.getElem?_eq_getElem i1,List.getElem?_eq_getElem hi,Option.map_some,Option.some.injEq] at this
      have hx:=hb.2 t[i] (List.getElem_mem hi)
      rw [w8_id (by omega) (by omega)] at this
      have hk:(keyB t)[i]=UInt8.ofNat (t[i]).toNat:=by simp [keyB]
      rw [hk,← this]
      simp
end Go.Proofs.YtieoleabnjdkfaaGreat
set_option linter.unusedSimpArgs false
set_option linter.unusedVariables false
set_option linter.unnecessarySimpa false
namespace Go.Proofs.YtieoleabnjdkfaaGreat
open Go Go.Proofs Go.RowKit Go.X
open Go.Maps (Keyed)
attribute [local go_sem] Oper.semAt_some
def Xm (Mv Mw:Nat) (b:Nat):Prop:=b=Mv∨b=Mw
def rowB (n:Nat) (gs:List Grp) (a:Nat):List Int:=(List.range n).map fun b=>if a=b then 0 else mrg n gs (1,(a:Int),(b:Int),[],0)
def BT (n:Nat) (gs:List Grp) (X:Nat→Prop) (w:World) (bv:Value):Prop:=∃ bb cap cur e,bv=.slice (some ⟨bb,0,none⟩) n cap∧n≤cap∧w.heap[bb]? = some (.cells cur e (0,0))∧¬ X bb ∧
  ∀ a,a < n→∃ rv rb,cur[a]? = some rv∧SI w rv (rowB n gs a) rb∧¬ X rb
theorem BT.keep {n:Nat} {gs:List Grp} {X:Nat→Prop} {w w':World} {bv:Value} (h:BT n gs X w bv) (hk:Kx X w w'):BT n gs X w' bv:=by
  obtain ⟨bb,cap,cur,e,h1,h2,h3,h4,h5⟩:=h
  refine ⟨bb,cap,cur,e,h1,h2,(hk.block bb (Array.getElem?_eq_some_iff.1 h3).1 h4).trans h3,h4,fun a ha=>?_⟩
  obtain ⟨rv,rb,q1,q2,q3⟩:=h5 a ha
  exact ⟨rv,rb,q1,q2.keep hk q3,q3⟩
def Rs:Value→Option (DataW Unit × List MemPlace)
  | .slice none l c=>some (.agg [.lit (.int .i64 l),.lit (.int .i64 c)],[])
  | .slice (some ⟨b,o,none⟩) l c=>some (.agg [.lit (.int .i64 b),.lit (.int .i64 o),.lit (.int .i64 l),.lit (.int .i64 c)],[])
  | _=>none
theorem Rs_inj {v v':Value} {d:DataW Unit} {ps ps':List MemPlace} (h:Rs v=some (d,ps)) (h':Rs v'=some (d,ps')):v=v':=by
  unfold Rs at h h'
  split at h <;> split at h' <;> simp at h h' <;> (obtain ⟨h1,_⟩:=h; obtain ⟨h2,_⟩:=h'; rw [← h1] at h2; simp at h2; try omega)
  · obtain ⟨a,b⟩:=h2
    have a':_=_:=Int.ofNat.inj a
    have b':_=_:=Int.ofNat.inj b
    rw [a',b']
  · obtain ⟨a,b,c,d⟩:=h2
    have a':_=_:=Int.ofNat.inj a
    have b':_=_:=Int.ofNat.inj b
    have c':_=_:=Int.ofNat.inj c
    have d':_=_:=Int.ofNat.inj d
    rw [a',b',c',d']
def setN:List Int→Nat
  | []=>0
  | c::t=>setN t ||| 2 ^ c.toNat
def votesOf (n:Nat) (gs:List Grp) (t:List Int):List Int:=votesAt (remOf n t t.length) gs
def VM (n:Nat) (gs:List Grp) (X:Nat→Prop) (w:World) (Mv nv:Nat):Prop:=∃ D:DataW Unit,w.ownsMap Tryz.prog 3 Rs Mv nv D ∧
  ∀ kl:Lit,Go.Maps.has D kl=true→∃ t v b ps,isB n t∧kl=.int .i64 (setN t:Nat)∧Rs v=some (D.atKey kl (.agg [.lit (.int .i64 0),.lit (.int .i64 0)]),ps)∧SI w v (votesOf n gs t) b∧¬ X b
def WM (n:Nat) (gs:List Grp) (w:World) (Mw nw:Nat):Prop:=∃ D:DataW Unit,w.ownsMap Tryz.prog 9 (plainElem Tryz.prog 3) Mw nw D ∧
  ∀ kl:Lit,Go.Maps.has D kl=true→∃ t,isB n t∧0 < t.length∧kl=.string (keyB t)∧D.atKey kl (.lit (.int .i64 0))=.lit (.int .i64 (valP n gs 10 t).1)
theorem VM.keep {n:Nat} {gs:List Grp} {X:Nat→Prop} {w w':World} {Mv nv:Nat} (h:VM n gs X w Mv nv) (hk:Kx X w w') (hb:w'.heap[Mv]? = w.heap[Mv]?):VM n gs X w' Mv nv:=by
  obtain ⟨D,⟨es,clock,h1,h2⟩,h3⟩:=h
  refine ⟨D,⟨es,clock,hb.trans h1,h2⟩,fun kl hkl=>?_⟩
  obtain ⟨t,v,b,ps,q1,q2,q3,q4,q5⟩:=h3 kl hkl
  exact ⟨t,v,b,ps,q1,q2,q3,q4.keep hk q5,q5⟩
theorem WM.keep {n:Nat} {gs:List Grp} {w w':World} {Mw nw:Nat} (h:WM n gs w Mw nw) (hb:w'.heap[Mw]? = w.heap[Mw]?):WM n gs w' Mw nw:=by
  obtain ⟨D,⟨es,clock,h1,h2⟩,h3⟩:=h
  exact ⟨D,⟨es,clock,hb.trans h1,h2⟩,h3⟩
theorem VM.lt {n:Nat} {gs:List Grp} {X:Nat→Prop} {w:World} {Mv nv:Nat} (h:VM n gs X w Mv nv):Mv < w.heap.size:=by
  obtain ⟨D,h1,_⟩:=h; exact h1.lt
theorem WM.lt {n:Nat} {gs:List Grp} {w:World} {Mw nw:Nat} (h:WM n gs w Mw nw):Mw < w.heap.size:=by
  obtain ⟨D,h1,_⟩:=h; exact h1.lt
structure SX (X:Nat→Prop) (n:Nat) (gs:List Grp) (F:Nat→Prop) (B Mv Mw:Nat) (nv nw:Nat) (w:World):Prop where
  cell:∃ gv bv,w.heap[B]? = some (.cells #[.int .i64 n,gv,bv,.map (some Mv),.map (some Mw)] 97 (0,0))∧GA F w gv gs∧BT n gs X w bv
  fx:∀ b,F b→¬ X b
  bx:¬ X B
  ne:Mv ≠ Mw
  votes:VM n gs X w Mv nv
  vals:WM n gs w Mw nw
  xm:∀ b,Xm Mv Mw b→X b
abbrev SQ (n:Nat) (gs:List Grp) (F:Nat→Prop) (B Mv Mw:Nat) (nv nw:Nat) (w:World):Prop:=SX (Xm Mv Mw) n gs F B Mv Mw nv nw w
theorem BT.weak {n:Nat} {gs:List Grp} {X Y:Nat→Prop} {w:World} {bv:Value} (h:BT n gs X w bv) (hXY:∀ b,b < w.heap.size→¬ X b→¬ Y b):BT n gs Y w bv:=by
  obtain ⟨bb,cap,cur,e,h1,h2,h3,h4,h5⟩:=h
  refine ⟨bb,cap,cur,e,h1,h2,h3,hXY _ (Array.getElem?_eq_some_iff.1 h3).1 h4,fun a ha=>?_⟩
  obtain ⟨rv,rb,q1,q2,q3⟩:=h5 a ha
  exact ⟨rv,rb,q1,q2,hXY _ q2.2.2.1 q3⟩
theorem VM.weak {n:Nat} {gs:List Grp} {X Y:Nat→Prop} {w:World} {Mv nv:Nat} (h:VM n gs X w Mv nv) (hXY:∀ b,b < w.heap.size→¬ X b→¬ Y b):VM n gs Y w Mv nv:=by
  obtain ⟨D,h1,h3⟩:=h
  refine ⟨D,h1,fun kl hkl=>?_⟩
  obtain ⟨t,v,b,ps,q1,q2,q3,q4,q5⟩:=h3 kl hkl
  exact ⟨t,v,b,ps,q1,q2,q3,q4,hXY _ q4.2.2.1 q5⟩
theorem SX.weak {X Y:Nat→Prop} {n:Nat} {gs:List Grp} {F:Nat→Prop} {B Mv Mw nv nw:Nat} {w:World} (h:SX X n gs F B Mv Mw nv nw w) (hXY:∀ b,b < w.heap.size→¬ X b→¬ Y b) (hm:∀ b,Xm Mv Mw b→Y b):SX Y n gs F B Mv Mw nv nw w:=by
  obtain ⟨gv,bv,c1,c2,c3⟩:=h.cell
  exact ⟨⟨gv,bv,c1,c2,c3.weak hXY⟩,fun b hb=>hXY b (c2.lt b hb) (h.fx b hb),hXY B (Array.getElem?_eq_some_iff.1 c1).1 h.bx,h.ne,h.votes.weak hXY,h.vals,hm⟩
theorem SX.keep {X Z:Nat→Prop} {n:Nat} {gs:List Grp} {F:Nat→Prop} {B Mv Mw nv nw:Nat} {w w':World} (h:SX X n gs F B Mv Mw nv nw w) (hk:Kx Z w w') (hZ:∀ b,Z b→X b) (hM:∀ b,Xm Mv Mw b→¬ Z b):SX X n gs F B Mv Mw nv nw w':=by
  have hkX:Kx X w w':=⟨hk.os,hk.tape,hk.output,hk.size,fun b hb hx=>hk.block b hb fun hz=>hx (hZ b hz)⟩
  obtain ⟨gv,bv,c1,c2,c3⟩:=h.cell
  exact ⟨⟨gv,bv,(hkX.block B (Array.getElem?_eq_some_iff.1 c1).1 h.bx).trans c1,c2.keep hkX h.fx,c3.keep hkX⟩,h.fx,h.bx,h.ne,h.votes.keep hkX (hk.block _ h.votes.lt (hM _ (.inl rfl))),h.vals.keep (hk.block _ h.vals.lt (hM _ (.inr rfl))),h.xm⟩
theorem SX.ext {X:Nat→Prop} {n:Nat} {gs:List Grp} {F:Nat→Prop} {B Mv Mw nv nw:Nat} {w w':World} (h:SX X n gs F B Mv Mw nv nw w) (he:Ext w w'):SX X n gs F B Mv Mw nv nw w' :=
  h.keep (Kx.of_ext (X:=fun _=>False) he) (fun b h=>h.elim) fun b _ h=>h
theorem SX.mono {X:Nat→Prop} {n:Nat} {gs:List Grp} {F:Nat→Prop} {B Mv Mw nv nw nv' nw':Nat} {w:World} (h:SX X n gs F B Mv Mw nv nw w) (hv:nv≤nv') (hw:nw≤nw'):SX X n gs F B Mv Mw nv' nw' w:=by
  obtain ⟨D,d1,d2⟩:=h.votes
  obtain ⟨E,e1,e2⟩:=h.vals
  exact ⟨h.cell,h.fx,h.bx,h.ne,⟨D,d1.mono hv,d2⟩,⟨E,e1.mono hw,e2⟩,h.xm⟩
theorem setN_lt:∀ {t:List Int},(∀ x∈t,0≤x∧x < 7)→setN t < 128
  | [],_=>by simp [setN]
  | c::t,h=>by
    have ih:=setN_lt (t:=t) fun x hx=>h x (List.mem_cons_of_mem _ hx)
    have hc:=h c (by simp)
    exact Nat.or_lt_two_pow (n:=7) ih (Nat.pow_lt_pow_right (by omega) (by omega))
theorem setN_bit:∀ {t:List Int},(∀ x∈t,0≤x)→∀ c:Nat,(setN t).testBit c=decide ((c:Int)∈t)
  | [],_,c=>by simp [setN]
  | d::t,h,c=>by
    have ih:=setN_bit (t:=t) (fun x hx=>h x (List.mem_cons_of_mem _ hx)) c
    have hd:=h d (by simp)
    unfold setN
    rw [Nat.testBit_or,ih,Nat.testBit_two_pow,Bool.eq_iff_iff,Bool.or_eq_true,decide_eq_true_eq,decide_eq_true_eq,decide_eq_true_eq,List.mem_cons]
    constructor
    · rintro (h1 | h1)
      · exact .inr h1
      · exact .inl (by omega)
    · rintro (h1 | h1)
      · exact .inr (by omega)
      · exact .inl h1
theorem remOf_set {n:Nat} {t:List Int} (ht:isB n t):remOf n t t.length=(List.range n).map fun c=>(setN t).testBit c:=by
  apply List.ext_getElem
  · rw [remOf_len]; simp
  · intro i h1 h2
    have hi:i < n:=by simpa using h2
    have hr:=rem_remOf n t ht.2 (c:=(i:Int)) ⟨by omega,by omega⟩ t.length (Nat.le_refl _)
    rw [List.take_length] at hr
    unfold rem at hr
    rw [remOf_len,if_pos (by omega),Int.toNat_natCast,getD_get _ _ h1] at hr
    rw [hr]
    simp [setN_bit fun x hx=>(ht.2 x hx).1]
theorem votes_same {n:Nat} {gs:List Grp} {t t':List Int} (ht:isB n t) (ht':isB n t') (h:setN t=setN t'):votesOf n gs t=votesOf n gs t':=by
  unfold votesOf
  rw [remOf_set ht,remOf_set ht',h]
def setTo' (t:List Int) (i:Nat):Nat:=setN ((t.take i).reverse)
theorem setTo'_succ {t:List Int} {i:Nat} (hi:i < t.length):setTo' t (i+1)=setTo' t i ||| 2 ^ (t.getD i 0).toNat:=by
  unfold setTo'
  rw [take_get t 0 hi,List.reverse_append]
  rfl
theorem setN_perm {t t':List Int} (h:∀ x∈t,0≤x) (hp:∀ x,x∈t↔x∈t'):setN t=setN t':=by
  apply Nat.eq_of_testBit_eq
  intro c
  rw [setN_bit h,setN_bit fun x hx=>h x ((hp x).2 hx)]
  exact decide_eq_decide.2 (hp _)
theorem setTo'_all {t:List Int} (h:∀ x∈t,0≤x):setTo' t t.length=setN t:=by
  unfold setTo'
  rw [List.take_length]
  exact setN_perm (fun x hx=>h x (List.mem_reverse.1 hx)) fun x=>List.mem_reverse
def OwnB (w:World) (b:Nat) (T:TypeId) (vs:List Value):Prop:=∃ cur,w.heap[b]? = some (.cells cur T (0,0))∧cur.toList=vs
theorem OwnB.lt {w:World} {b:Nat} {T:TypeId} {vs:List Value} (h:OwnB w b T vs):b < w.heap.size:=by
  obtain ⟨cur,h1,_⟩:=h; exact (Array.getElem?_eq_some_iff.1 h1).1
theorem OwnB.cell {w:World} {b:Nat} {T:TypeId} {vs:List Value} (h:OwnB w b T vs) {i:Nat} (hi:i < vs.length):w.cell? ⟨b,i,none⟩=some vs[i]:=by
  obtain ⟨cur,h1,rfl⟩:=h
  simp only [World.cell?,h1]
  simp at hi
  simp [hi]
theorem OwnB.frozen {w:World} {b:Nat} {T:TypeId} {vs:List Value} (h:OwnB w b T vs) (i:Nat):w.frozen? ⟨b,i,none⟩=false:=by
  obtain ⟨cur,h1,_⟩:=h
  simp [World.frozen?,h1]
theorem OwnB.set {w:World} {b:Nat} {T:TypeId} {vs:List Value} (h:OwnB w b T vs) (i:Nat) (v:Value):OwnB (w.setCell ⟨b,i,none⟩ v) b T (vs.set i v):=by
  obtain ⟨cur,h1,rfl⟩:=h
  exact ⟨_,heap_setCell_same w b i cur T v h1,by simp⟩
theorem OwnB.same {w w':World} {b:Nat} {T:TypeId} {vs:List Value} (h:OwnB w b T vs) (hb:w'.heap[b]? = w.heap[b]?):OwnB w' b T vs:=by
  obtain ⟨cur,h1,h2⟩:=h
  exact ⟨cur,hb.trans h1,h2⟩
theorem OwnB.ext {w w':World} {b:Nat} {T:TypeId} {vs:List Value} (h:OwnB w b T vs) (he:Ext w w'):OwnB w' b T vs:=h.same (he.block b h.lt)
theorem size_setCell (w:World) (a:Addr) (v:Value):(w.setCell a v).heap.size=w.heap.size:=by simp [World.setCell]
theorem ext_setCell {W w:World} (h:Ext W w) {b:Nat} (hb:W.heap.size≤b) (i:Nat) (v:Value):Ext W (w.setCell ⟨b,i,none⟩ v) :=
  ⟨h.os,h.tape,h.output,by rw [size_setCell]; exact h.size,fun c hc=>(heap_setCell_other w ⟨b,i,none⟩ c v (by simp; omega)).trans (h.block c hc)⟩
theorem own_new (w:World) (cs:Array Value) (T:TypeId):OwnB (w.alloc (.cells cs T)) w.heap.size T cs.toList:=⟨cs,World.alloc_heap_new _ _,rfl⟩
end Go.Proofs.YtieoleabnjdkfaaGreat
