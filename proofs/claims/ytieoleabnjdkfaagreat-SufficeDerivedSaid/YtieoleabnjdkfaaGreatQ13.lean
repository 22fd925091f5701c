/- Part 13 of what stands below the statement. -/
import Derived.Deep.OwnRows
import Derived.Test.YtieoleabnjdkfaaGreatQ12
set_option linter.unusedSimpArgs false
set_option linter.unusedVariables false
set_option linter.unnecessarySimpa false
namespace Go.Proofs.YtieoleabnjdkfaaGreat
open Go Go.Proofs Go.RowKit Go.X
open Go.Maps (Keyed)
theorem wpListIn_append_known {F:Fence} {n:Nat} {P:Program} {w:World} {ops:Array Oper} {rest:List Oper} {o:Oper} {a:Act} {Q:Exit→Act→World→Prop}
    (hg:o.guard=none) (s x:Operand) (t:TypeId) (hop:o.op=Op.call { callee:=Callee.builtin Builtin.append,args:=#[s,x],argTypes:=#[t,t] })
    {v u v':Value} {w':World} (hs:a.eval s=v) (hx:a.eval x=u) (hrun:(Builtin.append_ #[t,t] o.type #[v,u]).run P w=.ok v' w') (hK:wpListIn F n P ops Q rest (a.put o.dst v') w'):wpListIn F n P ops Q (o::rest) a w:=by
  refine wpListIn_plain hg fun K hK'=>?_
  unfold Oper.wpIn
  refine ⟨?_,?_⟩
  · simp [Oper.about,hop,resolve,Target.leads,Sem.run_pure]
  · rw [Oper.semAt_plain F _ _ (by rw [hop]; intro c hc'; cases hc')]
    simp [execOp,hop,resolve,invoke,builtin,hs,hx,hrun,Result.andThen]
    exact hK' _ _ hK
theorem kx_grown {X:Nat→Prop} {w w':World} {b:Nat} (h:w.grownBy w' (some b)) (hb:X b):Kx X w w' :=
  ⟨h.os,h.tape,h.output,h.size,fun c hc hx=>h.block c hc fun e=>hx (Option.some.inj e ▸ hb)⟩
theorem lit_wf {x:Int} (h0:-9223372036854775808≤x) (h1:x≤9223372036854775807):(Lit.int .i64 x).wf=true:=by
  have e:∀ a b c d:Bool,a=true→b=true→(a && b)=true:=fun a b _ _ h h'=>by rw [h,h']; rfl
  exact e _ _ true true (decide_eq_true h0) (decide_eq_true h1)
theorem setN_lt' {n:Nat} (hn:n≤7) {t:List Int} (ht:isB n t):setN t < 128:=setN_lt fun x hx=>by have:=ht.2 x hx; omega
theorem VM.store {n:Nat} (hn7:n≤7) {gs:List Grp} {X:Nat→Prop} {w:World} {Mv nv:Nat} (h:VM n gs X w Mv nv) (hn:nv < 1099511627776) (hX:X Mv) {t:List Int} (ht:isB n t) {v:Value} {b:Nat} {d:DataW Unit} {ps:List MemPlace} (hv:Rs v=some (d,ps)) (hs:SI w v (votesOf n gs t) b) (hb:¬ X b) :
    ∃ w',(Instr.mapUpdate 94 (.map (some Mv)) (.int .i64 ((setN t:Nat):Int)) v).run Tryz.prog w=.ok () w'∧VM n gs X w' Mv (nv+1)∧w.grownBy w' (some Mv):=by
  obtain ⟨D,hown,hD⟩:=h
  have hlt:=setN_lt' hn7 ht
  obtain ⟨w',r1,r2,r3⟩:=hown.update (Go.Maps.int_keyed Tryz.underlying3) Tryz.underlying94 (Nat.lt_of_lt_of_le hn (by decide)) (Go.Maps.keyOf_int_mk Tryz.underlying3 (lit_wf (x:=((setN t:Nat):Int)) (by omega) (by omega))) hv
  have hk:=kx_grown (X:=X) r3 hX
  refine ⟨w',r1,⟨_,r2,fun kl hkl=>?_⟩,r3⟩
  by_cases he:kl=.int .i64 ((setN t:Nat):Int)
  · subst he
    exact ⟨t,v,b,ps,ht,rfl,by rw [Go.Maps.atKey_put_same hown.isMap (show WideAt.IsKeyLit (.int .i64 _) from trivial)]; exact hv,hs.keep hk hb,hb⟩
  · rw [Go.Maps.has_put_other he] at hkl
    obtain ⟨t',v',b',ps',q1,q2,q3,q4,q5⟩:=hD kl hkl
    exact ⟨t',v',b',ps',q1,q2,by rw [Go.Maps.atKey_put_other he]; exact q3,q4.keep hk q5,q5⟩
theorem WM.store {n:Nat} {gs:List Grp} {w:World} {Mw nw:Nat} (h:WM n gs w Mw nw) (hn:nw < 1099511627776) {t:List Int} (ht:isB n t) (h0:0 < t.length) (hl:t.length≤7) {s:ByteArray} (hs:s.data.toList=keyB t) {x:Int} (hx:x=(valP n gs 10 t).1) (hx0:-9223372036854775808≤x) (hx1:x≤9223372036854775807) :
    ∃ w',(Instr.mapUpdate 95 (.map (some Mw)) (.string s) (.int .i64 x)).run Tryz.prog w=.ok () w'∧WM n gs w' Mw (nw+1)∧w.grownBy w' (some Mw):=by
  obtain ⟨D,hown,hD⟩:=h
  have hsz:s.size≤maxLen:=by
    have:=congrArg List.length hs
    have h2:s.data.toList.length=s.size:=by simp
    rw [h2] at this
    have h3:(keyB t).length=t.length:=by simp [keyB]
    rw [this,h3]
    exact Nat.le_trans hl (by decide)
  have hkey:keyOf Tryz.prog 9 (.string s)=some (.string (keyB t)):=by rw [← hs]; simp [keyOf,Tryz.underlying9,mapKey,hsz]
  obtain ⟨w',r1,r2,r3⟩:=hown.update (Go.Maps.string_keyed Tryz.underlying9) Tryz.underlying95 (Nat.lt_of_lt_of_le hn (by decide)) hkey (plainElem_int Tryz.underlying3 (lit_wf hx0 hx1))
  refine ⟨w',r1,⟨_,r2,fun kl hkl=>?_⟩,r3⟩
  by_cases he:kl=.string (keyB t)
  · subst he
    exact ⟨t,ht,h0,rfl,by rw [Go.Maps.atKey_put_same hown.isMap (show WideAt.IsKeyLit (.string _) from trivial),hx]⟩
  · rw [Go.Maps.has_put_other he] at hkl
    obtain ⟨t',q1,q2,q3,q4⟩:=hD kl hkl
    exact ⟨t',q1,q2,q3,by rw [Go.Maps.atKey_put_other he]; exact q4⟩
theorem kx_sub {X Y:Nat→Prop} {w w':World} (h:Kx X w w') (hY:∀ b,X b→Y b):Kx Y w w':=⟨h.os,h.tape,h.output,h.size,fun b hb hx=>h.block b hb fun hz=>hx (hY b hz)⟩
theorem SX.votes_put {X:Nat→Prop} {n:Nat} {gs:List Grp} {F:Nat→Prop} {B Mv Mw nv nw nv':Nat} {w w':World} (h:SX X n gs F B Mv Mw nv nw w) (hv:VM n gs X w' Mv nv') (hg:w.grownBy w' (some Mv)):SX X n gs F B Mv Mw nv' nw w':=by
  have hk:Kx X w w':=kx_sub (kx_grown (X:=Xm Mv Mw) hg (.inl rfl)) h.xm
  obtain ⟨gv,bv,c1,c2,c3⟩:=h.cell
  exact ⟨⟨gv,bv,(hk.block B (Array.getElem?_eq_some_iff.1 c1).1 h.bx).trans c1,c2.keep hk h.fx,c3.keep hk⟩,h.fx,h.bx,h.ne,hv,h.vals.keep (hg.block _ h.vals.lt fun e=>h.ne (Option.some.inj e).symm),h.xm⟩
theorem SX.vals_put {X:Nat→Prop} {n:Nat} {gs:List Grp} {F:Nat→Prop} {B Mv Mw nv nw nw':Nat} {w w':World} (h:SX X n gs F B Mv Mw nv nw w) (hv:WM n gs w' Mw nw') (hg:w.grownBy w' (some Mw)):SX X n gs F B Mv Mw nv nw' w':=by
  have hk:Kx X w w':=kx_sub (kx_grown (X:=Xm Mv Mw) hg (.inr rfl)) h.xm
  obtain ⟨gv,bv,c1,c2,c3⟩:=h.cell
  exact ⟨⟨gv,bv,(hk.block B (Array.getElem?_eq_some_iff.1 c1).1 h.bx).trans c1,c2.keep hk h.fx,c3.keep hk⟩,h.fx,h.bx,h.ne,h.votes.keep hk (hg.block _ h.votes.lt fun e=>h.ne (Option.some.inj e)),hv,h.xm⟩
theorem SI.rs {w:World} {v:Value} {xs:List Int} {b:Nat} (h:SI w v xs b):∃ d,Rs v=some (d,[]):=by
  obtain ⟨_,_,_,off,cap,rfl,_⟩:=h
  exact ⟨_,rfl⟩
end Go.Proofs.YtieoleabnjdkfaaGreat
set_option linter.unusedSimpArgs false
set_option linter.unusedVariables false
set_option linter.unnecessarySimpa false
namespace Go.Proofs.YtieoleabnjdkfaaGreat
open Go Go.Proofs Go.RowKit Go.X
open Go.Maps (Keyed)
attribute [local go_sem] Oper.semAt_some
def FrA1 (B:Nat) (tv:Value) (S ln i:Nat) (a:Act):Prop:=∃ (x2 x3 x6 x7 x8 x9 x10 x11 x12 x13 x14 x18 x19 x20 x21 x22 x23 x24 x25 x26 x27 x28 x29 x30 x31 x32 x33 x34 x35 x36 x37 x38 x39 x40 x41 x42 x43 x44 x45 x46 x47 x48 x49 x50 x51 x52 x53 x54 x55 x56 x57 x58 x59 x60 x61 x62 x63 x64 x65 x66 x67:Value),a={ tmps:=#[.pointer (some ⟨B,0,none⟩),tv,x2,x3,.slice none 0 0,.int .i64 (S:Int),x6,x7,x8,x9,x10,x11,x12,x13,x14,tv,.int .i64 (ln:Int),.int .i64 (i:Int),x18,x19,x20,x21,x22,x23,x24,x25,x26,x27,x28,x29,x30,x31,x32,x33,x34,x35,x36,x37,x38,x39,x40,x41,x42,x43,x44,x45,x46,x47,x48,x49,x50,x51,x52,x53,x54,x55,x56,x57,x58,x59,x60,x61,x62,x63,x64,x65,x66,x67],defers:=[] }
theorem FrA1.mk {B:Nat} {tv:Value} {S ln i:Nat} {x2 x3 x6 x7 x8 x9 x10 x11 x12 x13 x14 x18 x19 x20 x21 x22 x23 x24 x25 x26 x27 x28 x29 x30 x31 x32 x33 x34 x35 x36 x37 x38 x39 x40 x41 x42 x43 x44 x45 x46 x47 x48 x49 x50 x51 x52 x53 x54 x55 x56 x57 x58 x59 x60 x61 x62 x63 x64 x65 x66 x67:Value}:FrA1 B tv S ln i { tmps:=#[.pointer (some ⟨B,0,none⟩),tv,x2,x3,.slice none 0 0,.int .i64 (S:Int),x6,x7,x8,x9,x10,x11,x12,x13,x14,tv,.int .i64 (ln:Int),.int .i64 (i:Int),x18,x19,x20,x21,x22,x23,x24,x25,x26,x27,x28,x29,x30,x31,x32,x33,x34,x35,x36,x37,x38,x39,x40,x41,x42,x43,x44,x45,x46,x47,x48,x49,x50,x51,x52,x53,x54,x55,x56,x57,x58,x59,x60,x61,x62,x63,x64,x65,x66,x67],defers:=[] }:=⟨x2,x3,x6,x7,x8,x9,x10,x11,x12,x13,x14,x18,x19,x20,x21,x22,x23,x24,x25,x26,x27,x28,x29,x30,x31,x32,x33,x34,x35,x36,x37,x38,x39,x40,x41,x42,x43,x44,x45,x46,x47,x48,x49,x50,x51,x52,x53,x54,x55,x56,x57,x58,x59,x60,x61,x62,x63,x64,x65,x66,x67,rfl⟩
def FrA2 (B:Nat) (tv rv:Value) (S ln i:Nat) (a:Act):Prop:=∃ (x2 x3 x6 x7 x8 x9 x11 x12 x13 x14 x15 x16 x17 x18 x19 x20 x21 x22 x23 x24 x25 x26 x27 x28 x29 x30 x31 x32 x33 x34 x35 x36 x37 x38 x39 x40 x41 x45 x46 x47 x48 x49 x50 x51 x52 x53 x54 x55 x56 x57 x58 x59 x60 x61 x62 x63 x64 x65 x66 x67:Value),a={ tmps:=#[.pointer (some ⟨B,0,none⟩),tv,x2,x3,.slice none 0 0,.int .i64 (S:Int),x6,x7,x8,x9,rv,x11,x12,x13,x14,x15,x16,x17,x18,x19,x20,x21,x22,x23,x24,x25,x26,x27,x28,x29,x30,x31,x32,x33,x34,x35,x36,x37,x38,x39,x40,x41,tv,.int .i64 (ln:Int),.int .i64 (i:Int),x45,x46,x47,x48,x49,x50,x51,x52,x53,x54,x55,x56,x57,x58,x59,x60,x61,x62,x63,x64,x65,x66,x67],defers:=[] }
theorem FrA2.mk {B:Nat} {tv rv:Value} {S ln i:Nat} {x2 x3 x6 x7 x8 x9 x11 x12 x13 x14 x15 x16 x17 x18 x19 x20 x21 x22 x23 x24 x25 x26 x27 x28 x29 x30 x31 x32 x33 x34 x35 x36 x37 x38 x39 x40 x41 x45 x46 x47 x48 x49 x50 x51 x52 x53 x54 x55 x56 x57 x58 x59 x60 x61 x62 x63 x64 x65 x66 x67:Value}:FrA2 B tv rv S ln i { tmps:=#[.pointer (some ⟨B,0,none⟩),tv,x2,x3,.slice none 0 0,.int .i64 (S:Int),x6,x7,x8,x9,rv,x11,x12,x13,x14,x15,x16,x17,x18,x19,x20,x21,x22,x23,x24,x25,x26,x27,x28,x29,x30,x31,x32,x33,x34,x35,x36,x37,x38,x39,x40,x41,tv,.int .i64 (ln:Int),.int .i64 (i:Int),x45,x46,x47,x48,x49,x50,x51,x52,x53,x54,x55,x56,x57,x58,x59,x60,x61,x62,x63,x64,x65,x66,x67],defers:=[] }:=⟨x2,x3,x6,x7,x8,x9,x11,x12,x13,x14,x15,x16,x17,x18,x19,x20,x21,x22,x23,x24,x25,x26,x27,x28,x29,x30,x31,x32,x33,x34,x35,x36,x37,x38,x39,x40,x41,x45,x46,x47,x48,x49,x50,x51,x52,x53,x54,x55,x56,x57,x58,x59,x60,x61,x62,x63,x64,x65,x66,x67,rfl⟩
theorem info4:(Tryz.prog.info? 4).map (fun i=>(i.zero,i.size,i.bytes))=some (some (.bool false),1,1):=by kernel_rfl
theorem or_eq:∀ S:Nat,S < 128→∀ c:Nat,c < 7→bits .or .i64 (S:Int) (wrap64 (2 ^ c))=((S ||| 2 ^ c:Nat):Int):=by decide +kernel
theorem wf_lt {S:Nat} (h:S < 128):(Lit.int .i64 (S:Int)).wf=true:=by
  have:∀ S:Nat,S < 128→(Lit.int .i64 (S:Int)).wf=true:=by decide +kernel
  exact this S h
set_option maxRecDepth 100000 in
set_option maxHeartbeats 4000000 in
theorem among_ok {n:Nat} (hn:1≤n∧n≤7) {gs:List Grp} {N:Int} (hp:PileOK (n:Int) gs N) {F:Nat→Prop} {B Mv Mw nv nw:Nat} (hnv:nv < 1099511627776) {W:World} {X:Nat→Prop} (hs:SX X n gs F B Mv Mw nv nw W) {tv:Value} {t:List Int} {tb:Nat} (ht:isB n t) (hti:SI W tv t tb) (hXl:∀ b,X b→b < W.heap.size) :
    Calls Tryz.prog 90 #[.pointer (some ⟨B,0,none⟩),tv] W fun e W'=>∃ v b,e=.returned v∧SI W' v (votesOf n gs t) b∧¬ X b∧SX X n gs F B Mv Mw (nv+1) nw W'∧Kx (Xm Mv Mw) W W':=by
  have htl:t.length≤7:=isB_len ht (by omega)
  have hin:∀ c:Int,0≤c→c≤1000→IntKind.i64.wrap c=c:=fun c h0 h1=>w_id (by omega) (by omega)
  obtain ⟨_,_,htb,off,tc,rfl,htc,hcell⟩:=id hti
  have f118:Fence.wide.fn 118:=trivial
  have fd:Fence.wide.depth=none:=rfl
  refine (callsIn_wide (n:=0)).1 (callsIn_of_wp Tryz.func90 rfl trivial ?_ rfl)
  simp only [Tryz.ntmps90,List.size_toArray,List.length_cons,List.length_nil,Nat.reduceAdd,Nat.reduceSub,Array.replicate_succ,Array.replicate_zero,List.push_toArray,List.append_toArray,List.nil_append,List.cons_append]
  obtain ⟨gv,bv,hcb,hga,hbt⟩:=hs.cell
  have cs0:W.cell? ⟨B,0,none⟩=some (.int .i64 n):=by simp [World.cell?,hcb]
  have cs1:W.cell? ⟨B,1,none⟩=some gv:=by simp [World.cell?,hcb]
  have cs3:W.cell? ⟨B,3,none⟩=some (.map (some Mv)):=by simp [World.cell?,hcb]
  gi_wp2
  refine wpIn_wide.2 (loop_inv (R:=fun m a w=>∃ i:Nat,i≤t.length∧m=t.length - i∧w=W∧FrA1 B (.slice (some ⟨tb,off,none⟩) t.length tc) (setTo' t i) t.length i a) (m:=t.length) ?step1 ?init1)
  case init1=>exact ⟨0,by omega,by omega,rfl,FrA1.mk⟩
  case step1 =>
    rintro m a w ⟨i,hi,rfl,rfl,x2,x3,x6,x7,x8,x9,x10,x11,x12,x13,x14,x18,x19,x20,x21,x22,x23,x24,x25,x26,x27,x28,x29,x30,x31,x32,x33,x34,x35,x36,x37,x38,x39,x40,x41,x42,x43,x44,x45,x46,x47,x48,x49,x50,x51,x52,x53,x54,x55,x56,x57,x58,x59,x60,x61,x62,x63,x64,x65,x66,x67,rfl⟩
    refine (wpIn_wide (n:=0)).1 ?_
    have hS:setTo' t i < 128:=setN_lt fun x hx=>by have:=ht.2 x (List.mem_of_mem_take (List.mem_reverse.1 hx)); omega
    rcases Nat.lt_or_ge i t.length with hlt | hge
    · have hlt':(i:Int) < (t.length:Int):=by omega
      have hwi:IntKind.i64.wrap ((i:Int)+1)=((i+1:Nat):Int):=by rw [hin _ (by omega) (by omega)]; omega
      have hc:=hcell i hlt
      have hbd:=ht.2 t[i] (List.getElem_mem hlt)
      have hor:=setTo'_succ hlt
      rw [getD_get t 0 hlt] at hor
      generalize hcx:t[i]=c at hc hbd hor
      gi_wp2
      refine ⟨t.length - (i+1),by omega,i+1,by omega,rfl,trivial,?_⟩
      rw [or_eq _ hS c.toNat (by omega),← hor]
      exact FrA1.mk
    · obtain rfl:i=t.length:=by omega
      have hge':¬ ((t.length:Nat):Int) < (t.length:Int):=by omega
      obtain ⟨D,hown,hD⟩:=hs.votes
      obtain ⟨v0,ps0,hrun,hv0⟩:=hown.look_ok (Go.Maps.int_keyed Tryz.underlying3) Tryz.underlying94 (Tryz.zeroValue26 w) (show Rs (.slice none 0 0)=some (.agg [.lit (.int .i64 0),.lit (.int .i64 0)],[]) from rfl) (Go.Maps.keyOf_int_mk Tryz.underlying3 (show (Lit.int .i64 (setTo' t t.length:Nat)).wf=true from wf_lt hS))
      have hSe:setTo' t t.length=setN t:=setTo'_all fun x hx=>(ht.2 x hx).1
      rw [hSe] at hrun hv0
      cases hhas:Go.Maps.has D (.int .i64 (setN t:Nat)) with
      | true =>
        rw [hhas] at hrun
        obtain ⟨t',v1,b1,ps1,q1,q2,q3,q4,q5⟩:=hD _ hhas
        have hv1:=Rs_inj hv0 q3
        subst hv1
        gi_wp2
        have hset:setN t=setN t':=by simp at q2; omega
        exact ⟨rfl,v0,results_tmp (t:=4) rfl _ _ _,v0,rfl,b1,by rw [votes_same ht q1 hset]; exact q4,q5,hs.mono (by omega) (Nat.le_refl _),Kx.refl _ _⟩
      | false =>
        rw [hhas] at hrun
        have hmk:=run_make_row' (P:=Tryz.prog) 81 4 (.bool false) 1 Tryz.underlying81 info4 rfl .i64 .i64 n (by omega) (by omega)
        have hext0:=Ext.alloc w (.cells (madeCells #[.bool false] n) 4)
        have hnew0:=own_new w (madeCells #[.bool false] n) 4
        obtain ⟨w0,hw0⟩:∃ w0,w.alloc (.cells (madeCells #[.bool false] n) 4)=w0:=⟨_,rfl⟩
        have hsz0:w0.heap.size=w.heap.size+1:=by rw [← hw0]; simp
        rw [hw0] at hext0 hnew0
        gi_wp2
        refine wpIn_wide.2 (loop_inv (R:=fun m a w'=>∃ i:Nat,i≤t.length∧m=t.length - i∧Ext w w'∧w'.heap.size=w.heap.size+1∧OwnB w' w.heap.size 4 ((remOf n t i).map Value.bool)∧FrA2 B (.slice (some ⟨tb,off,none⟩) t.length tc) (.slice (some ⟨w.heap.size,0,none⟩) n n) (setN t) t.length i a) (m:=t.length) ?step2 ?init2)
        case init2 =>
          refine ⟨0,by omega,by omega,hext0,hsz0,?_,FrA2.mk⟩
          have:(madeCells #[Value.bool false] n).toList=(remOf n t 0).map Value.bool:=by
            unfold remOf madeCells
            apply List.ext_getElem
            · simp
            · intro j j1 j2
              simp [Nat.mod_one]
          rw [← this]
          exact hnew0
        case step2 =>
          rintro m a w' ⟨i,hi,rfl,hx',hsz',hown',x2,x3,x6,x7,x8,x9,x11,x12,x13,x14,x15,x16,x17,x18,x19,x20,x21,x22,x23,x24,x25,x26,x27,x28,x29,x30,x31,x32,x33,x34,x35,x36,x37,x38,x39,x40,x41,x45,x46,x47,x48,x49,x50,x51,x52,x53,x54,x55,x56,x57,x58,x59,x60,x61,x62,x63,x64,x65,x66,x67,rfl⟩
          refine (wpIn_wide (n:=0)).1 ?_
          rcases Nat.lt_or_ge i t.length with hlt | hge
          · have hlt':(i:Int) < (t.length:Int):=by omega
            have hwi:IntKind.i64.wrap ((i:Int)+1)=((i+1:Nat):Int):=by rw [hin _ (by omega) (by omega)]; omega
            have hc0:=hcell i hlt
            have hc:w'.cell? ⟨tb,off+i,none⟩=some (.int .i64 t[i]):=(World.cell?_of_block (w:=w) (a:=⟨tb,off+i,none⟩) (hx'.block tb htb)).trans hc0
            have hbd:=ht.2 t[i] (List.getElem_mem hlt)
            have hrem:remOf n t (i+1)=(remOf n t i).set (t[i]).toNat true:=by
              show (remOf n t i).set (Int.toNat (t.getD i 0)) true=_
              rw [getD_get t 0 hlt]
            have hrl:=remOf_len n t i
            generalize hcx:t[i]=c at hc hbd hrem
            obtain ⟨cn,rfl⟩:∃ cn:Nat,c=(cn:Int):=⟨c.toNat,by omega⟩
            have hcl:cn < ((remOf n t i).map Value.bool).length:=by rw [List.length_map,hrl]; omega
            have hcell2:=hown'.cell hcl
            have hfz:=hown'.frozen cn
            have hcn:(cn:Int) < (n:Int):=by omega
            gi_wp2
            refine ⟨t.length - (i+1),by omega,i+1,by omega,rfl,ext_setCell hx' (Nat.le_refl _) _ _,by rw [size_setCell]; exact hsz',?_,FrA2.mk⟩
            have:=hown'.set cn (.bool true)
            rw [hrem,Int.toNat_natCast,List.map_set]
            exact this
          · obtain rfl:i=t.length:=by omega
            have hge':¬ ((t.length:Nat):Int) < (t.length:Int):=by omega
            have hBlt:B < w.heap.size:=(Array.getElem?_eq_some_iff.1 hcb).1
            have hMv:=hs.votes.lt
            have hMw:=hs.vals.lt
            have hs':=hs.ext hx'
            have hcb':=(hx'.block B hBlt).trans hcb
            have cs1':w'.cell? ⟨B,1,none⟩=some gv:=by simp [World.cell?,hcb']
            have hsb:SB w' (.slice (some ⟨w.heap.size,0,none⟩) n n) (remOf n t t.length) w.heap.size:=by
              have hrl:=remOf_len n t t.length
              refine ⟨by omega,hown'.lt,n,by rw [hrl],by omega,fun j hj=>?_⟩
              have:=hown'.cell (i:=j) (by simpa using hj)
              simpa using this
            have hga':=hga.keep (Kx.of_ext (X:=fun _=>False) hx') fun _ _ h=>h
            have c118:=con118 hp (by omega) (r:=remOf n t t.length) (by rw [remOf_len]; omega) (by rw [remOf_len]; omega) hga' hsb
            gi_wp2_with (first
              | (gi_at_call 118; refine (callsIn_wide.2 c118).mono ?_; rintro e w2 ⟨v2,b2,rfl,hsi2,he2,hb2⟩; have hs2:=hs'.ext he2; have hcb2:=(he2.block B (Nat.lt_of_lt_of_le hBlt hx'.size)).trans hcb'; have cs3':w2.cell? ⟨B,3,none⟩=some (.map (some Mv)):=by simp [World.cell?,hcb2]
                 have hb2x:¬ X b2:=fun h=>by
                   rcases hb2 with hb | hb | hb
                   · exact hs.fx _ hb h
                   · have:=hXl _ h; omega
                   · have:=hXl _ h; have:=hx'.size; omega
                 obtain ⟨d2,hrs2⟩:=hsi2.rs
                 obtain ⟨w3,hr3,hv3,hg3⟩:=hs2.votes.store (by omega) hnv (hs.xm _ (.inl rfl)) ht hrs2 hsi2 hb2x))
            exact ⟨rfl,v2,results_tmp (t:=4) rfl _ _ _,v2,b2,rfl,hsi2.keep (kx_grown (X:=X) hg3 (hs.xm _ (.inl rfl))) hb2x,hb2x,hs2.votes_put hv3 hg3,((Kx.of_ext hx').trans (Kx.of_ext he2)).trans (kx_grown hg3 (.inl rfl))⟩
end Go.Proofs.YtieoleabnjdkfaaGreat
set_option linter.unusedSimpArgs false
set_option linter.unusedVariables false
set_option linter.unnecessarySimpa false
namespace Go.Proofs.YtieoleabnjdkfaaGreat
open Go Go.Proofs Go.RowKit Go.X
open Go.Maps (Keyed)
attribute [local go_sem] Oper.semAt_some
theorem grown_of_ext {w w':World} (h:Ext w w') (r:Option Nat):w.grownBy w' r:=⟨h.os,h.tape,h.output,h.size,fun b hb _=>h.block b hb⟩
theorem ext_of_grown {W w w':World} {r:Option Nat} (h:Ext W w) (hg:w.grownBy w' r) (hr:∀ b,r=some b→W.heap.size≤b):Ext W w' :=
  ⟨hg.os.trans h.os,hg.tape.trans h.tape,hg.output.trans h.output,Nat.le_trans h.size hg.size,fun b hb=>(hg.block b (Nat.lt_of_lt_of_le hb h.size) fun e=>by have:=hr b e.symm; omega).trans (h.block b hb)⟩
theorem row_same {w w':World} {base:Nat} {e:TypeId} {size:Nat} {v:Value} {n:Nat} {xs:List Value} (h:w.ownsRow base e size v n xs) (hb:∀ b,v.ownBlock=some b→w'.heap[b]? = w.heap[b]?):w'.ownsRow base e size v n xs:=by
  obtain ⟨h1,h2⟩:=h
  refine ⟨h1,h2.imp id ?_⟩
  rintro ⟨g,cap,cur,rfl,r2,r3,r4⟩
  exact ⟨g,cap,cur,rfl,r2,(hb g rfl).trans r3,r4⟩
def rowTo (n:Nat) (gs:List Grp) (a i:Nat):List Int:=(List.range n).map fun b=>if b < i then (if a=b then 0 else mrg n gs (1,(a:Int),(b:Int),[],0)) else 0
theorem rowTo_len (n:Nat) (gs:List Grp) (a i:Nat):(rowTo n gs a i).length=n:=by simp [rowTo]
theorem rowTo_zero (n:Nat) (gs:List Grp) (a:Nat):rowTo n gs a 0=List.replicate n 0:=by
  apply List.ext_getElem <;> simp [rowTo]
theorem rowTo_all (n:Nat) (gs:List Grp) (a:Nat):rowTo n gs a n=rowB n gs a:=by
  apply List.ext_getElem
  · simp [rowTo,rowB]
  · intro j h1 h2
    have:j < n:=by simpa [rowTo] using h1
    simp [rowTo,rowB,this]
theorem rowTo_succ {n:Nat} (gs:List Grp) (a:Nat) {i:Nat} (hi:i < n):rowTo n gs a (i+1)=(rowTo n gs a i).set i (if a=i then 0 else mrg n gs (1,(a:Int),(i:Int),[],0)):=by
  apply List.ext_getElem
  · simp [rowTo]
  · intro j h1 h2
    have hj:j < n:=by simpa [rowTo] using h1
    rw [List.getElem_set]
    by_cases h:i=j
    · subst h; simp [rowTo]
    · rw [if_neg h]
      by_cases hlt:j < i
      · simp [rowTo,hlt,show j < i+1 by omega]
      · simp [rowTo,hlt,show ¬ j < i+1 by omega]
theorem rowTo_eq {n:Nat} (gs:List Grp) {a:Nat} (ha:a < n):rowTo n gs a (a+1)=rowTo n gs a a:=by
  rw [rowTo_succ gs a ha,if_pos rfl]
  apply List.ext_getElem
  · simp
  · intro j h1 h2
    rw [List.getElem_set]
    by_cases h:a=j
    · subst h; simp [rowTo]
    · rw [if_neg h]
theorem info26:(Tryz.prog.info? 26).map (fun i=>(i.zero,i.size,i.bytes))=some (some (.slice none 0 0),1,24):=by kernel_rfl
def FrN1 (B n:Nat) (gv:Value) (i:Nat) (a:Act):Prop:=∃ (x2 x3 x6 x7 x8 x9 x10 x11 x12 x13 x14 x17 x18 x19 x20 x21 x22 x23 x24 x25 x26 x27 x28 x29 x30 x31 x32 x33 x34 x35 x36 x37 x38 x39 x40 x41 x42 x43 x44 x45 x46 x47 x48 x49:Value),a={ tmps:=#[.int .i64 (n:Int),gv,x2,x3,.pointer none,.pointer (some ⟨B,0,none⟩),x6,x7,x8,x9,x10,x11,x12,x13,x14,.int .i64 (n:Int),.int .i64 (i:Int),x17,x18,x19,x20,x21,x22,x23,x24,x25,x26,x27,x28,x29,x30,x31,x32,x33,x34,x35,x36,x37,x38,x39,x40,x41,x42,x43,x44,x45,x46,x47,x48,x49],defers:=[] }
theorem FrN1.mk {B n:Nat} {gv:Value} {i:Nat} {x2 x3 x6 x7 x8 x9 x10 x11 x12 x13 x14 x17 x18 x19 x20 x21 x22 x23 x24 x25 x26 x27 x28 x29 x30 x31 x32 x33 x34 x35 x36 x37 x38 x39 x40 x41 x42 x43 x44 x45 x46 x47 x48 x49:Value}:FrN1 B n gv i { tmps:=#[.int .i64 (n:Int),gv,x2,x3,.pointer none,.pointer (some ⟨B,0,none⟩),x6,x7,x8,x9,x10,x11,x12,x13,x14,.int .i64 (n:Int),.int .i64 (i:Int),x17,x18,x19,x20,x21,x22,x23,x24,x25,x26,x27,x28,x29,x30,x31,x32,x33,x34,x35,x36,x37,x38,x39,x40,x41,x42,x43,x44,x45,x46,x47,x48,x49],defers:=[] }:=⟨x2,x3,x6,x7,x8,x9,x10,x11,x12,x13,x14,x17,x18,x19,x20,x21,x22,x23,x24,x25,x26,x27,x28,x29,x30,x31,x32,x33,x34,x35,x36,x37,x38,x39,x40,x41,x42,x43,x44,x45,x46,x47,x48,x49,rfl⟩
def FrN2 (B n:Nat) (gv rv:Value) (i j:Nat) (a:Act):Prop:=∃ (x2 x3 x8 x9 x10 x11 x12 x13 x14 x17 x18 x19 x20 x23 x24 x25 x26 x27 x28 x29 x30 x31 x32 x33 x34 x35 x36 x37 x38 x39 x40 x41 x42 x43 x44 x45 x46 x47 x48 x49:Value),a={ tmps:=#[.int .i64 (n:Int),gv,x2,x3,.pointer none,.pointer (some ⟨B,0,none⟩),.int .i64 (i:Int),rv,x8,x9,x10,x11,x12,x13,x14,.int .i64 (n:Int),.int .i64 (i:Int),x17,x18,x19,x20,.int .i64 (n:Int),.int .i64 (j:Int),x23,x24,x25,x26,x27,x28,x29,x30,x31,x32,x33,x34,x35,x36,x37,x38,x39,x40,x41,x42,x43,x44,x45,x46,x47,x48,x49],defers:=[] }
theorem FrN2.mk {B n:Nat} {gv rv:Value} {i j:Nat} {x2 x3 x8 x9 x10 x11 x12 x13 x14 x17 x18 x19 x20 x23 x24 x25 x26 x27 x28 x29 x30 x31 x32 x33 x34 x35 x36 x37 x38 x39 x40 x41 x42 x43 x44 x45 x46 x47 x48 x49:Value}:FrN2 B n gv rv i j { tmps:=#[.int .i64 (n:Int),gv,x2,x3,.pointer none,.pointer (some ⟨B,0,none⟩),.int .i64 (i:Int),rv,x8,x9,x10,x11,x12,x13,x14,.int .i64 (n:Int),.int .i64 (i:Int),x17,x18,x19,x20,.int .i64 (n:Int),.int .i64 (j:Int),x23,x24,x25,x26,x27,x28,x29,x30,x31,x32,x33,x34,x35,x36,x37,x38,x39,x40,x41,x42,x43,x44,x45,x46,x47,x48,x49],defers:=[] }:=⟨x2,x3,x8,x9,x10,x11,x12,x13,x14,x17,x18,x19,x20,x23,x24,x25,x26,x27,x28,x29,x30,x31,x32,x33,x34,x35,x36,x37,x38,x39,x40,x41,x42,x43,x44,x45,x46,x47,x48,x49,rfl⟩
def RW (n:Nat) (gs:List Grp) (base i:Nat) (bv:Value) (w:World):Prop:=∃ rows:List Value,w.ownsRow base 26 1 bv i rows∧∀ a,a < i→∃ rb,rows[a]? = some (.slice (some ⟨rb,0,none⟩) n n)∧OwnB w rb 3 ((rowB n gs a).map (Value.int .i64))∧base≤rb∧∀ x∈rowB n gs a,wI x
theorem RW.nil (n:Nat) (gs:List Grp) (base:Nat) (w:World):RW n gs base 0 (.slice none 0 0) w:=⟨[],World.ownsRow_nil _ _ _ _,fun a ha=>absurd ha (by omega)⟩
theorem RW.add {n:Nat} {gs:List Grp} {base i:Nat} {bv v2:Value} {w w2 w3:World} {rows:List Value} {rb:Nat} (hrow:w.ownsRow base 26 1 bv i rows) (hrows:∀ a,a < i→∃ rb,rows[a]? = some (.slice (some ⟨rb,0,none⟩) n n)∧OwnB w rb 3 ((rowB n gs a).map (Value.int .i64))∧base≤rb∧∀ x∈rowB n gs a,wI x)
    (hnew:OwnB w rb 3 ((rowB n gs i).map (Value.int .i64))) (hrb:base≤rb) (hw:∀ x∈rowB n gs i,wI x) (hown2:w2.ownsRow base 26 1 v2 (i+1) (rows++[.slice (some ⟨rb,0,none⟩) n n])) (hg:w.grownBy w2 bv.ownBlock) (h3:∀ b,base≤b→w3.heap[b]? = w2.heap[b]?):RW n gs base (i+1) v2 w3:=by
  have hk:∀ r vs,OwnB w r 3 vs→base≤r→OwnB w3 r 3 vs:=fun r vs h hr=>by
    refine (h.same (hg.block r h.lt fun e=>?_)).same (h3 r hr)
    obtain ⟨cur,h1,_⟩:=h
    obtain ⟨_,h2⟩:=hrow
    rcases h2 with ⟨rfl,_⟩ | ⟨g,cap,cur',rfl,_,r3,_⟩
    · cases e
    · have:r=g:=Option.some.inj e
      subst this
      rw [h1] at r3
      cases r3
  have hl:rows.length=i:=by have:=hrow.1; omega
  refine ⟨_,row_same hown2 fun b e=>h3 b (hown2.lt b e).1,fun a ha=>?_⟩
  by_cases h:a < i
  · obtain ⟨r,q1,q2,q3,q4⟩:=hrows a h
    exact ⟨r,by rw [List.getElem?_append_left (by omega)]; exact q1,hk _ _ q2 q3,q3,q4⟩
  · obtain rfl:a=i:=by omega
    exact ⟨rb,by rw [← hl,List.getElem?_concat_length],hk _ _ hnew hrb,hrb,hw⟩
def NSt (n:Nat) (gs:List Grp) (gv:Value) (W:World) (i:Nat) (w:World):Prop:=Ext W w∧∃ bv,w.heap[W.heap.size+2]? = some (.cells #[.int .i64 n,gv,bv,.map (some W.heap.size),.map (some (W.heap.size+1))] 97 (0,0))∧RW n gs (W.heap.size+3) i bv w ∧
  w.heap[W.heap.size]? = some (.map #[] 0)∧w.heap[W.heap.size+1]? = some (.map #[] 0)
set_option maxRecDepth 100000 in
set_option maxHeartbeats 4000000 in
theorem newSearch_ok {n:Nat} (hn:1≤n∧n≤7) {gs:List Grp} (hgs:GsOK gs) {F:Nat→Prop} {W:World} {gv:Value} (hg:GA F W gv gs) :
    Calls Tryz.prog 37 #[.int .i64 n,gv] W fun e W'=>e=.returned (.pointer (some ⟨W.heap.size+2,0,none⟩))∧SQ n gs F (W.heap.size+2) W.heap.size (W.heap.size+1) 0 0 W'∧Ext W W':=by
  have hin:∀ c:Int,0≤c→c≤1000→IntKind.i64.wrap c=c:=fun c h0 h1=>w_id (by omega) (by omega)
  refine (callsIn_wide (n:=0)).1 (callsIn_of_wp Tryz.func37 rfl trivial ?_ rfl)
  simp only [Tryz.ntmps37,List.size_toArray,List.length_cons,List.length_nil,Nat.reduceAdd,Nat.reduceSub,Array.replicate_succ,Array.replicate_zero,List.push_toArray,List.append_toArray,List.nil_append,List.cons_append]
  have e1:=Ext.alloc W (.map #[] 0)
  have e2:=Ext.alloc (W.alloc (.map #[] 0)) (.map #[] 0)
  have e3:=Ext.alloc ((W.alloc (.map #[] 0)).alloc (.map #[] 0)) (.cells #[.int .i64 n,gv,.slice none 0 0,.map (some W.heap.size),.map (some (W.heap.size+1))] 97)
  have hgv:∃ ga gl gc,gv=.slice ga gl gc:=by
    obtain ⟨_,_,a,len,cap,h,_⟩:=hg.rel.1
    exact ⟨a,len,cap,by simpa [vcells,Ty.agg] using h⟩
  obtain ⟨ga,gl,gc,rfl⟩:=hgv
  have hmm:=@run_makeMap Tryz.prog
  have fd:Fence.wide.depth=none:=rfl
  have f51:Fence.wide.fn 51:=trivial
  gi_wp2
  refine wpIn_wide.2 (loop_inv (R:=fun m a w=>∃ i:Nat,i≤n∧m=n - i∧NSt n gs (.slice ga gl gc) W i w∧FrN1 (W.heap.size+2) n (.slice ga gl gc) i a) (m:=n) ?step1 ?init1)
  case init1 =>
    refine ⟨0,by omega,by omega,?_,FrN1.mk⟩
    have hxx:=(e1.trans e2).trans e3
    refine ⟨hxx,_,by rw [show W.heap.size+2=((W.alloc (.map #[] 0)).alloc (.map #[] 0)).heap.size from by simp,World.alloc_heap_new],RW.nil _ _ _ _,?_,?_⟩
    · exact (e3.block _ (by simp; omega)).trans ((e2.block _ (by simp)).trans (World.alloc_heap_new _ _))
    · have:=World.alloc_heap_new (W.alloc (.map #[] 0)) (.map #[] 0)
      rw [World.size_alloc] at this
      exact (e3.block _ (by simp)).trans this
  case step1 =>
    rintro m a w ⟨i,hi,rfl,⟨hx,bv,hB,hrw,hM1,hM2⟩,x2,x3,x6,x7,x8,x9,x10,x11,x12,x13,x14,x17,x18,x19,x20,x21,x22,x23,x24,x25,x26,x27,x28,x29,x30,x31,x32,x33,x34,x35,x36,x37,x38,x39,x40,x41,x42,x43,x44,x45,x46,x47,x48,x49,rfl⟩
    refine (wpIn_wide (n:=0)).1 ?_
    rcases Nat.lt_or_ge i n with hlt | hge
    · have hlt':(i:Int) < (n:Int):=by omega
      have hwi:IntKind.i64.wrap ((i:Int)+1)=((i+1:Nat):Int):=by rw [hin _ (by omega) (by omega)]; omega
      have hmk:=run_make_row' (P:=Tryz.prog) 26 3 (.int .i64 0) 8 Tryz.underlying26 info3 rfl .i64 .i64 n (by omega) (by omega)
      have hext0:=Ext.alloc w (.cells (madeCells #[.int .i64 0] n) 3)
      have hnew0:=own_new w (madeCells #[.int .i64 0] n) 3
      have hsz0:(w.alloc (.cells (madeCells #[.int .i64 0] n) 3)).heap.size=w.heap.size+1:=by simp
      obtain ⟨w0,hw0⟩:∃ w0,w.alloc (.cells (madeCells #[.int .i64 0] n) 3)=w0:=⟨_,rfl⟩
      rw [hw0] at hext0 hnew0 hsz0
      gi_wp2
      refine wpIn_wide.2 (loop_inv (R:=fun m a w'=>∃ j:Nat,j≤n∧m=n - j∧Ext w w'∧w.heap.size+1≤w'.heap.size∧OwnB w' w.heap.size 3 ((rowTo n gs i j).map (Value.int .i64))∧(∀ x∈rowTo n gs i j,wI x)∧FrN2 (W.heap.size+2) n (.slice ga gl gc) (.slice (some ⟨w.heap.size,0,none⟩) n n) i j a) (m:=n) ?step2 ?init2)
      case init2 =>
        refine ⟨0,by omega,by omega,hext0,by omega,?_,fun x hx=>?_,FrN2.mk⟩
        · have:(madeCells #[Value.int .i64 0] n).toList=(rowTo n gs i 0).map (Value.int .i64):=by
            rw [rowTo_zero]
            unfold madeCells
            apply List.ext_getElem
            · simp
            · intro j j1 j2
              simp [Nat.mod_one]
          rw [← this]
          exact hnew0
        · rw [rowTo_zero] at hx
          rw [(List.mem_replicate.1 hx).2]
          decide
      case step2 =>
        rintro m a w' ⟨j,hj,rfl,hx',hsz',hown',hwi',x2,x3,x8,x9,x10,x11,x12,x13,x14,x17,x18,x19,x20,x23,x24,x25,x26,x27,x28,x29,x30,x31,x32,x33,x34,x35,x36,x37,x38,x39,x40,x41,x42,x43,x44,x45,x46,x47,x48,x49,rfl⟩
        refine (wpIn_wide (n:=0)).1 ?_
        have hBlt:W.heap.size+2 < w.heap.size:=(Array.getElem?_eq_some_iff.1 hB).1
        rcases Nat.lt_or_ge j n with hjlt | hjge
        · have hjlt':(j:Int) < (n:Int):=by omega
          have hwj:IntKind.i64.wrap ((j:Int)+1)=((j+1:Nat):Int):=by rw [hin _ (by omega) (by omega)]; omega
          by_cases hij:i=j
          · subst hij
            gi_wp2
            exact ⟨n - (i+1),by omega,i+1,by omega,rfl,hx',hsz',by rw [rowTo_eq gs hlt]; exact hown',by rw [rowTo_eq gs hlt]; exact hwi',FrN2.mk⟩
          · have hij':¬ (i:Int)=(j:Int):=by omega
            have c51:=con51 (n:=(n:Int)) (x:=(i:Int)) (y:=(j:Int)) hgs (hin _ (by omega) (by omega)) (hin _ (by omega) (by omega)) (hin _ (by omega) (by omega)) (hg.keep (Kx.of_ext (X:=fun _=>False) (hx.trans hx')) fun _ _ h=>h)
            have hcl:j < ((rowTo n gs i j).map (Value.int .i64)).length:=by rw [List.length_map,rowTo_len]; exact hjlt
            have hrs:=rowTo_succ gs i hjlt
            rw [if_neg hij] at hrs
            gi_wp2_with (first
              | (gi_at_call 51; refine (callsIn_wide.2 c51).mono ?_; rintro e w2 ⟨rfl,he2,hwm⟩; have hown2:=hown'.ext he2; have hcell2:=hown2.cell hcl; have hfz2:=hown2.frozen j))
            refine ⟨n - (j+1),by omega,j+1,by omega,rfl,ext_setCell (hx'.trans he2) (Nat.le_refl _) _ _,by rw [size_setCell]; exact Nat.le_trans hsz' he2.size,?_,fun x hx=>?_,FrN2.mk⟩
            · rw [hrs,List.map_set]
              exact hown2.set j _
            · rw [hrs] at hx
              rcases List.mem_or_eq_of_mem_set hx with h | h
              · exact hwi' x h
              · rw [h]; exact hwm
        · obtain rfl:j=n:=by omega
          have hjge':¬ ((j:Nat):Int) < (j:Int):=by omega
          rw [rowTo_all] at hown' hwi'
          have hB':=(hx'.block _ hBlt).trans hB
          have cB2:w'.cell? ⟨W.heap.size+2,2,none⟩=some bv:=by simp [World.cell?,hB']
          obtain ⟨rows,hrow,hrows⟩:=hrw
          have eA:=Ext.alloc w' (.cells #[.slice (some ⟨w.heap.size,0,none⟩) j j] 26)
          have hnA:=World.alloc_heap_new w' (.cells #[.slice (some ⟨w.heap.size,0,none⟩) j j] 26)
          obtain ⟨wA,hwA⟩:∃ wA,w'.alloc (.cells #[.slice (some ⟨w.heap.size,0,none⟩) j j] 26)=wA:=⟨_,rfl⟩
          rw [hwA] at eA hnA
          have hxA:=(hx.trans hx').trans eA
          have hrowA:wA.ownsRow (W.heap.size+3) 26 1 bv i rows:=hrow.kept (grown_of_ext (hx'.trans eA) none) (by cases bv.ownBlock <;> simp)
          obtain ⟨i0,hi1,hz0,hz1,hz2⟩:=info_parts info26
          obtain ⟨v2,w2,hr2,hown2,hgr2,_⟩:=run_append_own (P:=Tryz.prog) wA (W.heap.size+3) 27 27 26 i0 (.slice none 0 0) 1 24 Tryz.underlying27 hi1 hz0 hz1 hz2 rfl (by decide) bv i rows hrowA ⟨w'.heap.size,0,none⟩ 1 1 [.slice (some ⟨w.heap.size,0,none⟩) j j] rfl
            (fun k u hu=>by
              have hk:k=0:=by have:=(List.getElem?_eq_some_iff.1 hu).1; simpa using this
              subst hk
              simp at hu
              subst hu
              simp [World.cell?,Addr.add,hnA]) (fun u hu=>by rw [List.mem_singleton.1 hu]; rfl) (by unfold maxLen; omega) (by omega) (by have:=hxA.size; have:=hx.size; have:=eA.size; have:=hx'.size; omega)
          obtain ⟨g2,c2,rfl⟩:∃ g c,v2=.slice (some ⟨g,0,none⟩) (i+1) c:=by
            rcases hown2.2 with ⟨_,h0⟩ | ⟨g,cap,cur,h,_⟩
            · omega
            · exact ⟨g,cap,h⟩
          have hB2:w2.heap[W.heap.size+2]? = _:=(hgr2.block _ (by have:=eA.size; have:=hx'.size; omega) fun e=>by have:=(hrowA.lt _ e.symm).1; omega).trans ((eA.block _ (by have:=hx'.size; omega)).trans hB')
          have cB3:w2.cell? ⟨W.heap.size+2,2,none⟩=some bv:=by simp [World.cell?,hB2]
          have fB3:w2.frozen? ⟨W.heap.size+2,2,none⟩=false:=by simp [World.frozen?,hB2]
          gi_wp2_with (first
            | (gi_at_builtin; refine wpListIn_append_known rfl _ _ 27 rfl rfl rfl hr2 ?_))
          refine ⟨j - (i+1),by omega,i+1,by omega,rfl,⟨ext_setCell (ext_of_grown hxA hgr2 fun b e=>by have:=(hrowA.lt b e).1; omega) (by omega) _ _,.slice (some ⟨g2,0,none⟩) (i+1) c2,?_,?_,?_,?_⟩,FrN1.mk⟩
          · rw [heap_setCell_same _ _ _ _ _ _ hB2]; rfl
          · exact RW.add (rb:=w.heap.size) hrowA (fun a ha=>by obtain ⟨r,q1,q2,q3⟩:=hrows a ha; exact ⟨r,q1,(q2.ext hx').ext eA,q3⟩) (hown'.ext eA) (by omega) hwi' hown2 hgr2 fun b hb=>heap_setCell_other _ _ _ _ (by simp; omega)
          · rw [heap_setCell_other _ _ _ _ (by simp)]
            exact (hgr2.block _ (by have:=eA.size; have:=hx'.size; omega) fun e=>by have:=(hrowA.lt _ e.symm).1; omega).trans ((eA.block _ (by have:=hx'.size; omega)).trans ((hx'.block _ (by omega)).trans hM1))
          · rw [heap_setCell_other _ _ _ _ (by simp)]
            exact (hgr2.block _ (by have:=eA.size; have:=hx'.size; omega) fun e=>by have:=(hrowA.lt _ e.symm).1; omega).trans ((eA.block _ (by have:=hx'.size; omega)).trans ((hx'.block _ (by omega)).trans hM2))
    · obtain rfl:i=n:=by omega
      have hge':¬ ((i:Nat):Int) < (i:Int):=by omega
      gi_wp2
      refine ⟨rfl,_,results_tmp (t:=4) rfl _ _ _,rfl,⟨⟨_,bv,hB,hg.keep (Kx.of_ext (X:=fun _=>False) hx) fun _ _ h=>h,?_⟩,fun b hb=>?_,?_,?_,?_,?_,fun b h=>h⟩,hx⟩
      · obtain ⟨rows,⟨hr1,hr2⟩,hrows⟩:=hrw
        rcases hr2 with ⟨_,h0⟩ | ⟨g,cap,cur,rfl,r2,r3,r4,r5,r6,r7⟩
        · omega
        · refine ⟨g,cap,cur,26,rfl,r4,r3,fun h=>by rcases h with h | h <;> omega,fun a ha=>?_⟩
          obtain ⟨rb,q1,q2,q3,q4⟩:=hrows a ha
          refine ⟨_,rb,?_,⟨by simp [rowB]; omega,q4,q2.lt,0,i,rfl,by simp [rowB],fun k hk=>?_⟩,fun h=>by rcases h with h | h <;> omega⟩
          · rw [show (rowB i gs a).length=i from by simp [rowB],← q1,← r7,Nat.mul_one,List.getElem?_take,if_pos ha,Array.getElem?_toList]
          · have:=q2.cell (i:=k) (by simpa using hk)
            simpa using this
      · rintro (h | h)
        · have:=hg.lt b hb; omega
        · have:=hg.lt b hb; omega
      · rintro (h | h) <;> omega
      · omega
      · exact ⟨.map [],⟨#[],0,hM1,⟨by simp,Go.MapKept.stamped_empty 0,by simp⟩,Nat.le_refl _,rfl⟩,fun kl hkl=>by cases hkl⟩
      · exact ⟨.map [],⟨#[],0,hM2,⟨by simp,Go.MapKept.stamped_empty 0,by simp⟩,Nat.le_refl _,rfl⟩,fun kl hkl=>by cases hkl⟩
end Go.Proofs.YtieoleabnjdkfaaGreat
set_option linter.unusedSimpArgs false
set_option linter.unusedVariables false
set_option linter.unnecessarySimpa false
namespace Go.Proofs.YtieoleabnjdkfaaGreat
open Go Go.Proofs Go.RowKit Go.X
open Go.Maps (Keyed)
attribute [local go_sem] Oper.semAt_some
theorem KI.of_row {w:World} {v:Value} {xs:List Int} {base k:Nat} (h:w.ownsRow base 3 1 v k (xs.map (Value.int .i64))) (h0:0 < xs.length) (hl:xs.length≤1000) (hw:∀ x∈xs,wI x):∃ b,base≤b∧v.ownBlock=some b∧KI w v xs b:=by
  obtain ⟨h1,h2⟩:=h
  rw [List.length_map,Nat.mul_one] at h1
  rcases h2 with ⟨_,e⟩ | ⟨g,cap,cur,rfl,r2,r3,r4,r5,r6,r7⟩
  · omega
  · subst h1
    refine ⟨g,r2,rfl,hl,hw,cap,cur,rfl,r4,r3,fun i hi=>?_⟩
    have:=congrArg (fun l=>l[i]?) r7
    simp only [Nat.mul_one,List.getElem?_take,if_pos hi,List.getElem?_map,List.getElem?_eq_getElem hi,Option.map_some,Array.getElem?_toList] at this
    exact this
def LL (base:Nat) (v:Value) (ts:List (List Int)) (w:World):Prop:=∃ rows:List Value,w.ownsRow base 26 1 v ts.length rows∧∀ (a:Nat) (h:a < ts.length),∃ cv cb,rows[a]? = some cv∧KI w cv ts[a] cb∧base≤cb
theorem LL.nil (base:Nat) (w:World):LL base (.slice none 0 0) [] w:=⟨[],World.ownsRow_nil _ _ _ _,fun a ha=>absurd ha (by simp)⟩
theorem LL.same {base:Nat} {v:Value} {ts:List (List Int)} {w w':World} (h:LL base v ts w) (hb:∀ b,base≤b→b < w.heap.size→w'.heap[b]? = w.heap[b]?):LL base v ts w':=by
  obtain ⟨rows,h1,h2⟩:=h
  refine ⟨rows,row_same h1 fun b e=>hb b (h1.lt b e).1 (h1.lt b e).2,fun a ha=>?_⟩
  obtain ⟨cv,cb,q1,q2,q3⟩:=h2 a ha
  exact ⟨cv,cb,q1,q2.same (hb cb q3 q2.lt),q3⟩
theorem LL.ext {base:Nat} {v:Value} {ts:List (List Int)} {w w':World} (h:LL base v ts w) (he:Ext w w'):LL base v ts w':=h.same fun b _ hb=>he.block b hb
theorem LL.add {base:Nat} {v v2:Value} {ts:List (List Int)} {t:List Int} {w w2:World} {rows:List Value} {cv:Value} {cb:Nat} (hrow:w.ownsRow base 26 1 v ts.length rows) (hrows:∀ (a:Nat) (h:a < ts.length),∃ cv cb,rows[a]? = some cv∧KI w cv ts[a] cb∧base≤cb)
    (hnew:KI w cv t cb) (hcb:base≤cb) (hown2:w2.ownsRow base 26 1 v2 (ts.length+1) (rows++[cv])) (hg:w.grownBy w2 v.ownBlock):LL base v2 (ts++[t]) w2:=by
  have hk:∀ r cv xs,KI w cv xs r→KI w2 cv xs r:=fun r cv xs h=>by
    refine h.same (hg.block r h.lt fun e=>?_)
    obtain ⟨_,_,_,cur,_,_,h1,_⟩:=h
    obtain ⟨_,h2⟩:=hrow
    rcases h2 with ⟨rfl,_⟩ | ⟨g,cap,cur',rfl,_,r3,_⟩
    · cases e
    · have:r=g:=Option.some.inj e
      subst this
      rw [h1] at r3
      cases r3
  have hl:rows.length=ts.length:=by have:=hrow.1; omega
  refine ⟨_,by rw [List.length_append,List.length_singleton]; exact hown2,fun a ha=>?_⟩
  by_cases h:a < ts.length
  · obtain ⟨cv',r,q1,q2,q3⟩:=hrows a h
    exact ⟨cv',r,by rw [List.getElem?_append_left (by omega)]; exact q1,by rw [List.getElem_append_left h]; exact hk _ _ _ q2,q3⟩
  · obtain rfl:a=ts.length:=by simp at ha; omega
    exact ⟨cv,cb,by rw [← hl,List.getElem?_concat_length],by simpa using hk _ _ _ hnew,hcb⟩
def chT (t:List Int) (i:Nat):List (List Int):=((idL i).filter fun x=>decide (x ∉ t)).map (·::t)
theorem chT_succ (t:List Int) (i:Nat):chT t (i+1)=if (i:Int)∈t then chT t i else chT t i++[(i:Int)::t]:=by
  unfold chT
  rw [idL_succ,List.filter_append,List.map_append]
  by_cases h:(i:Int)∈t <;> simp [h]
theorem chT_len (t:List Int) (i:Nat):(chT t i).length≤i:=by
  unfold chT
  rw [List.length_map]
  exact Nat.le_trans (List.length_filter_le _ _) (by simp [idL])
def FrC1 (B n:Nat) (tv ov:Value) (i:Nat) (a:Act):Prop:=∃ (x2 x3 x6 x7 x8 x9 x12 x13 x14 x15 x16 x17 x18 x19 x20 x21 x22 x23 x24 x25 x26:Value),a={ tmps:=#[.pointer (some ⟨B,0,none⟩),tv,x2,x3,.slice none 0 0,ov,x6,x7,x8,x9,.int .i64 (n:Int),.int .i64 (i:Int),x12,x13,x14,x15,x16,x17,x18,x19,x20,x21,x22,x23,x24,x25,x26],defers:=[] }
theorem FrC1.mk {B n:Nat} {tv ov:Value} {i:Nat} {x2 x3 x6 x7 x8 x9 x12 x13 x14 x15 x16 x17 x18 x19 x20 x21 x22 x23 x24 x25 x26:Value}:FrC1 B n tv ov i { tmps:=#[.pointer (some ⟨B,0,none⟩),tv,x2,x3,.slice none 0 0,ov,x6,x7,x8,x9,.int .i64 (n:Int),.int .i64 (i:Int),x12,x13,x14,x15,x16,x17,x18,x19,x20,x21,x22,x23,x24,x25,x26],defers:=[] }:=⟨x2,x3,x6,x7,x8,x9,x12,x13,x14,x15,x16,x17,x18,x19,x20,x21,x22,x23,x24,x25,x26,rfl⟩
set_option maxRecDepth 100000 in
set_option maxHeartbeats 4000000 in
theorem children_ok {n:Nat} (hn:1≤n∧n≤7) {B:Nat} {W:World} {gv bv mv mw:Value} (hB:W.heap[B]? = some (.cells #[.int .i64 n,gv,bv,mv,mw] 97 (0,0))) {tv:Value} {t:List Int} {tb:Nat} (ht:isB n t) (hti:SI W tv t tb) :
    Calls Tryz.prog 66 #[.pointer (some ⟨B,0,none⟩),tv] W fun e W'=>∃ v,e=.returned v∧LL W.heap.size v ((chL n t).map (·::t)) W'∧Ext W W':=by
  have htl:t.length≤7:=isB_len ht (by omega)
  have hin:∀ c:Int,0≤c→c≤1000→IntKind.i64.wrap c=c:=fun c h0 h1=>w_id (by omega) (by omega)
  obtain ⟨_,_,htb,off,tc,rfl,htc,hcell⟩:=id hti
  refine (callsIn_wide (n:=0)).1 (callsIn_of_wp Tryz.func66 rfl trivial ?_ rfl)
  simp only [Tryz.ntmps66,List.size_toArray,List.length_cons,List.length_nil,Nat.reduceAdd,Nat.reduceSub,Array.replicate_succ,Array.replicate_zero,List.push_toArray,List.append_toArray,List.nil_append,List.cons_append]
  have fd:Fence.wide.depth=none:=rfl
  have f58:Fence.wide.fn 58:=trivial
  have cs0:W.cell? ⟨B,0,none⟩=some (.int .i64 n):=by simp [World.cell?,hB]
  gi_wp2
  refine wpIn_wide.2 (loop_inv (R:=fun m a w=>∃ (i:Nat) (ov:Value),i≤n∧m=n - i∧Ext W w∧LL W.heap.size ov (chT t i) w∧FrC1 B n (.slice (some ⟨tb,off,none⟩) t.length tc) ov i a) (m:=n) ?step1 ?init1)
  case init1=>exact ⟨0,_,by omega,by omega,Ext.refl _,LL.nil _ _,FrC1.mk⟩
  case step1 =>
    rintro m a w ⟨i,ov,hi,rfl,hx,hll,x2,x3,x6,x7,x8,x9,x12,x13,x14,x15,x16,x17,x18,x19,x20,x21,x22,x23,x24,x25,x26,rfl⟩
    refine (wpIn_wide (n:=0)).1 ?_
    rcases Nat.lt_or_ge i n with hlt | hge
    · have hlt':(i:Int) < (n:Int):=by omega
      have hwi:IntKind.i64.wrap ((i:Int)+1)=((i+1:Nat):Int):=by rw [hin _ (by omega) (by omega)]; omega
      have htw:SI w (.slice (some ⟨tb,off,none⟩) t.length tc) t tb:=hti.keep (Kx.of_ext (X:=fun _=>False) hx) id
      have c58:=con58 (c:=(i:Int)) (hin _ (by omega) (by omega)) htw
      have hcs:=chT_succ t i
      by_cases hmem:(i:Int)∈t
      · simp only [hmem,decide_true] at c58
        rw [if_pos hmem] at hcs
        gi_wp2_with (first
          | (gi_at_call 58; refine (callsIn_wide.2 c58).mono ?_; rintro e w2 ⟨rfl,he2⟩))
        exact ⟨n - (i+1),by omega,i+1,ov,by omega,rfl,hx.trans he2,by rw [hcs]; exact hll.ext he2,FrC1.mk⟩
      · simp only [hmem,decide_false] at c58
        rw [if_neg hmem] at hcs
        obtain ⟨i0,hi1,hz0,hz1,hz2⟩:=info_parts info3
        obtain ⟨j0,hj1,hy0,hy1,hy2⟩:=info_parts info26
        gi_wp2_with (first
          | (gi_at_call 58; refine (callsIn_wide.2 c58).mono ?_; rintro e w2 ⟨rfl,he2⟩
             have hx2:=hx.trans he2
             have hti2:=htw.keep (Kx.of_ext (X:=fun _=>False) he2) id
             have hll2:=hll.ext he2
             have eA:=Ext.alloc w2 (.cells #[.int .i64 (i:Int)] 3)
             have hnA:=World.alloc_heap_new w2 (.cells #[.int .i64 (i:Int)] 3)
             have hsA:(w2.alloc (.cells #[.int .i64 (i:Int)] 3)).heap.size=w2.heap.size+1:=by simp
             obtain ⟨wA,hwA⟩:∃ wA,w2.alloc (.cells #[.int .i64 (i:Int)] 3)=wA:=⟨_,rfl⟩
             rw [hwA] at eA hnA hsA
             have hrA:wA.ownsRow w2.heap.size 3 1 (.slice (some ⟨w2.heap.size,0,none⟩) 1 1) 1 [.int .i64 (i:Int)]:=⟨rfl,.inr ⟨w2.heap.size,1,#[.int .i64 (i:Int)],rfl,Nat.le_refl _,hnA,Nat.le_refl _,by decide,rfl,rfl⟩⟩
             obtain ⟨q1,q2,q3,off',tc',q4,q5,q6⟩:=hti2
             obtain ⟨v3,w3,hr3,hown3,hgr3,_⟩:=run_append_own (P:=Tryz.prog) wA w2.heap.size 26 26 3 i0 (.int .i64 0) 1 8 Tryz.underlying26 hi1 hz0 hz1 hz2 rfl (by decide) _ 1 _ hrA ⟨tb,off,none⟩ t.length tc (t.map (Value.int .i64)) (by simp)
               (fun k u hu=>by
                 rw [List.getElem?_map] at hu
                 obtain ⟨x,hx1,rfl⟩:=Option.map_eq_some_iff.1 hu
                 obtain ⟨hx2,rfl⟩:=List.getElem?_eq_some_iff.1 hx1
                 have e1:off'=off:=by simp at q4; omega
                 subst e1
                 have:=q6 k hx2
                 rw [addr_add]
                 exact (World.cell?_of_block (w:=w2) (a:=⟨tb,off'+k,none⟩) (eA.block tb q3)).trans this) (fun u hu=>by obtain ⟨x,_,rfl⟩:=List.mem_map.1 hu; rfl) (by unfold maxLen; omega) (by omega) (by omega)
             have hx3:Ext W w3:=ext_of_grown (hx2.trans eA) hgr3 fun b e=>by have:w2.heap.size=b:=Option.some.inj e; have:=hx2.size; omega
             have hown3':w3.ownsRow w2.heap.size 3 1 v3 (1+t.length) (((i:Int)::t).map (Value.int .i64)):=hown3
             obtain ⟨cb,hcb1,hcb2,hKI⟩:=KI.of_row hown3' (by simp) (by rw [List.length_cons]; omega) (fun x hx=>by rcases List.mem_cons.1 hx with rfl | hx; exact hin _ (by omega) (by omega); exact q2 x hx)
             have hll3:LL W.heap.size ov (chT t i) w3:=hll2.same fun b hb1 hb2=>(hgr3.block b (Nat.lt_of_lt_of_le hb2 eA.size) fun e=>by have:b=w2.heap.size:=Option.some.inj e; omega).trans (eA.block b hb2)
             have eB:=Ext.alloc w3 (.cells #[v3] 26)
             have hnB:=World.alloc_heap_new w3 (.cells #[v3] 26)
             have hsB:(w3.alloc (.cells #[v3] 26)).heap.size=w3.heap.size+1:=by simp
             obtain ⟨wB,hwB⟩:∃ wB,w3.alloc (.cells #[v3] 26)=wB:=⟨_,rfl⟩
             rw [hwB] at eB hnB hsB
             obtain ⟨rows,hrow,hrows⟩:=hll3.ext eB
             have hone:v3.oneCell'=true:=by obtain ⟨_,_,cap,cur,rfl,_⟩:=hKI; rfl
             obtain ⟨v4,w4,hr4,hown4,hgr4,_⟩:=run_append_own (P:=Tryz.prog) wB W.heap.size 27 27 26 j0 (.slice none 0 0) 1 24 Tryz.underlying27 hj1 hy0 hy1 hy2 rfl (by decide) ov _ rows hrow ⟨w3.heap.size,0,none⟩ 1 1 [v3] rfl
               (fun k u hu=>by
                 have hk:k=0:=by have:=(List.getElem?_eq_some_iff.1 hu).1; simpa using this
                 subst hk
                 simp at hu
                 subst hu
                 simp [World.cell?,Addr.add,hnB]) (fun u hu=>by rw [List.mem_singleton.1 hu]; exact hone) (by have:=chT_len t i; unfold maxLen; omega) (by have:=chT_len t i; omega) (by have:=hx3.size; omega)
             have hx4:Ext W w4:=ext_of_grown (hx3.trans eB) hgr4 fun b e=>(hrow.lt b e).1
             have hll4:=LL.add hrow hrows (hKI.ext eB) (Nat.le_trans hx2.size hcb1) hown4 hgr4
             rw [← hcs] at hll4
             obtain ⟨_,_,kc,kcur,hv3,_⟩:=id hKI
             have hv3':v3=.slice (some ⟨cb,0,none⟩) (t.length+1) kc:=hv3
             clear hv3
             subst hv3'
             clear hKI hown3 hown3' hrA)
          | (gi_at_builtin; refine wpListIn_append_known rfl _ _ 26 rfl rfl rfl hr3 ?_)
          | (gi_at_builtin; refine wpListIn_append_known rfl _ _ 27 rfl rfl rfl hr4 ?_))
        exact ⟨n - (i+1),by omega,i+1,v4,by omega,rfl,hx4,hll4,FrC1.mk⟩
    · obtain rfl:i=n:=by omega
      have hge':¬ ((i:Nat):Int) < (i:Int):=by omega
      gi_wp2
      exact ⟨rfl,_,results_tmp (t:=4) rfl _ _ _,_,rfl,hll,hx⟩
end Go.Proofs.YtieoleabnjdkfaaGreat
set_option linter.unusedSimpArgs false
set_option linter.unusedVariables false
set_option linter.unnecessarySimpa false
namespace Go.Proofs.YtieoleabnjdkfaaGreat
open Go Go.Proofs Go.RowKit Go.X
open Go.Maps (Keyed)
attribute [local go_sem] Oper.semAt_some
theorem undef_no (f:Bool→Option Bool) (g:Unit→Option Bool):yielded.match_1 (fun _=>Option Bool) (some undef) f (fun _=>none)=none:=rfl
attribute [local go_sem] undef_no
def AC (a:Asn) (sv:Value):List Value:=[.int .i64 a.1,.int .i64 a.2.1,.int .i64 a.2.2.1,sv,.int .i64 a.2.2.2.2]
def AW (a:Asn):Prop:=wI a.1∧wI a.2.1∧wI a.2.2.1∧wI a.2.2.2.2
structure BX (X:Nat→Prop) (w:World) (Bb:Nat) (st:Asn × (Int × Bool)):Prop where
  best:∃ sv,OwnB w Bb 49 (AC st.1 sv)∧SL X w sv st.1.2.2.2.1∧AW st.1
  margin:OwnB w (Bb+1) 3 [.int .i64 st.2.1]
  found:OwnB w (Bb+2) 4 [.bool st.2.2]
def Xb (Bb:Nat) (b:Nat):Prop:=b=Bb∨b=Bb+1∨b=Bb+2
theorem BX.ext {X:Nat→Prop} {w w':World} {Bb:Nat} {st:Asn × (Int × Bool)} (h:BX X w Bb st) (he:Ext w w'):BX X w' Bb st:=by
  obtain ⟨⟨sv,h1,h2,h3⟩,h4,h5⟩:=h
  exact ⟨⟨sv,h1.ext he,h2.keep (Kx.of_ext he),h3⟩,h4.ext he,h5.ext he⟩
theorem BX.keep {X Y:Nat→Prop} {w w':World} {Bb:Nat} {st:Asn × (Int × Bool)} (h:BX X w Bb st) (hk:Kx Y w w') (hY:∀ b,Y b→X b) (hb:∀ b,Xb Bb b→¬ Y b):BX X w' Bb st:=by
  obtain ⟨⟨sv,h1,h2,h3⟩,h4,h5⟩:=h
  have hk':Kx X w w':=⟨hk.os,hk.tape,hk.output,hk.size,fun b hb hx=>hk.block b hb fun h=>hx (hY b h)⟩
  exact ⟨⟨sv,h1.same (hk.block _ h1.lt (hb _ (.inl rfl))),h2.keep hk',h3⟩,h4.same (hk.block _ h4.lt (hb _ (.inr (.inl rfl)))),h5.same (hk.block _ h5.lt (hb _ (.inr (.inr rfl))))⟩
theorem kx_set {Y:Nat→Prop} {W w:World} (h:Kx Y W w) {b:Nat} (hb:Y b) (i:Nat) (v:Value):Kx Y W (w.setCell ⟨b,i,none⟩ v) :=
  ⟨h.os,h.tape,h.output,by rw [size_setCell]; exact h.size,fun c hc hx=>by
    rw [heap_setCell_other _ _ _ _ (show ¬ c=(⟨b,i,none⟩:Addr).block from fun e=>hx (by rw [e]; exact hb))]
    exact h.block c hc hx⟩
theorem own_other {w:World} {b':Nat} {T:TypeId} {vs:List Value} (h:OwnB w b' T vs) {b:Nat} (hne:¬ b'=b) (i:Nat) (v:Value):OwnB (w.setCell ⟨b,i,none⟩ v) b' T vs :=
  h.same (heap_setCell_other _ _ _ _ hne)
theorem own_set5 {w:World} {b:Nat} {T:TypeId} {v0 v1 v2 v3 v4 u0 u1 u2 u3 u4:Value} (h:OwnB w b T [v0,v1,v2,v3,v4]) :
    OwnB (((((w.setCell ⟨b,0,none⟩ u0).setCell ⟨b,1,none⟩ u1).setCell ⟨b,2,none⟩ u2).setCell ⟨b,3,none⟩ u3).setCell ⟨b,4,none⟩ u4) b T [u0,u1,u2,u3,u4] :=
  ((((h.set 0 u0).set 1 u1).set 2 u2).set 3 u3).set 4 u4
set_option maxRecDepth 100000 in
set_option maxHeartbeats 4000000 in
theorem take_ok {X:Nat→Prop} {W:World} {Bb:Nat} {st:Asn × (Int × Bool)} (hb:BX X W Bb st) (hX:∀ b,Xb Bb b→X b) {av:Value} {a:Asn} {m:Int} (ha:AV X W av a) (hla:a.2.2.2.1.length≤1000) (hls:st.1.2.2.2.1.length≤1000) :
    Calls Tryz.prog 89 #[av,.int .i64 m,.pointer (some ⟨Bb+2,0,none⟩),.pointer (some ⟨Bb+1,0,none⟩),.pointer (some ⟨Bb,0,none⟩)] W fun e W'=>(∃ v,e=.returned v)∧BX X W' Bb (bstep st (a,m))∧Kx (Xb Bb) W W':=by
  obtain ⟨sv,hav,hsl,haw0,haw1,haw2,haw4⟩:=ha
  subst hav
  obtain ⟨⟨bs,hbb,hbs,hbw⟩,hbm,hbf⟩:=hb
  obtain ⟨sa,sl,sc,rfl⟩:∃ sa sl sc,sv=.slice sa sl sc:=hsl.slice
  obtain ⟨ba,bl,bc,rfl⟩:∃ sa sl sc,bs=.slice sa sl sc:=hbs.slice
  refine (callsIn_wide (n:=0)).1 (callsIn_of_wp Tryz.func89 rfl trivial ?_ rfl)
  simp only [Tryz.ntmps89,List.size_toArray,List.length_cons,List.length_nil,Nat.reduceAdd,Nat.reduceSub,Array.replicate_succ,Array.replicate_zero,List.push_toArray,List.append_toArray,List.nil_append,List.cons_append]
  have fd:Fence.wide.depth=none:=rfl
  have f40:Fence.wide.fn 40:=trivial
  have e1:=Ext.alloc W (.cells #[.int .i64 a.1,.int .i64 a.2.1,.int .i64 a.2.2.1,(.slice sa sl sc),.int .i64 a.2.2.2.2] 49)
  have n1:=own_new W #[.int .i64 a.1,.int .i64 a.2.1,.int .i64 a.2.2.1,(.slice sa sl sc),.int .i64 a.2.2.2.2] 49
  obtain ⟨w1,hw1⟩:∃ w1,W.alloc (.cells #[.int .i64 a.1,.int .i64 a.2.1,.int .i64 a.2.2.1,(.slice sa sl sc),.int .i64 a.2.2.2.2] 49)=w1:=⟨_,rfl⟩
  rw [hw1] at e1 n1
  have d0:=n1.cell (i:=0) (by simp)
  have d1:=n1.cell (i:=1) (by simp)
  have d2:=n1.cell (i:=2) (by simp)
  have d3:=n1.cell (i:=3) (by simp)
  have d4:=n1.cell (i:=4) (by simp)
  simp at d0 d1 d2 d3 d4
  have b1:=hbb.ext e1
  have c0:=b1.cell (i:=0) (by simp [AC])
  have c1:=b1.cell (i:=1) (by simp [AC])
  have c2:=b1.cell (i:=2) (by simp [AC])
  have c3:=b1.cell (i:=3) (by simp [AC])
  have c4:=b1.cell (i:=4) (by simp [AC])
  simp [AC] at c0 c1 c2 c3 c4
  have m1:=hbm.ext e1
  have cm:=m1.cell (i:=0) (by simp)
  have r1:=hbf.ext e1
  have cf:=r1.cell (i:=0) (by simp)
  simp at cm cf
  have zb:=b1.frozen
  have zm:=m1.frozen 0
  have zf:=r1.frozen 0
  have avA:AV X w1 (.agg #[.int .i64 a.1,.int .i64 a.2.1,.int .i64 a.2.2.1,(.slice sa sl sc),.int .i64 a.2.2.2.2]) a:=⟨_,rfl,hsl.keep (Kx.of_ext e1),haw0,haw1,haw2,haw4⟩
  have avB:AV X w1 (.agg #[.int .i64 st.1.1,.int .i64 st.1.2.1,.int .i64 st.1.2.2.1,(.slice ba bl bc),.int .i64 st.1.2.2.2.2]) st.1:=⟨_,rfl,hbs.keep (Kx.of_ext e1),hbw.1,hbw.2.1,hbw.2.2.1,hbw.2.2.2⟩
  have c40:=con40 avA avB hla hls
  have finB:∀ W2,Ext w1 W2→∃ W3,W3=(((((((W2.setCell ⟨Bb,0,none⟩ (.int .i64 a.1)).setCell ⟨Bb,1,none⟩ (.int .i64 a.2.1)).setCell ⟨Bb,2,none⟩ (.int .i64 a.2.2.1)).setCell ⟨Bb,3,none⟩ (.slice sa sl sc)).setCell ⟨Bb,4,none⟩ (.int .i64 a.2.2.2.2)).setCell ⟨Bb+1,0,none⟩ (.int .i64 m)).setCell ⟨Bb+2,0,none⟩ (.bool true))∧BX X W3 Bb (a,m,true)∧Kx (Xb Bb) W W3:=fun W2 h2=>by
    have y0:Xb Bb Bb:=.inl rfl
    have y1:Xb Bb (Bb+1):=.inr (.inl rfl)
    have y2:Xb Bb (Bb+2):=.inr (.inr rfl)
    have hk:=kx_set (kx_set (kx_set (kx_set (kx_set (kx_set (kx_set (Kx.of_ext (X:=Xb Bb) (e1.trans h2)) y0 0 (.int .i64 a.1)) y0 1 (.int .i64 a.2.1)) y0 2 (.int .i64 a.2.2.1)) y0 3 (.slice sa sl sc)) y0 4 (.int .i64 a.2.2.2.2)) y1 0 (.int .i64 m)) y2 0 (.bool true)
    have hb5:=own_other (own_other (own_set5 (u0:=.int .i64 a.1) (u1:=.int .i64 a.2.1) (u2:=.int .i64 a.2.2.1) (u3:=.slice sa sl sc) (u4:=.int .i64 a.2.2.2.2) (b1.ext h2)) (b:=Bb+1) (by omega) 0 (.int .i64 m)) (b:=Bb+2) (by omega) 0 (.bool true)
    have hn1:¬ Bb+1=Bb:=by omega
    have hn2:¬ Bb+2=Bb:=by omega
    have hm5:=own_other ((own_other (own_other (own_other (own_other (own_other (m1.ext h2) hn1 0 (.int .i64 a.1)) hn1 1 (.int .i64 a.2.1)) hn1 2 (.int .i64 a.2.2.1)) hn1 3 (.slice sa sl sc)) hn1 4 (.int .i64 a.2.2.2.2)).set 0 (.int .i64 m)) (b:=Bb+2) (by omega) 0 (.bool true)
    have hf5:=(own_other (own_other (own_other (own_other (own_other (own_other (r1.ext h2) hn2 0 (.int .i64 a.1)) hn2 1 (.int .i64 a.2.1)) hn2 2 (.int .i64 a.2.2.1)) hn2 3 (.slice sa sl sc)) hn2 4 (.int .i64 a.2.2.2.2)) (b:=Bb+1) (by omega) 0 (.int .i64 m)).set 0 (.bool true)
    refine ⟨_,rfl,?_,hk⟩
    revert hk hb5 hm5 hf5
    generalize (((((((W2.setCell ⟨Bb,0,none⟩ (.int .i64 a.1)).setCell ⟨Bb,1,none⟩ (.int .i64 a.2.1)).setCell ⟨Bb,2,none⟩ (.int .i64 a.2.2.1)).setCell ⟨Bb,3,none⟩ (.slice sa sl sc)).setCell ⟨Bb,4,none⟩ (.int .i64 a.2.2.2.2)).setCell ⟨Bb+1,0,none⟩ (.int .i64 m)).setCell ⟨Bb+2,0,none⟩ (.bool true))=W3
    intro hk hb5 hm5 hf5
    have hkX:Kx X W W3:=⟨hk.os,hk.tape,hk.output,hk.size,fun b hb hx=>hk.block b hb fun h=>hx (hX b h)⟩
    exact ⟨⟨_,hb5,hsl.keep hkX,haw0,haw1,haw2,haw4⟩,hm5,hf5⟩
  have hb0:BX X W Bb st:=⟨⟨_,hbb,hbs,hbw⟩,hbm,hbf⟩
  cases hfd:st.2.2 with
  | false =>
    have hst:bstep st (a,m)=(a,m,true):=by unfold bstep better; rw [hfd]; rfl
    rw [hfd] at cf
    rw [hst]
    clear c40
    gi_wp2
    obtain ⟨W3,rfl,h31,h32⟩:=finB w1 (Ext.refl _)
    exact ⟨rfl,_,results_none rfl _ _ _,⟨_,rfl⟩,h31,h32⟩
  | true => 
    rw [hfd] at cf
    by_cases hgt:st.2.1 < m
    · have hst:bstep st (a,m)=(a,m,true):=by unfold bstep better; rw [hfd]; simp [hgt]
      rw [hst]
      clear c40
      gi_wp2
      obtain ⟨W3,rfl,h31,h32⟩:=finB w1 (Ext.refl _)
      exact ⟨rfl,_,results_none rfl _ _ _,⟨_,rfl⟩,h31,h32⟩
    · by_cases heq:m=st.2.1
      · subst heq
        by_cases hcm:cmpA a st.1 < 0
        · have hst:bstep st (a,st.2.1)=(a,st.2.1,true):=by unfold bstep better; rw [hfd]; simp [hcm]
          rw [hst]
          gi_wp2_with (first
            | (gi_at_call 40; refine (callsIn_wide.2 c40).mono ?_; rintro e w2 ⟨rfl,he2⟩
               have b2:=b1.ext he2
               have g0:=b2.cell (i:=0) (by simp [AC])
               have g1:=b2.cell (i:=1) (by simp [AC])
               have g2:=b2.cell (i:=2) (by simp [AC])
               have g3:=b2.cell (i:=3) (by simp [AC])
               have g4:=b2.cell (i:=4) (by simp [AC])
               simp [AC] at g0 g1 g2 g3 g4
               have n2:=n1.ext he2
               have k0:=n2.cell (i:=0) (by simp)
               have k1:=n2.cell (i:=1) (by simp)
               have k2:=n2.cell (i:=2) (by simp)
               have k3:=n2.cell (i:=3) (by simp)
               have k4:=n2.cell (i:=4) (by simp)
               simp at k0 k1 k2 k3 k4
               have gm:=(m1.ext he2).cell (i:=0) (by simp)
               have gf:=(r1.ext he2).cell (i:=0) (by simp)
               simp at gm gf
               have yb:=b2.frozen
               have ym:=(m1.ext he2).frozen 0
               have yf:=(r1.ext he2).frozen 0))
          obtain ⟨W3,rfl,h31,h32⟩:=finB w2 he2
          exact ⟨rfl,_,results_none rfl _ _ _,⟨_,rfl⟩,h31,h32⟩
        · have hst:bstep st (a,st.2.1)=st:=by unfold bstep better; rw [hfd]; simp [hcm]
          rw [hst]
          gi_wp2_with (first
            | (gi_at_call 40; refine (callsIn_wide.2 c40).mono ?_; rintro e w2 ⟨rfl,he2⟩))
          exact ⟨rfl,_,results_none rfl _ _ _,⟨_,rfl⟩,hb0.ext (e1.trans he2),Kx.of_ext (e1.trans he2)⟩
      · have hst:bstep st (a,m)=st:=by unfold bstep better; rw [hfd]; simp [heq,hgt]
        rw [hst]
        clear c40
        gi_wp2
        exact ⟨rfl,_,results_none rfl _ _ _,⟨_,rfl⟩,hb0.ext e1,Kx.of_ext e1⟩
end Go.Proofs.YtieoleabnjdkfaaGreat
set_option linter.unusedSimpArgs false
set_option linter.unusedVariables false
namespace Go.Proofs.YtieoleabnjdkfaaGreat
open Go Go.Proofs Go.RowKit Go.X
theorem vote_get {n:Nat} (hn:1≤n∧n≤7) {gs:List Grp} {N:Int} (h:PileOK (n:Int) gs N) {t:List Int} (ht:isB n t) {c:Int} (hc:0≤c∧c < (n:Int)):(votesOf n gs t).getD c.toNat 0=wsum (isTopM (risL t) c) gs:=by
  unfold votesOf
  have hrl:=remOf_len n t t.length
  rw [votesAt_get _ _ (by rw [hrl]; omega),show ((c.toNat:Nat):Int)=c by omega]
  refine wsum_congr fun x hx=>?_
  have hb:=(h.ballots x hx).1
  have:firstAt (rem (remOf n t t.length)) x.1=firstAt (fun y=>decide (y∈risL t)) x.1:=firstAt_congr fun y hy=>by
    rw [rem_remOf n t (fun z hz=>by have:=ht.2 z hz; omega) (by have:=hb.2 y hy; omega) t.length (Nat.le_refl _),List.take_length]
    refine decide_eq_decide.2 ⟨fun h'=>risL_mem.2 ⟨?_,h'⟩,fun h'=>(risL_mem.1 h').2⟩
    have:=ht.2 y h'
    omega
  unfold isTop isTopM
  rw [this]
theorem votes_mrg {n:Nat} (hn:1≤n∧n≤7) {gs:List Grp} {N:Int} (h:PileOK (n:Int) gs N) {t0:Int} {r:List Int} (ht:isB n (t0::r)) {x:Int} (hx:x∈r) :
    (votesOf n gs (t0::r)).getD t0.toNat 0 - (votesOf n gs (t0::r)).getD x.toNat 0=mrg n gs (2,t0,x,risL (t0::r),0):=by
  have h0:=ht.2 t0 (by simp)
  have h1:=ht.2 x (List.mem_cons_of_mem _ hx)
  have hne:x ≠ t0:=fun e=>(List.nodup_cons.1 ht.1).1 (e ▸ hx)
  have hv:=ownA_valid hn.2 ht (by simp) h1 (show x ≠ (t0::r).getD 0 0 from hne)
  have hA:ownA (t0::r) x=(2,t0,x,risL (t0::r),0):=by unfold ownA; rw [if_pos (List.mem_cons_of_mem _ hx)]; rfl
  rw [hA] at hv
  rw [vote_get hn h ht h0,vote_get hn h ht h1]
  unfold mrg tal
  rw [hv,h.pileB (by omega) (by omega)]
  unfold fav
  simp
theorem votes_bd {n:Nat} (hn:1≤n∧n≤7) {gs:List Grp} {N:Int} (h:PileOK (n:Int) gs N) {t:List Int} (ht:isB n t) {c:Int} (hc:0≤c∧c < (n:Int)):0≤(votesOf n gs t).getD c.toNat 0∧(votesOf n gs t).getD c.toNat 0≤600000:=by
  rw [vote_get hn h ht hc]
  have hb:=wsum_pos (n:=n) h.ballots (f:=isTopM (risL t) c) fun p=>by unfold isTopM; split <;> omega
  have h1:=h.total
  have h2:=h.most
  omega
theorem sort_ris {n:Nat} (hn:n≤7) {t:List Int} (ht:isB n t):sortI t=risL t:=by
  have hp:(sortI t).Perm (risL t):=(sort_perm t).trans (risL_perm hn ht).symm
  refine hp.eq_of_pairwise (le:=(·≤·)) (fun x y _ _ h1 h2=>by omega) (sort_sorted t) ((risL_lt t).imp fun h=>by omega)
theorem beat_get {n:Nat} (gs:List Grp) {a b:Nat} (hb:b < n) (hne:a ≠ b):(rowB n gs a)[b]? = some (mrg n gs (1,(a:Int),(b:Int),[],0)):=by
  simp [rowB,hb,hne]
theorem mrg_bd (n:Int) (gs:List Grp) (a:Asn):-600000≤mrg n gs a∧mrg n gs a≤600000:=by
  have:=tal_bounds n gs a
  unfold mrg
  omega
theorem pairA_out {n:Int} {gs:List Grp} {t0:Int} {r:List Int} {x:Int} (hx:x ∉ t0::r):pairA n gs (t0::r) x=((1,x,t0,[],0),mrg n gs (1,x,t0,[],0)):=by
  unfold pairA ownA
  rw [if_neg hx]
  rfl
theorem pairA_in {n:Int} {gs:List Grp} {t0:Int} {r:List Int} {x:Int} (hx:x∈t0::r):pairA n gs (t0::r) x=((2,t0,x,risL (t0::r),0),mrg n gs (2,t0,x,risL (t0::r),0)):=by
  unfold pairA ownA
  rw [if_pos hx]
  rfl
theorem bestP_snoc (L:List (Asn × Int)) (p:Asn × Int):bestP (L++[p])=bstep (bestP L) p:=by unfold bestP; rw [List.foldl_append]; rfl
theorem bestP_len {t0:Int} {r:List Int} {n:Int} {gs:List Grp} (L:List Int):(bestP (L.map (pairA n gs (t0::r)))).1.2.2.2.1.length≤7:=by
  have key:∀ (L:List Int) (st:Asn × (Int × Bool)),st.1.2.2.2.1.length≤7→((L.map (pairA n gs (t0::r))).foldl bstep st).1.2.2.2.1.length≤7:=by
    intro L
    induction L with
    | nil=>intro st h; exact h
    | cons x L ih =>
      intro st h
      refine ih _ ?_
      unfold bstep
      split
      · exact ownA_len _ _
      · exact h
  exact key L _ (by decide)
theorem SI.at {w:World} {b o L c:Nat} {xs:List Int} (h:SI w (.slice (some ⟨b,o,none⟩) L c) xs b) {i:Nat} (hi:i < xs.length):w.cell? ⟨b,o+i,none⟩=some (.int .i64 (xs.getD i 0)):=by
  obtain ⟨_,_,_,off,cap,e,_,hc⟩:=h
  obtain rfl:o=off:=by simp at e; exact e.1
  rw [getD_get xs 0 hi]
  exact hc i hi
theorem SI.at' {w:World} {b o L c:Nat} {xs:List Int} (h:SI w (.slice (some ⟨b,o,none⟩) L c) xs b) (i:Nat) (hi:i < xs.length):w.cell? ⟨b,o+i,none⟩=some (.int .i64 xs[i]):=by
  rw [h.at hi,getD_get xs 0 hi]
end Go.Proofs.YtieoleabnjdkfaaGreat
