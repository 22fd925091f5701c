/- Part 16 of what stands below the statement. -/
import Derived.Laws.CopyOwn
import Derived.Deep.RegionLaw
import Derived.Deep.OwnRows
import Derived.Test.YtmipjomnjkmdbaaGreatQ15
set_option linter.unusedSimpArgs false
set_option linter.unusedVariables false
set_option linter.unnecessarySimpa false
namespace Go.Proofs.YtmipjomnjkmdbaaGreat
open Go Go.Proofs Go.RowKit Go.X
attribute [local go_sem] Oper.semAt_some
def FrR (g m k:Nat) (a:Act):Prop:=∃ (x0 x1 x2 x3 x4 x5 x6 x9 x10 x11 x12 x13 x14 x15 x16 x17 x18 x19 x20 x21 x22 x23 x24 x25 x26 x27 x28 x29 x30 x31 x32 x33 x34 x35 x36 x37 x38 x39 x40 x41 x42 x43 x44 x45 x46 x47:Value),a={ tmps:=#[x0,x1,x2,x3,x4,x5,x6,.slice (some ⟨g,0,none⟩) m m,.int .i64 (k:Int),x9,x10,x11,x12,x13,x14,x15,x16,x17,x18,x19,x20,x21,x22,x23,x24,x25,x26,x27,x28,x29,x30,x31,x32,x33,x34,x35,x36,x37,x38,x39,x40,x41,x42,x43,x44,x45,x46,x47],defers:=[] }
theorem FrR.mk {g m k:Nat} {x0 x1 x2 x3 x4 x5 x6 x9 x10 x11 x12 x13 x14 x15 x16 x17 x18 x19 x20 x21 x22 x23 x24 x25 x26 x27 x28 x29 x30 x31 x32 x33 x34 x35 x36 x37 x38 x39 x40 x41 x42 x43 x44 x45 x46 x47:Value}:FrR g m k { tmps:=#[x0,x1,x2,x3,x4,x5,x6,.slice (some ⟨g,0,none⟩) m m,.int .i64 (k:Int),x9,x10,x11,x12,x13,x14,x15,x16,x17,x18,x19,x20,x21,x22,x23,x24,x25,x26,x27,x28,x29,x30,x31,x32,x33,x34,x35,x36,x37,x38,x39,x40,x41,x42,x43,x44,x45,x46,x47],defers:=[] }:=⟨x0,x1,x2,x3,x4,x5,x6,x9,x10,x11,x12,x13,x14,x15,x16,x17,x18,x19,x20,x21,x22,x23,x24,x25,x26,x27,x28,x29,x30,x31,x32,x33,x34,x35,x36,x37,x38,x39,x40,x41,x42,x43,x44,x45,x46,x47,rfl⟩
theorem FrR.elim {g m k:Nat} {a:Act} {P:Prop} (h:FrR g m k a) (f:∀ (x0 x1 x2 x3 x4 x5 x6 x9 x10 x11 x12 x13 x14 x15 x16 x17 x18 x19 x20 x21 x22 x23 x24 x25 x26 x27 x28 x29 x30 x31 x32 x33 x34 x35 x36 x37 x38 x39 x40 x41 x42 x43 x44 x45 x46 x47:Value),a={ tmps:=#[x0,x1,x2,x3,x4,x5,x6,.slice (some ⟨g,0,none⟩) m m,.int .i64 (k:Int),x9,x10,x11,x12,x13,x14,x15,x16,x17,x18,x19,x20,x21,x22,x23,x24,x25,x26,x27,x28,x29,x30,x31,x32,x33,x34,x35,x36,x37,x38,x39,x40,x41,x42,x43,x44,x45,x46,x47],defers:=[] }→P):P:=by
  obtain ⟨x0,x1,x2,x3,x4,x5,x6,x9,x10,x11,x12,x13,x14,x15,x16,x17,x18,x19,x20,x21,x22,x23,x24,x25,x26,x27,x28,x29,x30,x31,x32,x33,x34,x35,x36,x37,x38,x39,x40,x41,x42,x43,x44,x45,x46,x47,e⟩:=h
  exact f x0 x1 x2 x3 x4 x5 x6 x9 x10 x11 x12 x13 x14 x15 x16 x17 x18 x19 x20 x21 x22 x23 x24 x25 x26 x27 x28 x29 x30 x31 x32 x33 x34 x35 x36 x37 x38 x39 x40 x41 x42 x43 x44 x45 x46 x47 e
def rw_ (m k:Nat) (v:Int):List Value:=List.replicate k (.int .i64 v)++List.replicate (m - k) (.int .i64 0)
theorem rw_splice {m k d:Nat} (v:Int) (h:k+d≤m):splice (rw_ m k v) k (List.replicate d (.int .i64 v))=rw_ m (k+d) v:=by
  unfold splice rw_
  rw [List.length_replicate,List.take_left' (by simp),List.drop_append,List.drop_eq_nil_of_le (by simp),List.nil_append,List.length_replicate,List.drop_replicate,← List.append_assoc,List.replicate_append_replicate]
  congr 2
  omega
theorem rw_zero (m:Nat) (v:Int):rw_ m 0 v=List.replicate m (.int .i64 0):=by unfold rw_; rw [Nat.sub_zero]; rfl
theorem rw_len {m k:Nat} (v:Int) (h:k≤m):(rw_ m k v).length=m:=by unfold rw_; simp; omega
theorem hsz3:(Tryz.prog.info? 3).map (·.size)=some 1:=by
  have:=info3
  cases hq:Tryz.prog.info? 3 with
  | none=>rw [hq] at this; cases this
  | some i =>
    rw [hq] at this
    simp only [Option.map_some,Option.some.injEq,Prod.mk.injEq] at this
    rw [Option.map_some,this.2.1]
theorem make26 (m:Nat) (hm:m≤1000) (w:World):(Instr.makeSlice 26 (.int .i64 (m:Int)) (.int .i64 (m:Int))).run Tryz.prog w=.ok (.slice (some ⟨w.heap.size,0,none⟩) m m) (w.alloc (.cells (rw_ m 0 0).toArray 3)):=by
  rw [run_make_row' 26 3 (.int .i64 0) 8 Tryz.underlying26 info3 rfl .i64 .i64 m (by omega) (by omega) w,rw_zero,← toList_madeCells_one,Array.toArray_toList]
set_option maxRecDepth 100000 in
set_option maxHeartbeats 4000000 in
theorem repeat_ok (b off c m:Nat) (v:Int) (w:World) (hm:m≤1000) (hc:w.cell? ⟨b,off,none⟩=some (.int .i64 v)) :
    Calls Tryz.prog 112 #[.slice (some ⟨b,off,none⟩) 1 c,.int .i64 (m:Int)] w fun e w'=>∃ v',e=.returned v'∧w'.ownsRow w.heap.size 3 1 v' m (List.replicate m (.int .i64 v))∧Below w.heap.size w w':=by
  have hin:∀ c:Int,0≤c→c≤4294967296→IntKind.i64.wrap c=c:=fun c h0 h1=>IntWalk.i64_in c ⟨by omega,by omega⟩
  have hmul:∀ w',Calls Tryz.prog 156 #[.int .u64 1,.int .u64 (m:Int)] w' fun e w''=>e=.returned (.tuple #[.int .u64 0,.int .u64 (m:Int)])∧w''=w':=fun w'=>by
    have h:=Any.bits_Mul Tryz.mul 1 m (by omega) (by omega) w'
    have e1:1 * m / 18446744073709551616=0:=by omega
    have e2:1 * m % 18446744073709551616=m:=by omega
    rw [e1,e2] at h
    exact h
  have hmk:=make26 m hm
  have hc':∀ o,(w.alloc o).cell? ⟨b,off,none⟩=some (.int .i64 v):=fun o=>Lib.cell?_alloc_some _ hc
  have hm0:¬ (m:Int) < 0:=by omega
  have hm1:¬ (9223372036854775807:Int) < (m:Int):=by omega
  obtain ⟨d0,hd0⟩:∃ d0,d0=Nat.min 1 m:=⟨_,rfl⟩
  have hd1:d0≤1∧d0≤m∧(0 < m→0 < d0):=by
    rw [hd0]
    refine ⟨Nat.min_le_left _ _,Nat.min_le_right _ _,fun h=>?_⟩
    show 0 < min 1 m
    omega
  obtain ⟨X,hX⟩:∃ X:List Value,X=List.replicate d0 (Value.int .i64 v):=⟨_,rfl⟩
  have hXl:X.length=Nat.min 1 m:=by rw [hX,List.length_replicate,hd0]
  have hXv:∀ u∈X,u=.int .i64 v:=fun u hu=>by
    rw [hX] at hu
    exact List.eq_of_mem_replicate hu
  have hXs:splice (rw_ m 0 0) 0 X=rw_ m d0 v:=by
    rw [rw_zero,← rw_zero m v,hX,rw_splice v (by omega),Nat.zero_add]
  replace hXs:Hid (splice (rw_ m 0 0) 0 X=rw_ m d0 v):=hXs
  replace hd0:Hid (d0=Nat.min 1 m):=hd0
  clear hX
  go_enter Tryz.func112,Tryz.ntmps112
  go_upto_region 7 with (go_at_call 156; refine (hmul _).mono ?_; rintro e w1 ⟨rfl,hw1⟩; rw [hw1])
  go_wp2_with (refine wpList_copy_splice rfl (.tmp 31) (.tmp 32) 26 26 rfl 3 Tryz.underlying26 hsz3 _ _ m m 1 c rfl rfl w.heap.size 0 (rw_ m 0 0) 3 ?qc1 X hXl ?qc2 ?qc3 ?qc4 w.heap.size w ?qc5 ?qc6 ?_)
  case qc1=>exact heap_alloc_new w _
  case qc2 =>
    intro _ j u hj
    have hjl:j < X.length:=(List.getElem?_eq_some_iff.1 hj).1
    rw [hXl,← hd0.out] at hjl
    obtain rfl:j=0:=by omega
    rw [hXv u (List.mem_of_getElem? hj)]
    exact hc' _
  case qc3 =>
    rw [rw_len 0 (Nat.zero_le m),hXl,← hd0.out]
    omega
  case qc4 =>
    intro u hu
    rw [hXv u hu]
    rfl
  case qc5=>exact (Below.refl _ w).alloc (Nat.le_refl _) _
  case qc6=>exact Nat.le_refl _
  intro w2 hg2 hb2
  replace hg2:Hid (w2.heap[w.heap.size]? = some (Obj.cells (rw_ m d0 v).toArray 3)):=by
    have:=hg2.out
    rw [hXs.out] at this
    exact this
  rw [← hd0.out]
  clear hXs hmk hXl hXv
  clear hd0
  go_wp2
  refine loop_invT (R:=fun mm a w'=>∃ k:Nat,k≤m∧mm=m - k∧(0 < m→0 < k)∧Hid (w'.heap[w.heap.size]? = some (Obj.cells (rw_ m k v).toArray 3))∧Below w.heap.size w w'∧FrR w.heap.size m k a) (m:=m - d0) ?zfu ?init1
  case init1=>exact ⟨d0,hd1.2.1,rfl,hd1.2.2,hg2,hb2,FrR.mk⟩
  case zfu =>
    rintro mm a w' ⟨k,hk,rfl,hpos,hg,hb,hfr⟩
    refine hfr.elim ?_
    intro x0 x1 x2 x3 x4 x5 x6 x9 x10 x11 x12 x13 x14 x15 x16 x17 x18 x19 x20 x21 x22 x23 x24 x25 x26 x27 x28 x29 x30 x31 x32 x33 x34 x35 x36 x37 x38 x39 x40 x41 x42 x43 x44 x45 x46 x47 hfe
    subst hfe
    rcases Nat.lt_or_ge k m with hlt | hge
    · have hlt':(k:Int) < (m:Int):=by omega
      obtain ⟨d,hd⟩:∃ d,d=Nat.min k (m - k):=⟨_,rfl⟩
      have hd1:d≤k∧d≤m - k∧0 < d:=by
        rw [hd]
        refine ⟨Nat.min_le_left _ _,Nat.min_le_right _ _,?_⟩
        show 0 < min k (m - k)
        have:=hpos (by omega)
        omega
      obtain ⟨X,hX⟩:∃ X:List Value,X=List.replicate d (Value.int .i64 v):=⟨_,rfl⟩
      have hXl:X.length=Nat.min k (m - k):=by rw [hX,List.length_replicate,hd]
      have hXl':X.length=d:=by rw [hX,List.length_replicate]
      have hXv:∀ u∈X,u=.int .i64 v:=fun u hu=>by
        rw [hX] at hu
        exact List.eq_of_mem_replicate hu
      have hXs:splice (rw_ m k v) k X=rw_ m (k+d) v:=by rw [hX,rw_splice v (by omega)]
      replace hXs:Hid (splice (rw_ m k v) k X=rw_ m (k+d) v):=hXs
      replace hd:Hid (d=Nat.min k (m - k)):=hd
      replace hXl':Hid (X.length=d):=hXl'
      clear hX
      have hrl:=rw_len v hk
      have hwr:IntKind.i64.wrap ((k:Int)+((Nat.min k (m - k):Nat):Int))=((k+d:Nat):Int):=by
        rw [← hd.out,hin _ (by omega) (by omega)]; omega
      have k0:(0:Int)≤(k:Int):=by omega
      have k1:(k:Int)≤(m:Int):=by omega
      have k2:¬ m=k:=by omega
      have k3:((m:Int) - (k:Int)).toNat=m - k:=by omega
      have hgd:w'.drew.heap[w.heap.size]? = some (Obj.cells (rw_ m k v).toArray 3):=hg.out
      have hbd:Below w.heap.size w w'.drew:=hb.trans ⟨rfl,rfl,rfl,Nat.le_refl _,fun _ _=>rfl⟩
      have hfit:k+X.length≤(rw_ m k v).length:=by rw [hrl,hXl'.out]; omega
      have hone:∀ u∈X,u.oneCell'=true:=fun u hu=>by rw [hXv u hu]; rfl
      have hsrc:∀ j u,X[j]? = some u→w'.drew.cell? ((⟨w.heap.size,0,none⟩:Addr).add j)=some u:=fun j u hj=>by
        have hjl:j < X.length:=(List.getElem?_eq_some_iff.1 hj).1
        rw [hXv u (List.mem_of_getElem? hj),Addr.add_lit]
        rw [hXl'.out] at hjl
        have hjk:j < k:=by omega
        unfold World.cell?
        rw [hgd]
        simp [rw_,List.getElem?_append,hjk]
      replace hgd:Aside (w'.drew.heap[w.heap.size]? = some (Obj.cells (rw_ m k v).toArray 3)):=hgd
      replace hsrc:Aside (∀ j u,X[j]? = some u→w'.drew.cell? ((⟨w.heap.size,0,none⟩:Addr).add j)=some u):=hsrc
      go_wp2
      go_region_law (refine step_copy_splice rfl (.tmp 41) (.tmp 44) 26 26 rfl 3 Tryz.underlying26 hsz3 (some ⟨w.heap.size,k,none⟩) (some ⟨w.heap.size,0,none⟩) (m - k) (m - k) k m (by simp [Act.eval,Act.put,k2]) (by simp [Act.eval,Act.put]) w.heap.size k (rw_ m k v) 3 hgd.out X hXl (fun _=>⟨rfl,_,rfl,hsrc.out⟩) hfit hone w.heap.size w hbd (Nat.le_refl _) ?_; intro w4 hg4 hb4)
      replace hg4:Hid (w4.heap[w.heap.size]? = some (Obj.cells (rw_ m (k+d) v).toArray 3)):=by
        have:=hg4.out
        rw [hXs.out] at this
        exact this
      go_wp2
      exact ⟨m - (k+d),by omega,k+d,by omega,rfl,fun _=>by omega,hg4,hb4,FrR.mk⟩
    · have hge':¬ (k:Int) < (m:Int):=by omega
      have hkm:k=m:=by omega
      subst hkm
      have hrep:rw_ k k v=List.replicate k (Value.int .i64 v):=by unfold rw_; rw [Nat.sub_self]; simp
      go_wp2
      go_ret
      exact ⟨_,rfl,⟨by simp,.inr ⟨w.heap.size,k,_,rfl,Nat.le_refl _,hg.out,Nat.le_refl _,by unfold maxLen; omega,by simp [hrep],by simp [hrep]⟩⟩,hb⟩
end Go.Proofs.YtmipjomnjkmdbaaGreat
set_option linter.unusedSimpArgs false
set_option linter.unusedVariables false
set_option linter.unnecessarySimpa false
namespace Go.Proofs.YtmipjomnjkmdbaaGreat
open Go Go.Proofs Go.RowKit Go.X
theorem enters112:zcm Tryz.prog 112:=enters_of Tryz.func112 (by kernel_rfl) rfl
noncomputable def d112 (xs:List Int) (n:Int):Option (List Int):=bif decide (xs.length=1) && (decide (0≤n) && decide (n≤1000)) then some (List.replicate n.toNat (xs.getD 0 0)) else none
def sg112:Sig:=⟨[(y26,.bw),(y3,.sh)],[(y26,.own 3 .sh)]⟩
theorem sim112:Sim Tryz.prog 112 sg112 d112:=by
  refine ⟨enters112,fun xs y hy S hS vs hvs hargs=>?_⟩
  have hy0:d112 xs.1 xs.2.1=some y:=hy
  obtain ⟨xs,n,u⟩:=xs
  simp only at hy0
  obtain ⟨z,hz,hn0,hn1,hy'⟩:∃ z:Int,(xs:List Int)=[z]∧0≤n∧n≤1000∧List.replicate n.toNat z=y:=by
    unfold d112 at hy0
    cases hq:(decide ((xs:List Int).length=1) && (decide (0≤(n:Int)) && decide ((n:Int)≤1000))) with
    | false=>rw [hq] at hy0; cases hy0
    | true =>
      rw [hq] at hy0
      rw [Bool.and_eq_true,Bool.and_eq_true,decide_eq_true_eq,decide_eq_true_eq,decide_eq_true_eq] at hq
      obtain ⟨z,hz⟩:=List.length_eq_one_iff.1 hq.1
      have h2:=Option.some.inj hy0
      rw [hz] at h2
      exact ⟨z,hz,hq.2.1,hq.2.2,h2⟩
  obtain ⟨v,hv,hr⟩:=hargs 0 ⟨y26,.bw,xs⟩ rfl
  obtain ⟨v2,hv2,hr2⟩:=hargs 1 ⟨y3,.sh,n⟩ rfl
  have hl:vs.length=2:=hvs
  obtain ⟨v',v2',rfl⟩:∃ a b,vs=[a,b]:=by
    match vs,hl with
    | [a,b],_=>exact ⟨a,b,rfl⟩
  have e1:v'=v:=by simpa using hv
  have e2:v2'=v2:=by simpa using hv2
  subst e1 e2
  dsimp only at hr hr2
  obtain ⟨hxl,_,A,len,cap,h0,rfl,hcap,h3⟩:=hr.1
  have hv0:v'=.slice A (xs:List Int).length cap:=by simpa [zab,Ty.agg] using h0
  subst hv0
  have h02:zab (.int .i64) v2' 0=some v2':=by simp [zab,Ty.agg]
  obtain ⟨q1,q2⟩:=hr2.1
  rw [h02] at q1
  have q1':v2'=.int .i64 n:=by injection q1
  subst q1'
  obtain ⟨b,o,hA,hzw,hcz⟩:∃ b o,A=some ⟨b,o,none⟩∧IntKind.i64.wrap z=z∧S.w.cell? ⟨b,o,none⟩=some (.int .i64 z):=by
    rcases h3 with ⟨h3,_⟩ | ⟨b,o,hA,hx,h4⟩
    · exfalso; rw [hz] at h3; cases h3
    · refine ⟨b,o,hA,?_,?_⟩
      · have:=(h4 0 (by rw [hz]; simp)).2
        simpa [hz] using this
      · have:=(h4 0 (by rw [hz]; simp)).1
        simpa [blk,Ty.size,hz] using this
  subst hA
  obtain ⟨m,rfl⟩:∃ m:Nat,n=(m:Int):=⟨Int.toNat n,(Int.toNat_of_nonneg hn0).symm⟩
  rw [Int.toNat_natCast] at hy'
  have hlen1:(xs:List Int).length=1:=by rw [hz]; rfl
  have hm1000:m≤1000:=by have:(m:Int)≤1000:=hn1; omega
  have hcall:=repeat_ok b o cap m z S.w hm1000 hcz
  rw [hlen1]
  refine Calls.mono hcall fun e w' ⟨r,hr,ho,hb⟩=>?_
  subst hr
  obtain ⟨ys,hys⟩:∃ ys:List Int,ys=y:=⟨y,rfl⟩
  subst hys
  have hyl:ys.length=m:=by rw [← hy',List.length_replicate]
  have hall:∀ u∈ys,u=z:=by
    rw [← hy']
    exact fun u=>List.eq_of_mem_replicate
  have hwr:∀ (i:Nat) (hi:i < ys.length),ys[i]=z:=fun i hi=>hall _ (List.getElem_mem hi)
  obtain ⟨ho1,ho2⟩:=ho
  let S':St:={ S with w:=w',own:=fun b=>if r.ownBlock=some b then some (0,[0]) else S.own b,hv:=fun z=>if z=(0,[0]) then r else S.hv z }
  have hhv:S'.hv (0,[0])=r:=by
    show (if ((0,[0]):Go.X.Place)=(0,[0]) then r else S.hv (0,[0]))=r
    simp
  have hbig:∀ b,r.ownBlock=some b→S.w.heap.size≤b∧b < w'.heap.size:=fun b hbb=>by
    rcases ho2 with ⟨h1,_⟩ | ⟨g,c,cur,h1,h2,h3,_⟩
    · rw [h1] at hbb; cases hbb
    · rw [h1] at hbb; cases hbb; exact ⟨h2,(Array.getElem?_eq_some_iff.1 h3).1⟩
  have hold:∀ b,b < S.w.heap.size→S'.own b=S.own b:=fun b hlt=>if_neg fun hh=>absurd (hbig b hh).1 (by omega)
  have hfr:Frm S S':=by
    refine ⟨fun _ h=>h,rfl,fun b hb'=>?_,fun b hb'=>?_,fun b p hb'=>?_,hb.os,hb.tape,hb.output,hb.size,fun b hlt _=>hb.block b hlt⟩
    · exact ⟨(hold b (hS.shared b hb').2).trans (hS.shared b hb').1,Nat.lt_of_lt_of_le (hS.shared b hb').2 hb.size,.inl hb'⟩
    · exact (hold b (hS.borrowed b hb').2).trans (hS.borrowed b hb').1
    · have hb2:(if r.ownBlock=some b then some (0,[0]) else S.own b)=some p:=hb'
      split at hb2
      · rename_i hh
        exact ⟨(hbig b hh).2,.inl (hbig b hh).1⟩
      · exact ⟨Nat.lt_of_lt_of_le (hS.owned b p hb2) hb.size,.inr (by rw [hb2]; simp)⟩
  refine ⟨r,S',rfl,rfl,hfr,⟨⟨?_,by simp [Ty.size],?_,?_⟩,fun h=>by cases h⟩,fun q e hq=>by cases hq⟩
  · show ys.length≤_
    rw [hyl]
    have:1000≤maxL:=by unfold maxL; omega
    omega
  · rw [hhv]; simp [zab,Ty.agg]
  · rw [hhv]
    rcases ho2 with ⟨h1,h2⟩ | ⟨g,c,cur,h1,h2,h3,h4,h5,h6,h7⟩
    · exact .inl ⟨h1,by have:=hyl; rw [h2] at this; exact List.eq_nil_of_length_eq_zero this⟩
    · rw [← hyl] at h1 h4
      refine .inr ⟨g,c,cur,h1,if_pos (by rw [h1]; rfl),h3,h4,h5,by simpa [Ty.size] using h6,fun i hi=>⟨?_,by
        show IntKind.i64.wrap (ys[i]'hi)=ys[i]'hi
        rw [hwr i hi]; exact hzw⟩⟩
      have hi':i < m:=by rw [← hyl]; exact hi
      have:=congrArg (fun l=>l[i]?) h7
      simp only [Nat.mul_one,List.getElem?_take,hi',if_true,List.getElem?_replicate,Array.getElem?_toList] at this
      have e0:i * Ty.size (.int .i64)+0=i:=by simp [Ty.size]
      show cur[i * Ty.size (.int .i64)+0]? = some (.int .i64 (ys[i]'hi))
      rw [e0,hwr i hi]
      exact this
noncomputable def E112:FnE Tryz.prog:=⟨112,sg112,d112,sim112⟩
end Go.Proofs.YtmipjomnjkmdbaaGreat
open Go Go.Proofs Go.X
namespace Go.Proofs.YtmipjomnjkmdbaaGreat
set_option linter.unusedVariables false
set_option maxRecDepth 100000
abbrev uf6:=(Bool × (List Int × List Int))
abbrev uf3:=(List uf6 × (List uf6 × (uf6 × (uf6 × (uf6 × (List Int × (List Int × List Int)))))))
abbrev uf2:=(Int × (Int × (Int × (Int × (List uf3 × List Int)))))
abbrev uf5:=(List uf6)
abbrev uf9:=(List Int × Int)
abbrev uf7:=(List uf9)
abbrev uf10:=(List Int)
abbrev uf4:=(List Int × (List uf10 × (Int × (Int × (Int × (Int × (Int × (Int × Int))))))))
abbrev uf1:=(uf4 × (List uf9 × (List Int × (Int × (List Int × (List Int × (Int × (List uf5 × (Int × (Int × uf2))))))))))
abbrev uf0:=(uf1 × uf3)
abbrev uf8:=(List uf10)
abbrev uf11:=Int × uf8 × uf4 × uf2 × Int × Int × uf3 × Int × Bool × Int × Bool × Int × Int
noncomputable def d54 (l:List uf10):Option Bool :=
 (zaa (β:=uf8 ⊕ Bool) (fun ((l_1,i):uf8 × Int) =>
   bif (decide (i < (l_1.length:Int))) then
    bif (decide (0≤i) && decide (i < (l_1.length:Int))) then
     bif (decide (12 < ((List.getD l_1 (Int.toNat i) []).length:Int))) then
      some (Sum.inr (Sum.inr false))
     else
      some (Sum.inl (l_1,(w (i+1))))
    else none
   else
    some (Sum.inr (Sum.inl l_1))) (l,0)).bind fun
 | Sum.inl l_2 =>
  some (decide ((l_2.length:Int)≤24))
 | Sum.inr t2 =>
  some t2
def sg54:Sig:=⟨[(y27,.bw)],[(y4,.sh)]⟩
def plan54:Plan:=(.seq (.reg [] []) (.seq (.seq (.reg [] []) (.block (.loop [(0,.v y27 .bw),(3,.v y2 .sh)] [(.brk 0,[(0,.v y27 .bw)]),(.ret,[(2,.v y4 .sh)])] (.seq (.seq (.reg [] []) (.cond .nil .nil)) (.seq (.block (.seq (.reg [] []) (.cond (.seq (.reg [] []) .nil) .nil))) (.reg [] [])))))) (.seq (.reg [] []) .nil)))
theorem ev54 (xs:Vals (ptys sg54.ps)):evF (P:=Tryz.prog) tab [] sg54 Tryz.f54.results.toList (code Tryz.f54) plan54 xs=d54 xs.1:=by kernel_rfl
theorem sim54:Sim Tryz.prog 54 sg54 d54:=zah mixd zan Tryz.func54 (zac rfl) Tryz.call54 (Nat.le_of_ble_eq_true (by kernel_rfl)) (by kernel_rfl) plan54 _ fun xs y h=>(ev54 xs).trans h
noncomputable def E54:FnE Tryz.prog:=⟨54,sg54,d54,sim54⟩
noncomputable def d111 (n:Int):Option Int :=
 (zaa (β:=Int) (fun ((p,t4,t5):Int × Int × Int) =>
   bif (decide (t5 < t4)) then
    some (Sum.inl ((w (p * 10)),t4,(w (t5+1))))
   else
    some (Sum.inr p)) (1,n,0)).bind fun (p_1:Int) =>
 some p_1
def sg111:Sig:=⟨[(y2,.sh)],[(y2,.sh)]⟩
def plan111:Plan:=(.seq (.reg [] []) (.seq (.reg [] []) (.seq (.seq (.reg [] []) (.block (.loop [(3,.v y2 .sh),(4,.v y2 .sh),(5,.v y2 .sh)] [(.brk 0,[(3,.v y2 .sh)])] (.seq (.reg [] []) (.seq (.cond .nil .nil) (.seq (.block (.reg [] [])) (.reg [] []))))))) (.seq (.reg [] []) .nil))))
theorem ev111 (xs:Vals (ptys sg111.ps)):evF (P:=Tryz.prog) tab [] sg111 Tryz.f111.results.toList (code Tryz.f111) plan111 xs=d111 xs.1:=by kernel_rfl
theorem sim111:Sim Tryz.prog 111 sg111 d111:=zah mixd zan Tryz.func111 (zac rfl) Tryz.call111 (Nat.le_of_ble_eq_true (by kernel_rfl)) (by kernel_rfl) plan111 _ fun xs y h=>(ev111 xs).trans h
noncomputable def E111:FnE Tryz.prog:=⟨111,sg111,d111,sim111⟩
noncomputable def d120 (n:Int) (gs:List uf9):Option Bool :=
 bif (decide (1≤n)) then
  bif (decide (n≤7)) then
   (d124 n gs).bind fun r =>
   some r
  else
   some false
 else
  some false
def sg120:Sig:=⟨[(y2,.sh),(y25,.bw)],[(y4,.sh)]⟩
def plan120:Plan:=(.seq (.reg [] []) (.seq (.reg [] []) .nil))
theorem ev120 (xs:Vals (ptys sg120.ps)):evF (P:=Tryz.prog) tab [.fn E124] sg120 Tryz.f120.results.toList (code Tryz.f120) plan120 xs=d120 xs.1 xs.2.1:=by kernel_rfl
theorem sim120:Sim Tryz.prog 120 sg120 d120:=zah mixd zan Tryz.func120 (zac rfl) Tryz.call120 (Nat.le_of_ble_eq_true (by kernel_rfl)) (by kernel_rfl) plan120 _ fun xs y h=>(ev120 xs).trans h
noncomputable def E120:FnE Tryz.prog:=⟨120,sg120,d120,sim120⟩
noncomputable def d121 (a:Int) (b:Int):Option Int :=
 bif (!decide (b=0)) then
  some (w (Int.tdiv (w ((w (a+b)) - 1)) b))
 else none
def sg121:Sig:=⟨[(y2,.sh),(y2,.sh)],[(y2,.sh)]⟩
def plan121:Plan:=(.seq (.reg [] []) (.seq (.reg [] []) .nil))
theorem ev121 (xs:Vals (ptys sg121.ps)):evF (P:=Tryz.prog) tab [] sg121 Tryz.f121.results.toList (code Tryz.f121) plan121 xs=d121 xs.1 xs.2.1:=by kernel_rfl
theorem sim121:Sim Tryz.prog 121 sg121 d121:=zah mixd zan Tryz.func121 (zac rfl) Tryz.call121 (Nat.le_of_ble_eq_true (by kernel_rfl)) (by kernel_rfl) plan121 _ fun xs y h=>(ev121 xs).trans h
noncomputable def E121:FnE Tryz.prog:=⟨121,sg121,d121,sim121⟩
noncomputable def d58 (p0:Int) (p1:List Int) (p2:List uf9):Option (uf10 × Int × Bool) :=
 letJ (fun ((t0,t1,t2,t7,t30):Int × uf10 × uf7 × Int × Bool) =>
   bif t30 then
    some ([],0,false)
   else
    (d111 t0).bind fun r_1 =>
    (zaa (β:=(uf10 × uf7 × Int × Int) ⊕ (uf10 × Int × Bool)) (fun ((t1_1,t2_1,t7_1,t9,t33,t34,t35):uf10 × uf7 × Int × Int × uf10 × Int × Int) =>
      bif (decide (t35 < t34)) then
       bif (decide (0≤t35) && decide (t35 < (t33.length:Int))) then
        letJ (fun ((t1_2,t2_2,t7_2,t9_1,t33_1,t34_1,t35_1,t45):uf10 × uf7 × Int × Int × uf10 × Int × Int × Bool) =>
          bif t45 then
           some (Sum.inr (Sum.inr ([],0,false)))
          else
           some (Sum.inl (t1_2,t2_2,t7_2,t9_1,t33_1,t34_1,(w (t35_1+1))))) fun j__1 =>
        bif !(decide ((List.getD t33 (Int.toNat t35) 0) < 0)) then
         j__1 (t1_1,t2_1,t7_1,t9,t33,t34,t35,(decide (t9 < (List.getD t33 (Int.toNat t35) 0))))
        else
         j__1 (t1_1,t2_1,t7_1,t9,t33,t34,t35,true)
       else none
      else
       some (Sum.inr (Sum.inl (t1_1,t2_1,t7_1,t9)))) (t1,t2,t7,r_1,t1,(t1.length:Int),0)).bind fun
    | Sum.inl (t1_3,t2_3,t7_3,t9_2) =>
     bif (decide ((t1_3.length:Int)=(t1_3.length:Int)) && (decide (0≤(t1_3.length:Int)) && decide ((t1_3.length:Int)≤LIM))) then
      (zaa (β:=(uf10 × Int)) (fun ((t1_4,t6_1,t7_5,t9_3,t50,t51,t52):uf10 × uf10 × Int × Int × uf7 × Int × Int) =>
        bif (decide (t52 < t51)) then
         bif (decide (0≤t52) && decide (t52 < (t50.length:Int))) then
          (zaa (β:=(uf10 × uf10 × Int × Int × uf9 × Int × uf7 × Int × Int)) (fun ((t1_5,t6_2,t7_6,t9_4,t13,t14,t50_1,t51_1,t52_1,t58,t59,t60):uf10 × uf10 × Int × Int × uf9 × Int × uf7 × Int × Int × uf10 × Int × Int) =>
            bif (decide (t60 < t59)) then
             bif (decide (0≤t60) && decide (t60 < (t58.length:Int))) then
              bif (decide (0≤(List.getD t58 (Int.toNat t60) 0)) && decide ((List.getD t58 (Int.toNat t60) 0) < (t1_5.length:Int))) then
               (d121 (w (t14 * (List.getD t1_5 (Int.toNat (List.getD t58 (Int.toNat t60) 0)) 0))) t9_4).bind fun r_2 =>
               bif (decide (0≤(List.getD t58 (Int.toNat t60) 0)) && decide ((List.getD t58 (Int.toNat t60) 0) < (t6_2.length:Int))) then
                bif (decide (0≤(List.getD t58 (Int.toNat t60) 0)) && decide ((List.getD t58 (Int.toNat t60) 0) < (t6_2.length:Int))) then
                 some (Sum.inl (t1_5,(List.set t6_2 (Int.toNat (List.getD t58 (Int.toNat t60) 0)) (w ((List.getD t6_2 (Int.toNat (List.getD t58 (Int.toNat t60) 0)) 0)+(w (r_2 * t13.2))))),t7_6,t9_4,t13,(w (t14 - r_2)),t50_1,t51_1,t52_1,t58,t59,(w (t60+1))))
                else none
               else none
              else none
             else none
            else
             some (Sum.inr (t1_5,t6_2,t7_6,t9_4,t13,t14,t50_1,t51_1,t52_1))) (t1_4,t6_1,t7_5,t9_3,(List.getD t50 (Int.toNat t52) ([],0)),t9_3,t50,t51,t52,(List.getD t50 (Int.toNat t52) ([],0)).1,(((List.getD t50 (Int.toNat t52) ([],0)).1).length:Int),0)).bind fun ((t1_6,t6_3,t7_7,t9_5,t13_1,t14_1,t50_2,t51_2,t52_2):uf10 × uf10 × Int × Int × uf9 × Int × uf7 × Int × Int) =>
          some (Sum.inl (t1_6,t6_3,(w (t7_7+(w (t14_1 * t13_1.2)))),t9_5,t50_2,t51_2,(w (t52_2+1))))
         else none
        else
         some (Sum.inr (t6_1,t7_5))) (t1_3,(List.replicate (Int.toNat (t1_3.length:Int)) 0),t7_3,t9_2,t2_3,(t2_3.length:Int),0)).bind fun ((t6_4,t7_8):uf10 × Int) =>
      some (t6_4,t7_8,true)
     else none
    | Sum.inr (t6,t7_4,t8) =>
     some (t6,t7_4,t8)) fun j_ =>
 bif !(decide (p0 < 1)) then
  bif !(decide (6 < p0)) then
   (d120 (p1.length:Int) p2).bind fun r =>
   j_ (p0,p1,p2,0,!r)
  else
   j_ (p0,p1,p2,0,true)
 else
  j_ (p0,p1,p2,0,true)
def sg58:Sig:=⟨[(y2,.sh),(y26,.bw),(y25,.bw)],[(y26,.sh),(y2,.sh),(y4,.sh)]⟩
def plan58:Plan:=(.post (.seq (.reg [] []) (.seq (.join (.reg [] []) [(0,.v y2 .sh),(1,.v y26 .bw),(2,.v y25 .bw),(7,.v y2 .sh),(30,.v y4 .sh)] (.cond (.seq (.reg [] []) .nil) .nil)) (.seq (.reg [] []) (.seq (.seq (.reg [] []) (.block (.loop [(1,.v y26 .bw),(2,.v y25 .bw),(7,.v y2 .sh),(9,.v y2 .sh),(33,.v y26 .bw),(34,.v y2 .sh),(35,.v y2 .sh)] [(.brk 0,[(1,.v y26 .bw),(2,.v y25 .bw),(7,.v y2 .sh),(9,.v y2 .sh)]),(.ret,[(6,.v y26 .sh),(7,.v y2 .sh),(8,.v y4 .sh)])] (.seq (.reg [] []) (.seq (.cond .nil .nil) (.seq (.block (.seq (.reg [] []) (.join (.reg [] []) [(1,.v y26 .bw),(2,.v y25 .bw),(7,.v y2 .sh),(9,.v y2 .sh),(33,.v y26 .bw),(34,.v y2 .sh),(35,.v y2 .sh),(45,.v y4 .sh)] (.cond (.seq (.reg [] []) .nil) .nil)))) (.reg [] []))))))) (.seq (.reg [] []) (.seq (.seq (.reg [] []) (.block (.loop [(1,.v y26 .bw),(6,.v y26 (.own 3 .sh)),(7,.v y2 .sh),(9,.v y2 .sh),(50,.v y25 .bw),(51,.v y2 .sh),(52,.v y2 .sh)] [(.brk 2,[(6,.v y26 (.own 3 .sh)),(7,.v y2 .sh)])] (.seq (.reg [] []) (.seq (.cond .nil .nil) (.seq (.block (.seq (.reg [] []) (.seq (.reg [] []) (.seq (.seq (.reg [] []) (.block (.loop [(1,.v y26 .bw),(6,.v y26 (.own 3 .sh)),(7,.v y2 .sh),(9,.v y2 .sh),(13,.v (.ptr y92) (.own 0 .bw)),(14,.v y2 .sh),(50,.v y25 .bw),(51,.v y2 .sh),(52,.v y2 .sh),(58,.v y26 .bw),(59,.v y2 .sh),(60,.v y2 .sh)] [(.brk 4,[(1,.v y26 .bw),(6,.v y26 (.own 3 .sh)),(7,.v y2 .sh),(9,.v y2 .sh),(13,.v (.ptr y92) (.own 0 .bw)),(14,.v y2 .sh),(50,.v y25 .bw),(51,.v y2 .sh),(52,.v y2 .sh)])] (.seq (.reg [] []) (.seq (.cond .nil .nil) (.seq (.block (.seq (.reg [] []) (.seq (.reg [] []) (.seq (.reg [] []) (.reg [] []))))) (.reg [] []))))))) (.reg [] []))))) (.reg [] []))))))) (.seq (.reg [] []) .nil))))))) [(6,[])])
theorem ev58 (xs:Vals (ptys sg58.ps)):evF (P:=Tryz.prog) tab [.fn E120,.fn E111,.fn E121] sg58 Tryz.f58.results.toList (code Tryz.f58) plan58 xs=d58 xs.1 xs.2.1 xs.2.2.1:=by kernel_rfl
theorem sim58:Sim Tryz.prog 58 sg58 d58:=zah mixd zan Tryz.func58 (zac rfl) Tryz.call58 (Nat.le_of_ble_eq_true (by kernel_rfl)) (by kernel_rfl) plan58 _ fun xs y h=>(ev58 xs).trans h
noncomputable def E58:FnE Tryz.prog:=⟨58,sg58,d58,sim58⟩
noncomputable def d157 (k:uf1) (units:List Int):Option uf5 :=
 (zaa (β:=uf5) (fun ((k_1,out,t8,t9,t10):uf1 × uf5 × uf10 × Int × Int) =>
   bif (decide (t10 < t9)) then
    bif (decide (0≤t10) && decide (t10 < (t8.length:Int))) then
     (d158 (List.getD t8 (Int.toNat t10) 0) k_1.2.2.2.1).bind fun r =>
     bif (decide ((out.length:Int)+(([r]:List uf6).length:Int)≤LIM)) then
      some (Sum.inl (k_1,(out++[r]),t8,t9,(w (t10+1))))
     else none
    else none
   else
    some (Sum.inr out)) (k,[],units,(units.length:Int),0)).bind fun (out_1:List uf6) =>
 some out_1
def sg157:Sig:=⟨[(y140,.bw),(y26,.bw)],[(y53,(.own 57 .sh))]⟩
def plan157:Plan:=(.seq (.reg [] []) (.seq (.reg [] [{ fl:=2 }]) (.seq (.seq (.reg [] []) (.block (.loop [(0,.v y140 .bw),(5,.v y53 (.own 57 .sh)),(8,.v y26 .bw),(9,.v y2 .sh),(10,.v y2 .sh)] [(.brk 0,[(5,.v y53 (.own 57 .sh))])] (.seq (.reg [] []) (.seq (.cond .nil .nil) (.seq (.block (.seq (.reg [] []) (.reg [] []))) (.reg [] []))))))) (.seq (.reg [] []) .nil))))
theorem ev157 (xs:Vals (ptys sg157.ps)):evF (P:=Tryz.prog) tab [.fn E158] sg157 Tryz.f157.results.toList (code Tryz.f157) plan157 xs=d157 xs.1 xs.2.1:=by kernel_rfl
theorem sim157:Sim Tryz.prog 157 sg157 d157:=zah mixd zan Tryz.func157 (zac rfl) Tryz.call157 (Nat.le_of_ble_eq_true (by kernel_rfl)) (by kernel_rfl) plan157 _ fun xs y h=>(ev157 xs).trans h
noncomputable def E157:FnE Tryz.prog:=⟨157,sg157,d157,sim157⟩
noncomputable def d161 (k:uf1) (standing:Int):Option uf10 :=
 (zaa (β:=uf10) (fun ((standing_1,out,t11,t12,t13):Int × uf10 × uf10 × Int × Int) =>
   bif (decide (t13 < t12)) then
    letJ (fun ((standing_2,out_1,t11_1,t12_1,t13_1):Int × uf10 × uf10 × Int × Int) =>
      some (Sum.inl (standing_2,out_1,t11_1,t12_1,(w (t13_1+1))))) fun j_ =>
    bif (decide (0≤t13) && decide (t13 < (t11.length:Int))) then
     bif (decide ((List.getD t11 (Int.toNat t13) 0)=standing_1)) then
      bif (decide ((out.length:Int)+(([t13]:List Int).length:Int)≤LIM)) then
       j_ (standing_1,(out++[t13]),t11,t12,t13)
      else none
     else
      j_ (standing_1,out,t11,t12,t13)
    else none
   else
    some (Sum.inr out)) (standing,[],k.2.2.2.2.1,(k.2.2.2.2.1.length:Int),0)).bind fun (out_2:List Int) =>
 some out_2
def sg161:Sig:=⟨[(y140,.bw),(y2,.sh)],[(y26,(.own 3 .sh))]⟩
def plan161:Plan:=(.seq (.reg [] []) (.seq (.reg [] [{ fl:=2 }]) (.seq (.seq (.reg [] []) (.block (.loop [(1,.v y2 .sh),(5,.v y26 (.own 3 .sh)),(11,.v y26 .bw),(12,.v y2 .sh),(13,.v y2 .sh)] [(.brk 0,[(5,.v y26 (.own 3 .sh))])] (.seq (.reg [] []) (.seq (.cond .nil .nil) (.join (.block (.seq (.reg [] []) (.seq (.reg [] []) (.cond (.reg [] []) .nil)))) [(1,.v y2 .sh),(5,.v y26 (.own 3 .sh)),(11,.v y26 .bw),(12,.v y2 .sh),(13,.v y2 .sh)] (.reg [] []))))))) (.seq (.reg [] []) .nil))))
theorem ev161 (xs:Vals (ptys sg161.ps)):evF (P:=Tryz.prog) tab [] sg161 Tryz.f161.results.toList (code Tryz.f161) plan161 xs=d161 xs.1 xs.2.1:=by kernel_rfl
theorem sim161:Sim Tryz.prog 161 sg161 d161:=zah mixd zan Tryz.func161 (zac rfl) Tryz.call161 (Nat.le_of_ble_eq_true (by kernel_rfl)) (by kernel_rfl) plan161 _ fun xs y h=>(ev161 xs).trans h
noncomputable def E161:FnE Tryz.prog:=⟨161,sg161,d161,sim161⟩
noncomputable def d194 (c:Int) (p1:List Int) (p2:Int):Option Bool :=
 bif (decide (0≤c) && decide (c < (p1.length:Int))) then
  some (decide ((List.getD p1 (Int.toNat c) 0) < p2))
 else none
def sg194:Sig:=⟨[(y2,.bw),((.ptr y26),.bw),(y233,.bw)],[(y4,.sh)]⟩
def plan194:Plan:=(.seq (.reg [] []) (.seq (.reg [] []) .nil))
theorem ev194 (xs:Vals (ptys sg194.ps)):evF (P:=Tryz.prog) tab [] sg194 Tryz.f194.results.toList (code Tryz.f194) plan194 xs=d194 xs.1 xs.2.1 xs.2.2.1:=by kernel_rfl
theorem sim194:Sim Tryz.prog 194 sg194 d194:=zah mixd zan Tryz.func194 (zac rfl) Tryz.call194 (Nat.le_of_ble_eq_true (by kernel_rfl)) (by kernel_rfl) plan194 _ fun xs y h=>(ev194 xs).trans h
noncomputable def E194:FnE Tryz.prog:=⟨194,sg194,d194,sim194⟩
noncomputable def d196 (a:Int) (b:Int) (p2:List Int) (p3:uf1):Option Int :=
 bif (decide (0≤a) && decide (a < (p2.length:Int))) then
  bif (decide (0≤b) && decide (b < (p2.length:Int))) then
   bif !(decide ((List.getD p2 (Int.toNat a) 0)=(List.getD p2 (Int.toNat b) 0))) then
    bif (decide (0≤b) && decide (b < (p2.length:Int))) then
     bif (decide (0≤a) && decide (a < (p2.length:Int))) then
      some (w ((List.getD p2 (Int.toNat b) 0) - (List.getD p2 (Int.toNat a) 0)))
     else none
    else none
   else
    (d189 p3.2.2.1 a).bind fun r =>
    (d189 p3.2.2.1 b).bind fun r_1 =>
    some (w (r - r_1))
  else none
 else none
def sg196:Sig:=⟨[(y2,.bw),(y2,.bw),((.ptr y26),.bw),((.ptr y140),.bw)],[(y2,.sh)]⟩
def plan196:Plan:=(.seq (.reg [] []) (.seq (.seq (.reg [] []) (.cond (.seq (.reg [] []) .nil) .nil)) (.seq (.reg [] []) .nil)))
theorem ev196 (xs:Vals (ptys sg196.ps)):evF (P:=Tryz.prog) tab [.fn E189] sg196 Tryz.f196.results.toList (code Tryz.f196) plan196 xs=d196 xs.1 xs.2.1 xs.2.2.1 xs.2.2.2.1:=by kernel_rfl
theorem sim196:Sim Tryz.prog 196 sg196 d196:=zah mixd zan Tryz.func196 (zac rfl) Tryz.call196 (Nat.le_of_ble_eq_true (by kernel_rfl)) (by kernel_rfl) plan196 _ fun xs y h=>(ev196 xs).trans h
noncomputable def E196:FnE Tryz.prog:=⟨196,sg196,d196,sim196⟩
noncomputable def d228 (data:List Int) (a:Int) (b:Int) (cmp:(Int→Int→Option Int)):Option uf10 :=
 (zaa (β:=uf10) (fun ((data_1,a_1,b_1,cmp_1,i):uf10 × Int × Int × (Int→Int→Option Int) × Int) =>
   bif (decide (i < b_1)) then
    (zaa (β:=(uf10 × Int × Int × (Int→Int→Option Int) × Int)) (fun ((data_2,a_2,b_2,cmp_2,i_1,j_):uf10 × Int × Int × (Int→Int→Option Int) × Int × Int) =>
      letJ (fun ((data_3,a_3,b_3,cmp_3,i_2,j__1,t34):uf10 × Int × Int × (Int→Int→Option Int) × Int × Int × Bool) =>
        bif t34 then
         bif (decide (0≤(w (j__1 - 1))) && decide ((w (j__1 - 1)) < (data_3.length:Int))) then
          bif (decide (0≤j__1) && decide (j__1 < (data_3.length:Int))) then
           bif (decide (0≤j__1) && decide (j__1 < (data_3.length:Int))) then
            bif (decide (0≤(w (j__1 - 1))) && decide ((w (j__1 - 1)) < ((List.set data_3 (Int.toNat j__1) (List.getD data_3 (Int.toNat (w (j__1 - 1))) 0)).length:Int))) then
             some (Sum.inl ((List.set (List.set data_3 (Int.toNat j__1) (List.getD data_3 (Int.toNat (w (j__1 - 1))) 0)) (Int.toNat (w (j__1 - 1))) (List.getD data_3 (Int.toNat j__1) 0)),a_3,b_3,cmp_3,i_2,(w (j__1 - 1))))
            else none
           else none
          else none
         else none
        else
         some (Sum.inr (data_3,a_3,b_3,cmp_3,i_2))) fun j__2 =>
      bif (decide (a_2 < j_)) then
       bif (decide (0≤j_) && decide (j_ < (data_2.length:Int))) then
        bif (decide (0≤(w (j_ - 1))) && decide ((w (j_ - 1)) < (data_2.length:Int))) then
         (cmp_2 (List.getD data_2 (Int.toNat j_) 0) (List.getD data_2 (Int.toNat (w (j_ - 1))) 0)).bind fun r =>
         j__2 (data_2,a_2,b_2,cmp_2,i_1,j_,(decide (r < 0)))
        else none
       else none
      else
       j__2 (data_2,a_2,b_2,cmp_2,i_1,j_,false)) (data_1,a_1,b_1,cmp_1,i,i)).bind fun ((data_4,a_4,b_4,cmp_4,i_3):uf10 × Int × Int × (Int→Int→Option Int) × Int) =>
    some (Sum.inl (data_4,a_4,b_4,cmp_4,(w (i_3+1))))
   else
    some (Sum.inr data_1)) (data,a,b,cmp,(w (a+1)))).bind fun (data_5:List Int) =>
 some data_5
def sg228:Sig:=⟨[(y26,(.io (.own 3 .sh))),(y2,.sh),(y2,.sh),(y38,.bw)],[]⟩
def plan228:Plan:=(.seq (.reg [] []) (.block (.loop [(0,.v y26 (.own 3 .sh)),(1,.v y2 .sh),(2,.v y2 .sh),(3,.v y38 .bw),(8,.v y2 .sh)] [(.brk 0,[(0,.v y26 (.own 3 .sh))])] (.seq (.seq (.reg [] []) (.cond .nil .nil)) (.seq (.block (.seq (.reg [] []) (.block (.loop [(0,.v y26 (.own 3 .sh)),(1,.v y2 .sh),(2,.v y2 .sh),(3,.v y38 .bw),(8,.v y2 .sh),(9,.v y2 .sh)] [(.brk 2,[(0,.v y26 (.own 3 .sh)),(1,.v y2 .sh),(2,.v y2 .sh),(3,.v y38 .bw),(8,.v y2 .sh)])] (.seq (.join (.reg [] []) [(0,.v y26 (.own 3 .sh)),(1,.v y2 .sh),(2,.v y2 .sh),(3,.v y38 .bw),(8,.v y2 .sh),(9,.v y2 .sh),(34,.v y4 .sh)] (.cond .nil .nil)) (.seq (.block (.reg [] [])) (.reg [] []))))))) (.reg [] []))))))
theorem ev228 (xs:Vals (ptys sg228.ps)):evF (P:=Tryz.prog) tab [] sg228 Tryz.f228.results.toList (code Tryz.f228) plan228 xs=d228 xs.1 xs.2.1 xs.2.2.1 xs.2.2.2.1:=by kernel_rfl
theorem sim228:Sim Tryz.prog 228 sg228 d228:=zah mixd zan Tryz.func228 (zac rfl) Tryz.call228 (Nat.le_of_ble_eq_true (by kernel_rfl)) (by kernel_rfl) plan228 _ fun xs y h=>(ev228 xs).trans h
noncomputable def E228:FnE Tryz.prog:=⟨228,sg228,d228,sim228⟩
noncomputable def d229 (_x0:List Int) (_x1:Int) (_x2:Int) (_x3:(Int→Int→Option Int)):Option uf10:=none
def sg229:Sig:=⟨[(y26,(.io (.own 3 .sh))),(y2,.sh),(y2,.sh),(y38,.bw)],[]⟩
theorem sim229:Sim Tryz.prog 229 sg229 d229:=⟨Tryz.call229,fun xs y h=>absurd (show (none:Option _)=some y from h) (by simp)⟩
noncomputable def E229:FnE Tryz.prog:=⟨229,sg229,d229,sim229⟩
noncomputable def d230 (_x0:List Int) (_x1:Int) (_x2:Int) (_x3:(Int→Int→Option Int)):Option uf10:=none
def sg230:Sig:=⟨[(y26,(.io (.own 3 .sh))),(y2,.sh),(y2,.sh),(y38,.bw)],[]⟩
theorem sim230:Sim Tryz.prog 230 sg230 d230:=⟨Tryz.call230,fun xs y h=>absurd (show (none:Option _)=some y from h) (by simp)⟩
noncomputable def E230:FnE Tryz.prog:=⟨230,sg230,d230,sim230⟩
noncomputable def d231 (_x0:List Int) (_x1:Int) (_x2:Int) (_x3:(Int→Int→Option Int)):Option (Int × Int × uf10):=none
def sg231:Sig:=⟨[(y26,(.io (.own 3 .sh))),(y2,.sh),(y2,.sh),(y38,.bw)],[(y2,.sh),(y2,.sh)]⟩
theorem sim231:Sim Tryz.prog 231 sg231 d231:=⟨Tryz.call231,fun xs y h=>absurd (show (none:Option _)=some y from h) (by simp)⟩
noncomputable def E231:FnE Tryz.prog:=⟨231,sg231,d231,sim231⟩
noncomputable def d232 (_x0:List Int) (_x1:Int) (_x2:Int) (_x3:(Int→Int→Option Int)):Option uf10:=none
def sg232:Sig:=⟨[(y26,(.io (.own 3 .sh))),(y2,.sh),(y2,.sh),(y38,.bw)],[]⟩
theorem sim232:Sim Tryz.prog 232 sg232 d232:=⟨Tryz.call232,fun xs y h=>absurd (show (none:Option _)=some y from h) (by simp)⟩
noncomputable def E232:FnE Tryz.prog:=⟨232,sg232,d232,sim232⟩
noncomputable def d233 (_x0:List Int) (_x1:Int) (_x2:Int) (_x3:(Int→Int→Option Int)):Option (Bool × uf10):=none
def sg233:Sig:=⟨[(y26,(.io (.own 3 .sh))),(y2,.sh),(y2,.sh),(y38,.bw)],[(y4,.sh)]⟩
theorem sim233:Sim Tryz.prog 233 sg233 d233:=⟨Tryz.call233,fun xs y h=>absurd (show (none:Option _)=some y from h) (by simp)⟩
noncomputable def E233:FnE Tryz.prog:=⟨233,sg233,d233,sim233⟩
noncomputable def d234 (_x0:List Int) (_x1:Int) (_x2:Int) (_x3:Int) (_x4:(Int→Int→Option Int)):Option (Int × uf10):=none
def sg234:Sig:=⟨[(y26,(.io (.own 3 .sh))),(y2,.sh),(y2,.sh),(y2,.sh),(y38,.bw)],[(y2,.sh)]⟩
theorem sim234:Sim Tryz.prog 234 sg234 d234:=⟨Tryz.call234,fun xs y h=>absurd (show (none:Option _)=some y from h) (by simp)⟩
noncomputable def E234:FnE Tryz.prog:=⟨234,sg234,d234,sim234⟩
noncomputable def d235 (_x0:List Int) (_x1:Int) (_x2:Int) (_x3:Int) (_x4:(Int→Int→Option Int)):Option (Int × Bool × uf10):=none
def sg235:Sig:=⟨[(y26,(.io (.own 3 .sh))),(y2,.sh),(y2,.sh),(y2,.sh),(y38,.bw)],[(y2,.sh),(y4,.sh)]⟩
theorem sim235:Sim Tryz.prog 235 sg235 d235:=⟨Tryz.call235,fun xs y h=>absurd (show (none:Option _)=some y from h) (by simp)⟩
noncomputable def E235:FnE Tryz.prog:=⟨235,sg235,d235,sim235⟩
noncomputable def d214F (self_:uf10→Int→Int→Int→(Int→Int→Option Int)→Option uf10) (p0:List Int) (p1:Int) (p2:Int) (p3:Int) (p4:(Int→Int→Option Int)):Option uf10 :=
 (zaa (β:=uf10) (fun ((t0,t1,t2,t3,t4,t10,t11):uf10 × Int × Int × Int × (Int→Int→Option Int) × Bool × Bool) =>
   bif (decide ((w (t2 - t1))≤12)) then
    (d228 t0 t1 t2 t4).bind fun r =>
    some (Sum.inr r)
   else
    bif (decide (t3=0)) then
     (d229 t0 t1 t2 t4).bind fun r_1 =>
     some (Sum.inr r_1)
    else
     letJ (fun ((t0_1,t1_1,t2_1,t3_1,t4_1,t10_1,t11_1,t12):uf10 × Int × Int × Int × (Int→Int→Option Int) × Bool × Bool × Int) =>
       (d231 t0_1 t1_1 t2_1 t4_1).bind fun r_3 =>
       letJ (fun ((t0_2,t1_2,t2_2,t3_2,t4_2,t10_2,t11_2,t12_1,t13,t14):uf10 × Int × Int × Int × (Int→Int→Option Int) × Bool × Bool × Int × Int × Int) =>
         letJ (fun ((t0_4,t1_4,t2_4,t3_4,t4_4,t10_4,t11_4,t12_3,t13_2):uf10 × Int × Int × Int × (Int→Int→Option Int) × Bool × Bool × Int × Int) =>
           letJ (fun ((t0_5,t1_5,t2_5,t3_5,t4_5,t10_5,t11_5,t12_4,t13_3,t97):uf10 × Int × Int × Int × (Int→Int→Option Int) × Bool × Bool × Int × Int × Bool) =>
             bif t97 then
              (d234 t0_5 t1_5 t2_5 t13_3 t4_5).bind fun r_7 =>
              some (Sum.inl (r_7.2,r_7.1,t2_5,t3_5,t4_5,t10_5,t11_5))
             else
              (d235 t0_5 t1_5 t2_5 t13_3 t4_5).bind fun r_8 =>
              bif (decide ((w (r_8.1 - t1_5)) < (w (t2_5 - r_8.1)))) then
               (self_ r_8.2.2 t1_5 r_8.1 t3_5 t4_5).bind fun r_9 =>
               some (Sum.inl (r_9,(w (r_8.1+1)),t2_5,t3_5,t4_5,(decide ((w (Int.tdiv t12_4 8))≤(w (r_8.1 - t1_5)))),r_8.2.1))
              else
               (self_ r_8.2.2 (w (r_8.1+1)) t2_5 t3_5 t4_5).bind fun r_10 =>
               some (Sum.inl (r_10,t1_5,r_8.1,t3_5,t4_5,(decide ((w (Int.tdiv t12_4 8))≤(w (t2_5 - r_8.1)))),r_8.2.1))) fun j__4 =>
           bif (decide (0 < t1_4)) then
            bif (decide (0≤(w (t1_4 - 1))) && decide ((w (t1_4 - 1)) < (t0_4.length:Int))) then
             bif (decide (0≤t13_2) && decide (t13_2 < (t0_4.length:Int))) then
              (t4_4 (List.getD t0_4 (Int.toNat (w (t1_4 - 1))) 0) (List.getD t0_4 (Int.toNat t13_2) 0)).bind fun r_6 =>
              j__4 (t0_4,t1_4,t2_4,t3_4,t4_4,t10_4,t11_4,t12_3,t13_2,!(decide (r_6 < 0)))
             else none
            else none
           else
            j__4 (t0_4,t1_4,t2_4,t3_4,t4_4,t10_4,t11_4,t12_3,t13_2,false)) fun j__3 =>
         letJ (fun ((t0_3,t1_3,t2_3,t3_3,t4_3,t10_3,t11_3,t12_2,t13_1,t75):uf10 × Int × Int × Int × (Int→Int→Option Int) × Bool × Bool × Int × Int × Bool) =>
           bif t75 then
            (d233 t0_3 t1_3 t2_3 t4_3).bind fun r_5 =>
            bif r_5.1 then
             some (Sum.inr r_5.2)
            else
             j__3 (r_5.2,t1_3,t2_3,t3_3,t4_3,t10_3,t11_3,t12_2,t13_1)
           else
            j__3 (t0_3,t1_3,t2_3,t3_3,t4_3,t10_3,t11_3,t12_2,t13_1)) fun j__2 =>
         bif t10_2 then
          bif t11_2 then
           j__2 (t0_2,t1_2,t2_2,t3_2,t4_2,t10_2,t11_2,t12_1,t13,(decide (t14=1)))
          else
           j__2 (t0_2,t1_2,t2_2,t3_2,t4_2,t10_2,t11_2,t12_1,t13,false)
         else
          j__2 (t0_2,t1_2,t2_2,t3_2,t4_2,t10_2,t11_2,t12_1,t13,false)) fun j__1 =>
       bif (decide (r_3.2.1=2)) then
        (d232 r_3.2.2 t1_1 t2_1 t4_1).bind fun r_4 =>
        j__1 (r_4,t1_1,t2_1,t3_1,t4_1,t10_1,t11_1,t12,(w ((w (t2_1 - 1)) - (w (r_3.1 - t1_1)))),1)
       else
        j__1 (r_3.2.2,t1_1,t2_1,t3_1,t4_1,t10_1,t11_1,t12,r_3.1,r_3.2.1)) fun j_ =>
     bif !t10 then
      (d230 t0 t1 t2 t4).bind fun r_2 =>
      j_ (r_2,t1,t2,(w (t3 - 1)),t4,t10,t11,(w (t2 - t1)))
     else
      j_ (t0,t1,t2,t3,t4,t10,t11,(w (t2 - t1)))) (p0,p1,p2,p3,p4,true,true)).bind fun (t0_6:List Int) =>
 some t0_6
def sg214:Sig:=⟨[(y26,(.io (.own 3 .sh))),(y2,.sh),(y2,.sh),(y2,.sh),(y38,.bw)],[]⟩
def plan214:Plan:=(.seq (.reg [] []) (.seq (.reg [] []) (.block (.loop [(0,.v y26 (.own 3 .sh)),(1,.v y2 .sh),(2,.v y2 .sh),(3,.v y2 .sh),(4,.v y38 .bw),(10,.v y4 .sh),(11,.v y4 .sh)] [(.ret,[(0,.v y26 (.own 3 .sh))])] (.block (.seq (.reg [] []) (.seq (.seq (.reg [] []) (.cond (.seq (.reg [] []) .nil) .nil)) (.seq (.seq (.reg [] []) (.cond (.seq (.reg [] []) .nil) .nil)) (.join (.seq (.reg [] []) (.cond (.seq (.reg [] []) (.reg [] [])) .nil)) [(0,.v y26 (.own 3 .sh)),(1,.v y2 .sh),(2,.v y2 .sh),(3,.v y2 .sh),(4,.v y38 .bw),(10,.v y4 .sh),(11,.v y4 .sh),(12,.v y2 .sh)] (.seq (.reg [] [{},{},{},{},{},{ fl:=1 }]) (.join (.seq (.reg [] []) (.cond (.seq (.reg [] []) (.seq (.reg [] []) (.reg [] []))) .nil)) [(0,.v y26 (.own 3 .sh)),(1,.v y2 .sh),(2,.v y2 .sh),(3,.v y2 .sh),(4,.v y38 .bw),(10,.v y4 .sh),(11,.v y4 .sh),(12,.v y2 .sh),(13,.v y2 .sh),(14,.v y2 .sh)] (.join (.join (.reg [] []) [(0,.v y26 (.own 3 .sh)),(1,.v y2 .sh),(2,.v y2 .sh),(3,.v y2 .sh),(4,.v y38 .bw),(10,.v y4 .sh),(11,.v y4 .sh),(12,.v y2 .sh),(13,.v y2 .sh),(75,.v y4 .sh)] (.cond (.seq (.reg [] []) (.cond .nil .nil)) .nil)) [(0,.v y26 (.own 3 .sh)),(1,.v y2 .sh),(2,.v y2 .sh),(3,.v y2 .sh),(4,.v y38 .bw),(10,.v y4 .sh),(11,.v y4 .sh),(12,.v y2 .sh),(13,.v y2 .sh)] (.seq (.join (.reg [] []) [(0,.v y26 (.own 3 .sh)),(1,.v y2 .sh),(2,.v y2 .sh),(3,.v y2 .sh),(4,.v y38 .bw),(10,.v y4 .sh),(11,.v y4 .sh),(12,.v y2 .sh),(13,.v y2 .sh),(97,.v y4 .sh)] (.cond (.seq (.reg [] []) (.seq (.reg [] []) .nil)) .nil)) (.seq (.reg [] [{},{},{},{},{},{},{ fl:=1 }]) (.seq (.reg [] []) (.seq (.reg [] []) (.seq (.reg [] []) (.seq (.reg [] []) (.cond (.seq (.reg [] []) (.seq (.reg [] []) (.reg [] []))) (.seq (.reg [] []) (.seq (.reg [] []) (.reg [] []))))))))))))))))))))))
noncomputable def d214N:Nat→Arr (ptys sg214.ps) (Option (Ret sg214.res))
 | 0=>fun _ _ _ _ _=>none
 | k+1=>d214F (d214N k)
theorem ev214 (g:Arr (ptys sg214.ps) (Option (Ret sg214.res))) (h:Sim Tryz.prog 214 sg214 g) (xs:Vals (ptys sg214.ps)):evF (P:=Tryz.prog) tab [.fn E228,.fn E229,.fn E230,.fn E231,.fn E232,.fn E233,.fn E234,.fn E235,.fn ⟨214,sg214,g,h⟩] sg214 Tryz.f214.results.toList (code Tryz.f214) plan214 xs=d214F g xs.1 xs.2.1 xs.2.2.1 xs.2.2.2.1 xs.2.2.2.2.1:=by kernel_rfl
theorem sim214N:∀ k,Sim Tryz.prog 214 sg214 (d214N k)
 | 0=>⟨Tryz.call214,fun xs y h=>absurd (show (none:Option _)=some y from h) (by simp)⟩
 | k+1=>zah mixd zan Tryz.func214 (zac rfl) Tryz.call214 (Nat.le_of_ble_eq_true (by kernel_rfl)) (by kernel_rfl) plan214 _ fun xs y h=>(ev214 _ (sim214N k) xs).trans h
noncomputable def d214 (p0:List Int) (p1:Int) (p2:Int) (p3:Int) (p4:(Int→Int→Option Int)):Option uf10:=d214N 2 p0 p1 p2 p3 p4
theorem sim214:Sim Tryz.prog 214 sg214 d214:=sim214N 2
noncomputable def E214:FnE Tryz.prog:=⟨214,sg214,d214,sim214⟩
noncomputable def d195 (x:List Int) (cmp:(Int→Int→Option Int)):Option uf10 :=
 (d208 (wu64 (x.length:Int))).bind fun r =>
 (d214 x 0 (x.length:Int) r cmp).bind fun r_1 =>
 some r_1
def sg195:Sig:=⟨[(y26,(.io (.own 3 .sh))),(y38,.bw)],[]⟩
def plan195:Plan:=(.seq (.reg [] []) (.reg [] []))
theorem ev195 (xs:Vals (ptys sg195.ps)):evF (P:=Tryz.prog) tab [.fn E208,.fn E214] sg195 Tryz.f195.results.toList (code Tryz.f195) plan195 xs=d195 xs.1 xs.2.1:=by kernel_rfl
theorem sim195:Sim Tryz.prog 195 sg195 d195:=zah mixd zan Tryz.func195 (zac rfl) Tryz.call195 (Nat.le_of_ble_eq_true (by kernel_rfl)) (by kernel_rfl) plan195 _ fun xs y h=>(ev195 xs).trans h
noncomputable def E195:FnE Tryz.prog:=⟨195,sg195,d195,sim195⟩
noncomputable def d160 (k:uf1) (votes:List Int) (quota:Int):Option uf10 :=
 (d161 k 0).bind fun r =>
 (d134 r (fun a=>d194 a votes quota)).bind fun r_1 =>
 (d195 r_1 (fun a_1 a_2=>d196 a_1 a_2 votes k)).bind fun r_2 =>
 bif (zcf 0 (bif (decide ((w (k.1.2.2.2.1 - k.2.2.2.2.2.2.1)) < (r_2.length:Int))) then (w (k.1.2.2.2.1 - k.2.2.2.2.2.2.1)) else (r_2.length:Int)) r_2.length) then
  some (List.take (Int.toNat (bif (decide ((w (k.1.2.2.2.1 - k.2.2.2.2.2.2.1)) < (r_2.length:Int))) then (w (k.1.2.2.2.1 - k.2.2.2.2.2.2.1)) else (r_2.length:Int))) r_2)
 else none
def sg160:Sig:=⟨[(y140,.bw),(y26,.bw),(y2,.sh)],[(y26,(.own 3 .sh))]⟩
def plan160:Plan:=(.seq (.reg [] []) (.seq (.reg [] []) (.seq (.reg [] []) (.seq (.reg [] []) .nil))))
theorem ev160 (xs:Vals (ptys sg160.ps)):evF (P:=Tryz.prog) tab [.fn E161,.fn E134,.fn E194,.fn E195,.fn E196] sg160 Tryz.f160.results.toList (code Tryz.f160) plan160 xs=d160 xs.1 xs.2.1 xs.2.2.1:=by kernel_rfl
theorem sim160:Sim Tryz.prog 160 sg160 d160:=zah mixd zan Tryz.func160 (zac rfl) Tryz.call160 (Nat.le_of_ble_eq_true (by kernel_rfl)) (by kernel_rfl) plan160 _ fun xs y h=>(ev160 xs).trans h
noncomputable def E160:FnE Tryz.prog:=⟨160,sg160,d160,sim160⟩
noncomputable def d159 (k:uf1) (r:uf3) (candidates:List Int):Option uf0 :=
 (zaa (β:=uf0) (fun ((k_1,r_1,t8,t9,t10):uf1 × uf3 × uf10 × Int × Int) =>
   bif (decide (t10 < t9)) then
    bif (decide (0≤t10) && decide (t10 < (t8.length:Int))) then
     bif (decide (0≤(List.getD t8 (Int.toNat t10) 0)) && decide ((List.getD t8 (Int.toNat t10) 0) < (k_1.2.2.2.2.1.length:Int))) then
      bif (decide ((r_1.2.2.2.2.2.1.length:Int)+(([(List.getD t8 (Int.toNat t10) 0)]:List Int).length:Int)≤LIM)) then
       some (Sum.inl ((k_1.1,k_1.2.1,k_1.2.2.1,k_1.2.2.2.1,(List.set k_1.2.2.2.2.1 (Int.toNat (List.getD t8 (Int.toNat t10) 0)) 1),k_1.2.2.2.2.2.1,(w (k_1.2.2.2.2.2.2.1+1)),k_1.2.2.2.2.2.2.2),(r_1.1,r_1.2.1,r_1.2.2.1,r_1.2.2.2.1,r_1.2.2.2.2.1,(r_1.2.2.2.2.2.1++[(List.getD t8 (Int.toNat t10) 0)]),r_1.2.2.2.2.2.2),t8,t9,(w (t10+1))))
      else none
     else none
    else none
   else
    some (Sum.inr (k_1,r_1))) (k,r,candidates,(candidates.length:Int),0)).bind fun ((k_2,r_2):uf1 × uf3) =>
 (d174 r_2.2.2.2.2.2.1).bind fun r_3 =>
 some (k_2,(r_2.1,r_2.2.1,r_2.2.2.1,r_2.2.2.2.1,r_2.2.2.2.2.1,r_3,r_2.2.2.2.2.2.2))
def sg159:Sig:=⟨[(y140,(.io (.own 0 (.pr .sh (.pr .sh (.pr .sh (.pr .sh (.pr (.own 3 .sh) (.pr (.own 3 .sh) (.pr .sh (.pr (.own 53 .sh) (.pr .sh (.pr .sh (.pr .sh (.pr .sh (.pr .sh (.pr .sh (.pr (.own 59 .sh) (.own 3 .sh))))))))))))))))))),(y154,(.io (.own 0 (.pr .sh (.pr .sh (.pr .sh (.pr .sh (.pr .sh (.pr (.own 3 .sh) (.pr .sh .sh)))))))))),(y26,.bw)],[]⟩
def plan159:Plan:=(.seq (.seq (.reg [] []) (.block (.loop [(0,.v y140 (.own 0 (.pr .sh (.pr .sh (.pr .sh (.pr .sh (.pr (.own 3 .sh) (.pr (.own 3 .sh) (.pr .sh (.pr (.own 53 .sh) (.pr .sh (.pr .sh (.pr .sh (.pr .sh (.pr .sh (.pr .sh (.pr (.own 59 .sh) (.own 3 .sh)))))))))))))))))),(1,.v y154 (.own 0 (.pr .sh (.pr .sh (.pr .sh (.pr .sh (.pr .sh (.pr (.own 3 .sh) (.pr .sh .sh))))))))),(8,.v y26 .bw),(9,.v y2 .sh),(10,.v y2 .sh)] [(.brk 0,[(0,.v y140 (.own 0 (.pr .sh (.pr .sh (.pr .sh (.pr .sh (.pr (.own 3 .sh) (.pr (.own 3 .sh) (.pr .sh (.pr (.own 53 .sh) (.pr .sh (.pr .sh (.pr .sh (.pr .sh (.pr .sh (.pr .sh (.pr (.own 59 .sh) (.own 3 .sh)))))))))))))))))),(1,.v y154 (.own 0 (.pr .sh (.pr .sh (.pr .sh (.pr .sh (.pr .sh (.pr (.own 3 .sh) (.pr .sh .sh)))))))))])] (.seq (.reg [] []) (.seq (.cond .nil .nil) (.seq (.block (.seq (.reg [] []) (.seq (.reg [] []) (.seq (.reg [] []) (.reg [] []))))) (.reg [] []))))))) (.reg [] []))
theorem ev159 (xs:Vals (ptys sg159.ps)):evF (P:=Tryz.prog) tab [.fn E174] sg159 Tryz.f159.results.toList (code Tryz.f159) plan159 xs=d159 xs.1 xs.2.1 xs.2.2.1:=by kernel_rfl
theorem sim159:Sim Tryz.prog 159 sg159 d159:=zah mixd zan Tryz.func159 (zac rfl) Tryz.call159 (Nat.le_of_ble_eq_true (by kernel_rfl)) (by kernel_rfl) plan159 _ fun xs y h=>(ev159 xs).trans h
noncomputable def E159:FnE Tryz.prog:=⟨159,sg159,d159,sim159⟩
noncomputable def d60 (digits:Int):Option Int :=
 letJ (fun ((digits_1,t8):Int × Bool) =>
   bif t8 then
    some 0
   else
    (d111 (w (Int.tdiv digits_1 2))).bind fun r =>
    some r) fun j_ =>
 bif !(decide (digits < 1)) then
  j_ (digits,(decide (6 < digits)))
 else
  j_ (digits,true)
def sg60:Sig:=⟨[(y2,.sh)],[(y2,.sh)]⟩
def plan60:Plan:=(.seq (.reg [] []) (.seq (.join (.reg [] []) [(0,.v y2 .sh),(8,.v y4 .sh)] (.cond (.seq (.reg [] []) .nil) .nil)) (.seq (.reg [] []) .nil)))
theorem ev60 (xs:Vals (ptys sg60.ps)):evF (P:=Tryz.prog) tab [.fn E111] sg60 Tryz.f60.results.toList (code Tryz.f60) plan60 xs=d60 xs.1:=by kernel_rfl
theorem sim60:Sim Tryz.prog 60 sg60 d60:=zah mixd zan Tryz.func60 (zac rfl) Tryz.call60 (Nat.le_of_ble_eq_true (by kernel_rfl)) (by kernel_rfl) plan60 _ fun xs y h=>(ev60 xs).trans h
noncomputable def E60:FnE Tryz.prog:=⟨60,sg60,d60,sim60⟩
noncomputable def d162 (k:uf1) (surplus:Int) (rounds:Int):Option Bool :=
 letJ (fun ((k_1,surplus_1,t24):uf1 × Int × Bool) =>
   bif t24 then
    some true
   else
    bif (decide (0≤(w ((k_1.2.2.2.2.2.2.2.2.2.2.2.2.2.2.1.length:Int) - 1)))) then
     bif (decide (0≤(w ((k_1.2.2.2.2.2.2.2.2.2.2.2.2.2.2.1.length:Int) - 1))) && decide ((w ((k_1.2.2.2.2.2.2.2.2.2.2.2.2.2.2.1.length:Int) - 1)) < (k_1.2.2.2.2.2.2.2.2.2.2.2.2.2.2.1.length:Int))) then
      bif (decide ((((((((((List.getD k_1.2.2.2.2.2.2.2.2.2.2.2.2.2.2.1 (Int.toNat (w ((k_1.2.2.2.2.2.2.2.2.2.2.2.2.2.2.1.length:Int) - 1))) ([],[],(false,[],[]),(false,[],[]),(false,[],[]),[],[],[])).2).2).2).2).2).2).1).length:Int)=0)) then
       some (decide (k_1.2.2.2.2.2.2.2.2.2.1≤surplus_1))
      else
       some false
     else none
    else
     some false) fun j_ =>
 (d60 k.1.2.2.2.2.2.1).bind fun r =>
 bif !(decide (surplus < r)) then
  j_ (k,surplus,(decide (60≤(w (rounds - k.2.2.2.2.2.2.2.2.1)))))
 else
  j_ (k,surplus,true)
def sg162:Sig:=⟨[(y140,.bw),(y2,.sh),(y2,.sh)],[(y4,.sh)]⟩
def plan162:Plan:=(.seq (.reg [] []) (.seq (.join (.reg [] []) [(0,.v y140 .bw),(1,.v y2 .sh),(24,.v y4 .sh)] (.cond (.seq (.reg [] []) .nil) .nil)) (.seq (.reg [] []) (.seq (.reg [] []) .nil))))
theorem ev162 (xs:Vals (ptys sg162.ps)):evF (P:=Tryz.prog) tab [.fn E60] sg162 Tryz.f162.results.toList (code Tryz.f162) plan162 xs=d162 xs.1 xs.2.1 xs.2.2.1:=by kernel_rfl
theorem sim162:Sim Tryz.prog 162 sg162 d162:=zah mixd zan Tryz.func162 (zac rfl) Tryz.call162 (Nat.le_of_ble_eq_true (by kernel_rfl)) (by kernel_rfl) plan162 _ fun xs y h=>(ev162 xs).trans h
noncomputable def E162:FnE Tryz.prog:=⟨162,sg162,d162,sim162⟩
noncomputable def d197 (c:Int) (p1:List Int) (p2:Int) (p3:Int):Option Bool :=
 bif (decide (0≤c) && decide (c < (p1.length:Int))) then
  some (decide ((w (p2+p3)) < (List.getD p1 (Int.toNat c) 0)))
 else none
def sg197:Sig:=⟨[(y2,.bw),((.ptr y26),.bw),(y233,.bw),(y233,.bw)],[(y4,.sh)]⟩
def plan197:Plan:=(.seq (.reg [] []) (.seq (.reg [] []) .nil))
theorem ev197 (xs:Vals (ptys sg197.ps)):evF (P:=Tryz.prog) tab [] sg197 Tryz.f197.results.toList (code Tryz.f197) plan197 xs=d197 xs.1 xs.2.1 xs.2.2.1 xs.2.2.2.1:=by kernel_rfl
theorem sim197:Sim Tryz.prog 197 sg197 d197:=zah mixd zan Tryz.func197 (zac rfl) Tryz.call197 (Nat.le_of_ble_eq_true (by kernel_rfl)) (by kernel_rfl) plan197 _ fun xs y h=>(ev197 xs).trans h
noncomputable def E197:FnE Tryz.prog:=⟨197,sg197,d197,sim197⟩
noncomputable def d163 (p0:uf1) (p1:uf3) (p2:List Int) (p3:Int):Option uf0 :=
 (d161 p0 0).bind fun r =>
 bif (decide (0≤0) && decide (0 < (r.length:Int))) then
  bif (decide (0≤(List.getD r 0 0)) && decide ((List.getD r 0 0) < (p2.length:Int))) then
   (zaa (β:=(uf1 × uf3 × uf10 × Int × uf10 × Int)) (fun ((t0,t1,t6,t7,t8,t9,t23,t24):uf1 × uf3 × uf10 × Int × uf10 × Int × Int × Int) =>
     bif (decide (t24 < t23)) then
      bif (decide (0≤t24) && decide (t24 < (t8.length:Int))) then
       bif (decide (0≤(List.getD t8 (Int.toNat t24) 0)) && decide ((List.getD t8 (Int.toNat t24) 0) < (t6.length:Int))) then
        some (Sum.inl (t0,t1,t6,t7,t8,(bif (decide ((List.getD t6 (Int.toNat (List.getD t8 (Int.toNat t24) 0)) 0) < t9)) then (List.getD t6 (Int.toNat (List.getD t8 (Int.toNat t24) 0)) 0) else t9),t23,(w (t24+1))))
       else none
      else none
     else
      some (Sum.inr (t0,t1,t6,t7,t8,t9))) (p0,p1,p2,p3,r,(List.getD p2 (Int.toNat (List.getD r 0 0)) 0),(r.length:Int),0)).bind fun ((t0_1,t1_1,t6_1,t7_1,t8_1,t9_1):uf1 × uf3 × uf10 × Int × uf10 × Int) =>
   (d134 t8_1 (fun a=>d197 a t6_1 t9_1 t7_1)).bind fun r_1 =>
   bif (decide (0≤0) && decide (0 < (r_1.length:Int))) then
    letJ (fun ((t0_2,t1_2,t13):uf1 × uf3 × Int) =>
      bif (decide (0≤t13) && decide (t13 < (t0_2.2.2.2.2.1.length:Int))) then
       bif (decide (0≤t13) && decide (t13 < (t0_2.2.2.2.2.2.1.length:Int))) then
        some ((t0_2.1,t0_2.2.1,t0_2.2.2.1,t0_2.2.2.2.1,(List.set t0_2.2.2.2.2.1 (Int.toNat t13) 2),(List.set t0_2.2.2.2.2.2.1 (Int.toNat t13) 0),t0_2.2.2.2.2.2.2),(t1_2.1,t1_2.2.1,t1_2.2.2.1,t1_2.2.2.2.1,t1_2.2.2.2.2.1,t1_2.2.2.2.2.2.1,[t13],t1_2.2.2.2.2.2.2.2))
       else none
      else none) fun j_ =>
    bif (decide (1 < (r_1.length:Int))) then
     (d155 t0_1.1.2.2.2.2.2.2.1 t0_1.2.2.2.2.2.2.2.1 r_1 t0_1.2.2.1 true).bind fun r_2 =>
     j_ ((t0_1.1,t0_1.2.1,t0_1.2.2.1,t0_1.2.2.2.1,t0_1.2.2.2.2.1,t0_1.2.2.2.2.2.1,t0_1.2.2.2.2.2.2.1,r_2.2.2,t0_1.2.2.2.2.2.2.2.2),(t1_1.1,t1_1.2.1,t1_1.2.2.1,t1_1.2.2.2.1,t1_1.2.2.2.2.1,t1_1.2.2.2.2.2.1,t1_1.2.2.2.2.2.2.1,r_1),r_2.1)
    else
     j_ (t0_1,t1_1,(List.getD r_1 0 0))
   else none
  else none
 else none
def sg163:Sig:=⟨[(y140,(.io (.own 0 (.pr .sh (.pr .sh (.pr .sh (.pr .sh (.pr (.own 3 .sh) (.pr (.own 3 .sh) (.pr .sh (.pr (.own 53 .sh) (.pr .sh (.pr .sh (.pr .sh (.pr .sh (.pr .sh (.pr .sh (.pr (.own 59 .sh) (.own 3 .sh))))))))))))))))))),(y154,(.io (.own 0 (.pr .sh (.pr .sh (.pr .sh (.pr .sh (.pr .sh (.pr (.own 3 .sh) (.pr .sh .sh)))))))))),(y26,.bw),(y2,.sh)],[]⟩
def plan163:Plan:=(.seq (.reg [] []) (.seq (.reg [] []) (.seq (.reg [] []) (.seq (.seq (.reg [] []) (.block (.loop [(0,.v y140 (.own 0 (.pr .sh (.pr .sh (.pr .sh (.pr .sh (.pr (.own 3 .sh) (.pr (.own 3 .sh) (.pr .sh (.pr (.own 53 .sh) (.pr .sh (.pr .sh (.pr .sh (.pr .sh (.pr .sh (.pr .sh (.pr (.own 59 .sh) (.own 3 .sh)))))))))))))))))),(1,.v y154 (.own 0 (.pr .sh (.pr .sh (.pr .sh (.pr .sh (.pr .sh (.pr (.own 3 .sh) (.pr .sh .sh))))))))),(6,.v (.ptr y26) (.own 0 .bw)),(7,.v y233 (.own 0 .sh)),(8,.v y26 (.own 3 .sh)),(9,.v y233 (.own 0 .sh)),(22,.view 8 []),(23,.v y2 .sh),(24,.v y2 .sh)] [(.brk 0,[(0,.v y140 (.own 0 (.pr .sh (.pr .sh (.pr .sh (.pr .sh (.pr (.own 3 .sh) (.pr (.own 3 .sh) (.pr .sh (.pr (.own 53 .sh) (.pr .sh (.pr .sh (.pr .sh (.pr .sh (.pr .sh (.pr .sh (.pr (.own 59 .sh) (.own 3 .sh)))))))))))))))))),(1,.v y154 (.own 0 (.pr .sh (.pr .sh (.pr .sh (.pr .sh (.pr .sh (.pr (.own 3 .sh) (.pr .sh .sh))))))))),(6,.v (.ptr y26) (.own 0 .bw)),(7,.v y233 (.own 0 .sh)),(8,.v y26 (.own 3 .sh)),(9,.v y233 (.own 0 .sh))])] (.seq (.reg [] []) (.seq (.cond .nil .nil) (.seq (.block (.seq (.reg [] []) (.reg [] []))) (.reg [] []))))))) (.seq (.reg [] []) (.seq (.reg [] []) (.join (.seq (.reg [] []) (.cond (.seq (.reg [(12,[])] []) (.reg [] [{},{},{},{},{},{},{},{},{},{},{},{},{},{},{},{ fl:=1 }])) .nil)) [(0,.v y140 (.own 0 (.pr .sh (.pr .sh (.pr .sh (.pr .sh (.pr (.own 3 .sh) (.pr (.own 3 .sh) (.pr .sh (.pr (.own 53 .sh) (.pr .sh (.pr .sh (.pr .sh (.pr .sh (.pr .sh (.pr .sh (.pr (.own 59 .sh) (.own 3 .sh)))))))))))))))))),(1,.v y154 (.own 0 (.pr .sh (.pr .sh (.pr .sh (.pr .sh (.pr .sh (.pr (.own 3 .sh) (.pr .sh .sh))))))))),(13,.v y2 .sh)] (.seq (.reg [] []) (.seq (.reg [(1,[0,1,1,1,1,1,1,0])] []) (.reg [] []))))))))))
theorem ev163 (xs:Vals (ptys sg163.ps)):evF (P:=Tryz.prog) tab [.fn E161,.fn E134,.fn E197,.fn E155] sg163 Tryz.f163.results.toList (code Tryz.f163) plan163 xs=d163 xs.1 xs.2.1 xs.2.2.1 xs.2.2.2.1:=by kernel_rfl
theorem sim163:Sim Tryz.prog 163 sg163 d163:=zah mixd zan Tryz.func163 (zac rfl) Tryz.call163 (Nat.le_of_ble_eq_true (by kernel_rfl)) (by kernel_rfl) plan163 _ fun xs y h=>(ev163 xs).trans h
noncomputable def E163:FnE Tryz.prog:=⟨163,sg163,d163,sim163⟩
noncomputable def d164 (k:uf1) (votes:List Int) (quota:Int):Option uf1 :=
 (d161 k 1).bind fun r =>
 (zaa (β:=uf1) (fun ((k_1,votes_1,quota_1,t9,t10,t11):uf1 × uf10 × Int × uf10 × Int × Int) =>
   bif (decide (t11 < t10)) then
    letJ (fun ((k_2,votes_2,quota_2,t9_1,t10_1,t11_1):uf1 × uf10 × Int × uf10 × Int × Int) =>
      some (Sum.inl (k_2,votes_2,quota_2,t9_1,t10_1,(w (t11_1+1))))) fun j_ =>
    bif (decide (0≤t11) && decide (t11 < (t9.length:Int))) then
     bif (decide (0≤(List.getD t9 (Int.toNat t11) 0)) && decide ((List.getD t9 (Int.toNat t11) 0) < (votes_1.length:Int))) then
      bif (decide (0 < (List.getD votes_1 (Int.toNat (List.getD t9 (Int.toNat t11) 0)) 0))) then
       bif (decide (0≤(List.getD t9 (Int.toNat t11) 0)) && decide ((List.getD t9 (Int.toNat t11) 0) < (k_1.2.2.2.2.2.1.length:Int))) then
        (d121 (w ((List.getD k_1.2.2.2.2.2.1 (Int.toNat (List.getD t9 (Int.toNat t11) 0)) 0) * quota_1)) k_1.2.2.2.1).bind fun r_1 =>
        bif (decide (0≤(List.getD t9 (Int.toNat t11) 0)) && decide ((List.getD t9 (Int.toNat t11) 0) < (votes_1.length:Int))) then
         (d121 (w (r_1 * k_1.2.2.2.1)) (List.getD votes_1 (Int.toNat (List.getD t9 (Int.toNat t11) 0)) 0)).bind fun r_2 =>
         bif (decide (0≤(List.getD t9 (Int.toNat t11) 0)) && decide ((List.getD t9 (Int.toNat t11) 0) < (k_1.2.2.2.2.2.1.length:Int))) then
          j_ ((k_1.1,k_1.2.1,k_1.2.2.1,k_1.2.2.2.1,k_1.2.2.2.2.1,(List.set k_1.2.2.2.2.2.1 (Int.toNat (List.getD t9 (Int.toNat t11) 0)) (bif (decide (r_2 < k_1.2.2.2.1)) then r_2 else k_1.2.2.2.1)),k_1.2.2.2.2.2.2),votes_1,quota_1,t9,t10,t11)
         else none
        else none
       else none
      else
       j_ (k_1,votes_1,quota_1,t9,t10,t11)
     else none
    else none
   else
    some (Sum.inr k_1)) (k,votes,quota,r,(r.length:Int),0)).bind fun (k_3:uf1) =>
 some k_3
def sg164:Sig:=⟨[(y140,(.io (.own 0 (.pr .sh (.pr .sh (.pr .sh (.pr .sh (.pr (.own 3 .sh) (.pr (.own 3 .sh) (.pr .sh (.pr (.own 53 .sh) (.pr .sh (.pr .sh (.pr .sh (.pr .sh (.pr .sh (.pr .sh (.pr (.own 59 .sh) (.own 3 .sh))))))))))))))))))),(y26,.bw),(y2,.sh)],[]⟩
def plan164:Plan:=(.seq (.reg [] []) (.block (.loop [(0,.v y140 (.own 0 (.pr .sh (.pr .sh (.pr .sh (.pr .sh (.pr (.own 3 .sh) (.pr (.own 3 .sh) (.pr .sh (.pr (.own 53 .sh) (.pr .sh (.pr .sh (.pr .sh (.pr .sh (.pr .sh (.pr .sh (.pr (.own 59 .sh) (.own 3 .sh)))))))))))))))))),(1,.v y26 .bw),(2,.v y2 .sh),(9,.v y26 (.own 3 .sh)),(10,.v y2 .sh),(11,.v y2 .sh)] [(.brk 0,[(0,.v y140 (.own 0 (.pr .sh (.pr .sh (.pr .sh (.pr .sh (.pr (.own 3 .sh) (.pr (.own 3 .sh) (.pr .sh (.pr (.own 53 .sh) (.pr .sh (.pr .sh (.pr .sh (.pr .sh (.pr .sh (.pr .sh (.pr (.own 59 .sh) (.own 3 .sh))))))))))))))))))])] (.seq (.reg [] []) (.seq (.cond .nil .nil) (.join (.block (.seq (.reg [] []) (.seq (.reg [] []) (.cond (.reg [] []) .nil)))) [(0,.v y140 (.own 0 (.pr .sh (.pr .sh (.pr .sh (.pr .sh (.pr (.own 3 .sh) (.pr (.own 3 .sh) (.pr .sh (.pr (.own 53 .sh) (.pr .sh (.pr .sh (.pr .sh (.pr .sh (.pr .sh (.pr .sh (.pr (.own 59 .sh) (.own 3 .sh)))))))))))))))))),(1,.v y26 .bw),(2,.v y2 .sh),(9,.v y26 (.own 3 .sh)),(10,.v y2 .sh),(11,.v y2 .sh)] (.reg [] [])))))))
theorem ev164 (xs:Vals (ptys sg164.ps)):evF (P:=Tryz.prog) tab [.fn E161,.fn E121] sg164 Tryz.f164.results.toList (code Tryz.f164) plan164 xs=d164 xs.1 xs.2.1 xs.2.2.1:=by kernel_rfl
theorem sim164:Sim Tryz.prog 164 sg164 d164:=zah mixd zan Tryz.func164 (zac rfl) Tryz.call164 (Nat.le_of_ble_eq_true (by kernel_rfl)) (by kernel_rfl) plan164 _ fun xs y h=>(ev164 xs).trans h
noncomputable def E164:FnE Tryz.prog:=⟨164,sg164,d164,sim164⟩
noncomputable def d113 (p0:uf1):Option (Bool × uf1) :=
 (d58 p0.1.2.2.2.2.2.1 p0.2.2.2.2.2.1 p0.2.1).bind fun r =>
 (zaa (β:=(uf1 × uf10 × Int × Int)) (fun ((t0,t3,t4,t6,t34,t35,t36):uf1 × uf10 × Int × Int × uf10 × Int × Int) =>
   bif (decide (t36 < t35)) then
    bif (decide (0≤t36) && decide (t36 < (t34.length:Int))) then
     some (Sum.inl (t0,t3,t4,(w (t6+(List.getD t34 (Int.toNat t36) 0))),t34,t35,(w (t36+1))))
    else none
   else
    some (Sum.inr (t0,t3,t4,t6))) (p0,r.1,r.2.1,0,r.1,(r.1.length:Int),0)).bind fun ((t0_1,t3_1,t4_1,t6_1):uf1 × uf10 × Int × Int) =>
 bif (!decide ((w (t0_1.1.2.2.2.1+1))=0)) then
  (d157 t0_1 t3_1).bind fun r_1 =>
  (d157 t0_1 t0_1.2.2.2.2.2.1).bind fun r_2 =>
  (d158 (w ((w (Int.tdiv t6_1 (w (t0_1.1.2.2.2.1+1))))+1)) t0_1.2.2.2.1).bind fun r_3 =>
  (d158 t4_1 t0_1.2.2.2.1).bind fun r_4 =>
  (d160 t0_1 t3_1 (w ((w (Int.tdiv t6_1 (w (t0_1.1.2.2.2.1+1))))+1))).bind fun r_5 =>
  (d159 t0_1 (r_1,r_2,r_3,r_4,(false,[],[]),[],[],[]) r_5).bind fun r_6 =>
  (d161 r_6.1 1).bind fun r_7 =>
  (zaa (β:=(uf1 × uf10 × Int × uf3 × Int)) (fun ((t0_2,t3_2,t9,t10,t11,t82,t83,t84):uf1 × uf10 × Int × uf3 × Int × uf10 × Int × Int) =>
    bif (decide (t84 < t83)) then
     bif (decide (0≤t84) && decide (t84 < (t82.length:Int))) then
      bif (decide (0≤(List.getD t82 (Int.toNat t84) 0)) && decide ((List.getD t82 (Int.toNat t84) 0) < (t3_2.length:Int))) then
       some (Sum.inl (t0_2,t3_2,t9,t10,(w (t11+(bif (decide (0 < (w ((List.getD t3_2 (Int.toNat (List.getD t82 (Int.toNat t84) 0)) 0) - t9)))) then (w ((List.getD t3_2 (Int.toNat (List.getD t82 (Int.toNat t84) 0)) 0) - t9)) else 0))),t82,t83,(w (t84+1))))
      else none
     else none
    else
     some (Sum.inr (t0_2,t3_2,t9,t10,t11))) (r_6.1,t3_1,(w ((w (Int.tdiv t6_1 (w (t0_1.1.2.2.2.1+1))))+1)),r_6.2,0,r_7,(r_7.length:Int),0)).bind fun ((t0_3,t3_3,t9_1,t10_1,t11_1):uf1 × uf10 × Int × uf3 × Int) =>
  (d158 t11_1 t0_3.2.2.2.1).bind fun r_8 =>
  letJ (fun ((t0_5,t10_3,t11_3,t14_1,t15_1):uf1 × uf3 × Int × Int × Bool) =>
    letJ (fun ((t0_6,t10_4,t11_4,t15_2):uf1 × uf3 × Int × Bool) =>
      bif (decide ((t0_6.2.2.2.2.2.2.2.1.length:Int)+(([t10_4.1]:List uf5).length:Int)≤LIM)) then
       bif (decide ((t0_6.2.2.2.2.2.2.2.2.2.2.2.2.2.2.1.length:Int)+(([t10_4]:List uf3).length:Int)≤LIM)) then
        bif (decide ((t0_6.2.2.2.2.2.2.2.2.2.2.2.2.2.2.2.length:Int)+(t10_4.2.2.2.2.2.1.length:Int)≤LIM)) then
         some (!t15_2,(t0_6.1,t0_6.2.1,t0_6.2.2.1,t0_6.2.2.2.1,t0_6.2.2.2.2.1,t0_6.2.2.2.2.2.1,t0_6.2.2.2.2.2.2.1,(t0_6.2.2.2.2.2.2.2.1++[t10_4.1]),t0_6.2.2.2.2.2.2.2.2.1,t11_4,t0_6.2.2.2.2.2.2.2.2.2.2.1,t0_6.2.2.2.2.2.2.2.2.2.2.2.1,t0_6.2.2.2.2.2.2.2.2.2.2.2.2.1,t0_6.2.2.2.2.2.2.2.2.2.2.2.2.2.1,(t0_6.2.2.2.2.2.2.2.2.2.2.2.2.2.2.1++[t10_4]),(t0_6.2.2.2.2.2.2.2.2.2.2.2.2.2.2.2++t10_4.2.2.2.2.2.1)))
        else none
       else none
      else none) fun j__2 =>
    bif (decide (0 < (w ((t10_3.2.2.2.2.2.1.length:Int)+(t10_3.2.2.2.2.2.2.1.length:Int))))) then
     j__2 ((t0_5.1,t0_5.2.1,t0_5.2.2.1,t0_5.2.2.2.1,t0_5.2.2.2.2.1,t0_5.2.2.2.2.2.1,t0_5.2.2.2.2.2.2.1,t0_5.2.2.2.2.2.2.2.1,t14_1,t0_5.2.2.2.2.2.2.2.2.2),t10_3,t11_3,t15_1)
    else
     j__2 (t0_5,t10_3,t11_3,t15_1)) fun j__1 =>
  bif (decide (t0_3.2.2.2.2.2.2.1=t0_3.1.2.2.2.1)) then
   j__1 (t0_3,(t10_1.1,t10_1.2.1,t10_1.2.2.1,t10_1.2.2.2.1,r_8,t10_1.2.2.2.2.2),t11_1,(w ((t0_3.2.2.2.2.2.2.2.2.2.2.2.2.2.2.1.length:Int)+1)),(decide (t0_3.2.2.2.2.2.2.1=t0_3.1.2.2.2.1)))
  else
   (d161 t0_3 0).bind fun r_9 =>
   bif (decide ((w (t0_3.2.2.2.2.2.2.1+(r_9.length:Int)))≤t0_3.1.2.2.2.1)) then
    (d161 t0_3 0).bind fun r_10 =>
    (d159 t0_3 (t10_1.1,t10_1.2.1,t10_1.2.2.1,t10_1.2.2.2.1,r_8,t10_1.2.2.2.2.2) r_10).bind fun r_11 =>
    j__1 (r_11.1,r_11.2,t11_1,(w ((t0_3.2.2.2.2.2.2.2.2.2.2.2.2.2.2.1.length:Int)+1)),true)
   else
    letJ (fun ((t0_4,t3_4,t9_2,t10_2,t11_2,t14,t15,t147):uf1 × uf10 × Int × uf3 × Int × Int × Bool × Bool) =>
      bif t147 then
       (d163 t0_4 t10_2 t3_4 t11_2).bind fun r_13 =>
       j__1 (r_13.1,r_13.2,t11_2,t14,t15)
      else
       (d164 t0_4 t3_4 t9_2).bind fun r_14 =>
       j__1 (r_14,t10_2,t11_2,t14,t15)) fun j_ =>
    bif (decide ((t10_1.2.2.2.2.2.1.length:Int)=0)) then
     (d162 t0_3 t11_1 (w ((t0_3.2.2.2.2.2.2.2.2.2.2.2.2.2.2.1.length:Int)+1))).bind fun r_12 =>
     j_ (t0_3,t3_3,t9_1,(t10_1.1,t10_1.2.1,t10_1.2.2.1,t10_1.2.2.2.1,r_8,t10_1.2.2.2.2.2),t11_1,(w ((t0_3.2.2.2.2.2.2.2.2.2.2.2.2.2.2.1.length:Int)+1)),(decide (t0_3.2.2.2.2.2.2.1=t0_3.1.2.2.2.1)),r_12)
    else
     j_ (t0_3,t3_3,t9_1,(t10_1.1,t10_1.2.1,t10_1.2.2.1,t10_1.2.2.2.1,r_8,t10_1.2.2.2.2.2),t11_1,(w ((t0_3.2.2.2.2.2.2.2.2.2.2.2.2.2.2.1.length:Int)+1)),(decide (t0_3.2.2.2.2.2.2.1=t0_3.1.2.2.2.1)),false)
 else none
def sg113:Sig:=⟨[(y140,(.io (.own 0 (.pr .sh (.pr .sh (.pr .sh (.pr .sh (.pr (.own 3 .sh) (.pr (.own 3 .sh) (.pr .sh (.pr (.own 53 .sh) (.pr .sh (.pr .sh (.pr .sh (.pr .sh (.pr .sh (.pr .sh (.pr (.own 59 .sh) (.own 3 .sh)))))))))))))))))))],[(y4,.sh)]⟩
def plan113:Plan:=(.seq (.reg [] []) (.seq (.reg [] [{},{},{},{},{},{},{},{},{},{},{},{},{},{},{ fl:=1 }]) (.seq (.reg [] []) (.seq (.seq (.reg [] []) (.block (.loop [(0,.v y140 (.own 0 (.pr .sh (.pr .sh (.pr .sh (.pr .sh (.pr (.own 3 .sh) (.pr (.own 3 .sh) (.pr .sh (.pr (.own 53 .sh) (.pr .sh (.pr .sh (.pr .sh (.pr .sh (.pr .sh (.pr .sh (.pr (.own 59 .sh) (.own 3 .sh)))))))))))))))))),(3,.v y26 .sh),(4,.v y2 .sh),(6,.v y2 .sh),(34,.v y26 .sh),(35,.v y2 .sh),(36,.v y2 .sh)] [(.brk 0,[(0,.v y140 (.own 0 (.pr .sh (.pr .sh (.pr .sh (.pr .sh (.pr (.own 3 .sh) (.pr (.own 3 .sh) (.pr .sh (.pr (.own 53 .sh) (.pr .sh (.pr .sh (.pr .sh (.pr .sh (.pr .sh (.pr .sh (.pr (.own 59 .sh) (.own 3 .sh)))))))))))))))))),(3,.v y26 .sh),(4,.v y2 .sh),(6,.v y2 .sh)])] (.seq (.reg [] []) (.seq (.cond .nil .nil) (.seq (.block (.seq (.reg [] []) (.reg [] []))) (.reg [] []))))))) (.seq (.reg [] []) (.seq (.reg [] [{},{},{},{},{},{},{},{},{},{},{},{},{},{},{},{},{},{},{},{},{},{ frz:=[(55,[]),(61,[])],fl:=7 }]) (.seq (.reg [(10,[0,1,1,1,1,1,1,0]),(10,[0,1,1,1,1,1,1,1])] []) (.seq (.reg [] []) (.seq (.seq (.reg [] []) (.block (.loop [(0,.v y140 (.own 0 (.pr .sh (.pr .sh (.pr .sh (.pr .sh (.pr (.own 3 .sh) (.pr (.own 3 .sh) (.pr .sh (.pr (.own 53 .sh) (.pr .sh (.pr .sh (.pr .sh (.pr .sh (.pr .sh (.pr .sh (.pr (.own 59 .sh) (.own 3 .sh)))))))))))))))))),(3,.v y26 .sh),(9,.v y2 .sh),(10,.v y154 (.own 0 (.pr .sh (.pr .sh (.pr .sh (.pr .sh (.pr .sh (.pr (.own 3 .sh) (.pr .sh .sh))))))))),(11,.v y2 .sh),(82,.v y26 (.own 3 .sh)),(83,.v y2 .sh),(84,.v y2 .sh)] [(.brk 2,[(0,.v y140 (.own 0 (.pr .sh (.pr .sh (.pr .sh (.pr .sh (.pr (.own 3 .sh) (.pr (.own 3 .sh) (.pr .sh (.pr (.own 53 .sh) (.pr .sh (.pr .sh (.pr .sh (.pr .sh (.pr .sh (.pr .sh (.pr (.own 59 .sh) (.own 3 .sh)))))))))))))))))),(3,.v y26 .sh),(9,.v y2 .sh),(10,.v y154 (.own 0 (.pr .sh (.pr .sh (.pr .sh (.pr .sh (.pr .sh (.pr (.own 3 .sh) (.pr .sh .sh))))))))),(11,.v y2 .sh)])] (.seq (.reg [] []) (.seq (.cond .nil .nil) (.seq (.block (.seq (.reg [] []) (.reg [] []))) (.reg [] []))))))) (.seq (.reg [] []) (.seq (.reg [] []) (.seq (.reg [] []) (.join (.block (.seq (.reg [] []) (.cond .nil (.seq (.reg [] []) (.cond (.seq (.reg [] []) (.reg [] [])) (.join (.reg [] []) [(0,.v y140 (.own 0 (.pr .sh (.pr .sh (.pr .sh (.pr .sh (.pr (.own 3 .sh) (.pr (.own 3 .sh) (.pr .sh (.pr (.own 53 .sh) (.pr .sh (.pr .sh (.pr .sh (.pr .sh (.pr .sh (.pr .sh (.pr (.own 59 .sh) (.own 3 .sh)))))))))))))))))),(3,.v y26 .sh),(9,.v y2 .sh),(10,.v y154 (.own 0 (.pr .sh (.pr .sh (.pr .sh (.pr .sh (.pr .sh (.pr (.own 3 .sh) (.pr .sh .sh))))))))),(11,.v y2 .sh),(14,.v y2 .sh),(15,.v y4 .sh),(147,.v y4 .sh)] (.cond (.reg [] []) (.reg [] [])))))))) [(0,.v y140 (.own 0 (.pr .sh (.pr .sh (.pr .sh (.pr .sh (.pr (.own 3 .sh) (.pr (.own 3 .sh) (.pr .sh (.pr (.own 53 .sh) (.pr .sh (.pr .sh (.pr .sh (.pr .sh (.pr .sh (.pr .sh (.pr (.own 59 .sh) (.own 3 .sh)))))))))))))))))),(10,.v y154 (.own 0 (.pr .sh (.pr .sh (.pr .sh (.pr .sh (.pr .sh (.pr (.own 3 .sh) (.pr .sh .sh))))))))),(11,.v y2 .sh),(14,.v y2 .sh),(15,.v y4 .sh)] (.join (.seq (.reg [] []) (.cond (.reg [] []) .nil)) [(0,.v y140 (.own 0 (.pr .sh (.pr .sh (.pr .sh (.pr .sh (.pr (.own 3 .sh) (.pr (.own 3 .sh) (.pr .sh (.pr (.own 53 .sh) (.pr .sh (.pr .sh (.pr .sh (.pr .sh (.pr .sh (.pr .sh (.pr (.own 59 .sh) (.own 3 .sh)))))))))))))))))),(10,.v y154 (.own 0 (.pr .sh (.pr .sh (.pr .sh (.pr .sh (.pr .sh (.pr (.own 3 .sh) (.pr .sh .sh))))))))),(11,.v y2 .sh),(15,.v y4 .sh)] (.seq (.reg [] []) (.seq (.reg [] []) (.seq (.reg [(10,[0,1,1,1,1,1,0])] []) (.seq (.reg [] []) (.seq (.reg [] []) .nil)))))))))))))))))))
theorem ev113 (xs:Vals (ptys sg113.ps)):evF (P:=Tryz.prog) tab [.fn E58,.fn E157,.fn E158,.fn E160,.fn E159,.fn E161,.fn E162,.fn E163,.fn E164] sg113 Tryz.f113.results.toList (code Tryz.f113) plan113 xs=d113 xs.1:=by kernel_rfl
theorem sim113:Sim Tryz.prog 113 sg113 d113:=zah mixd zan Tryz.func113 (zac rfl) Tryz.call113 (Nat.le_of_ble_eq_true (by kernel_rfl)) (by kernel_rfl) plan113 _ fun xs y h=>(ev113 xs).trans h
noncomputable def E113:FnE Tryz.prog:=⟨113,sg113,d113,sim113⟩
noncomputable def d56 (c:uf4) (gs:List uf9) (lots:List Int):Option (uf2 × Int) :=
 (d66 2 c gs lots).bind fun r =>
 bif !(decide (r=0)) then
  some ((0,0,0,0,[],[]),r)
 else
  (d111 c.2.2.2.2.2.1).bind fun r_1 =>
  bif (decide ((c.2.1.length:Int)=(c.2.1.length:Int)) && (decide (0≤(c.2.1.length:Int)) && decide ((c.2.1.length:Int)≤LIM))) then
   (d112 [r_1] (c.2.1.length:Int)).bind fun r_2 =>
   (zaa (β:=(uf2 × uf1)) (fun ((t6,k):uf2 × uf1) =>
     (d113 k).bind fun r_3 =>
     bif r_3.1 then
      some (Sum.inl (t6,r_3.2))
     else
      some (Sum.inr (t6,r_3.2))) ((0,0,0,0,[],[]),(c,gs,lots,r_1,(List.replicate (Int.toNat (c.2.1.length:Int)) 0),r_2,0,[],0,0,2,c.2.2.2.1,c.2.2.2.2.2.1,(c.2.1.length:Int),[],[]))).bind fun ((t6_1,k_1):uf2 × uf1) =>
   some (k_1.2.2.2.2.2.2.2.2.2.2,0)
  else none
def sg56:Sig:=⟨[(y23,.sh),(y25,.sh),(y26,.sh)],[(y32,.sh),(y2,.sh)]⟩
def plan56:Plan:=(.seq (.reg [] []) (.seq (.seq (.reg [] []) (.seq (.reg [] []) (.cond (.seq (.reg [] []) .nil) .nil))) (.seq (.reg [] []) (.seq (.reg [] [{},{},{},{},{},{},{},{},{},{},{},{},{},{ fl:=1500304059 },{ fl:=1000007053 }]) (.seq (.reg [] []) (.seq (.block (.loop [(6,.v (.ptr y32) (.own 0 .sh)),(10,.v y140 (.own 0 (.pr .sh (.pr .sh (.pr .sh (.pr .sh (.pr (.own 3 .sh) (.pr (.own 3 .sh) (.pr .sh (.pr (.own 53 .sh) (.pr .sh (.pr .sh (.pr .sh (.pr .sh (.pr .sh (.pr .sh (.pr (.own 59 .sh) (.own 3 .sh))))))))))))))))))] [(.brk 0,[(6,.v (.ptr y32) (.own 0 .sh)),(10,.v y140 (.own 0 (.pr .sh (.pr .sh (.pr .sh (.pr .sh (.pr (.own 3 .sh) (.pr (.own 3 .sh) (.pr .sh (.pr (.own 53 .sh) (.pr .sh (.pr .sh (.pr .sh (.pr .sh (.pr .sh (.pr .sh (.pr (.own 59 .sh) (.own 3 .sh))))))))))))))))))])] (.seq (.seq (.reg [] []) (.cond .nil .nil)) (.block .nil)))) (.seq (.reg [(10,[0,1,1,1,1,1,1,1,1,1,1,1,1,1,1,0]),(10,[0,1,1,1,1,1,1,1,1,1,1,1,1,1,1,1])] []) .nil)))))))
theorem ev56 (xs:Vals (ptys sg56.ps)):evF (P:=Tryz.prog) tab [.fn E66,.fn E111,.fn E112,.fn E113] sg56 Tryz.f56.results.toList (code Tryz.f56) plan56 xs=d56 xs.1 xs.2.1 xs.2.2.1:=by kernel_rfl
theorem sim56:Sim Tryz.prog 56 sg56 d56:=zah mixd zan Tryz.func56 (zac rfl) Tryz.call56 (Nat.le_of_ble_eq_true (by kernel_rfl)) (by kernel_rfl) plan56 _ fun xs y h=>(ev56 xs).trans h
noncomputable def E56:FnE Tryz.prog:=⟨56,sg56,d56,sim56⟩
noncomputable def d55:Option Bool :=
 (d48 3 [[0,1],[0,1],[0,1],[0],[2],[2]]).bind fun r =>
 (d25 1 3 1 2 2).bind fun r_1 =>
 (d56 r_1 r.1 [0,1,2]).bind fun r_2 =>
 (d58 2 [33,100] [([0,1],3)]).bind fun r_3 =>
 bif (decide (r_2.2=0)) then
  (d44 r_2.1.2.2.2.2.2).bind fun r_4 =>
  (d38 r_4 [0,2]).bind fun r_5 =>
  bif r_5 then
   bif r_3.2.2 then
    (d38 r_3.1 [99,201]).bind fun r_6 =>
    bif r_6 then
     bif (decide (r_3.2.1=0)) then
      (d60 5).bind fun r_7 =>
      some (decide (r_7=100))
     else
      some false
    else
     some false
   else
    some false
  else
   some false
 else
  some false
def sg55:Sig:=⟨[],[(y4,.sh)]⟩
def plan55:Plan:=(.seq (.reg [] []) (.seq (.reg [] [{},{},{},{},{},{},{ frz:=[(10,[]),(11,[]),(12,[]),(13,[]),(14,[]),(15,[])] },{},{ fl:=1 }]) (.seq (.reg [] []) (.seq (.reg [] [{},{},{},{ frz:=[(24,[])] },{ fl:=1 }]) (.seq (.reg [] [{},{},{ frz:=[(30,[])] },{},{},{ fl:=1 }]) (.seq (.reg [] []) .nil))))))
theorem ev55 (xs:Vals (ptys sg55.ps)):evF (P:=Tryz.prog) tab [.fn E48,.fn E25,.fn E56,.fn E58,.fn E44,.fn E38,.fn E60] sg55 Tryz.f55.results.toList (code Tryz.f55) plan55 xs=d55  := by kernel_rfl
theorem sim55:Sim Tryz.prog 55 sg55 d55:=zah mixd zan Tryz.func55 (zac rfl) Tryz.call55 (Nat.le_of_ble_eq_true (by kernel_rfl)) (by kernel_rfl) plan55 _ fun xs y h=>(ev55 xs).trans h
noncomputable def E55:FnE Tryz.prog:=⟨55,sg55,d55,sim55⟩
noncomputable def d114 (n:Int):Option Int :=
 (zaa (β:=Int) (fun ((n_1,x,i):Int × Int × Int) =>
   bif (decide (i < n_1)) then
    some (Sum.inl (n_1,(w (x * 10)),(w (i+1))))
   else
    some (Sum.inr x)) (n,1,0)).bind fun (x_1:Int) =>
 some x_1
noncomputable def d119 (a:Int) (b:Int):Option Int :=
 bif (!decide (b=0)) then
  some (w (Int.tdiv (w ((w (a+b)) - 1)) b))
 else none
noncomputable def d59 (p0:Int) (p1:List Int) (p2:List uf9):Option (uf10 × Int × Bool) :=
 letJ (fun ((t0,t1,t2,t30):Int × uf10 × uf7 × Bool) =>
   bif t30 then
    some ([],0,false)
   else
    (d114 t0).bind fun r_1 =>
    (zaa (β:=(uf10 × uf7 × Int) ⊕ (uf10 × Int × Bool)) (fun ((t1_1,t2_1,t9,t10):uf10 × uf7 × Int × Int) =>
      bif (decide (t10 < (t1_1.length:Int))) then
       letJ (fun ((t1_2,t2_2,t9_1,t10_1,t51):uf10 × uf7 × Int × Int × Bool) =>
         bif t51 then
          some (Sum.inr (Sum.inr ([],0,false)))
         else
          some (Sum.inl (t1_2,t2_2,t9_1,(w (t10_1+1))))) fun j__1 =>
       bif (decide (0≤t10) && decide (t10 < (t1_1.length:Int))) then
        bif !(decide ((List.getD t1_1 (Int.toNat t10) 0) < 0)) then
         bif (decide (0≤t10) && decide (t10 < (t1_1.length:Int))) then
          j__1 (t1_1,t2_1,t9,t10,(decide (t9 < (List.getD t1_1 (Int.toNat t10) 0))))
         else none
        else
         j__1 (t1_1,t2_1,t9,t10,true)
       else none
      else
       some (Sum.inr (Sum.inl (t1_1,t2_1,t9)))) (t1,t2,r_1,0)).bind fun
    | Sum.inl (t1_3,t2_3,t9_2) =>
     bif (decide ((t1_3.length:Int)=(t1_3.length:Int)) && (decide (0≤(t1_3.length:Int)) && decide ((t1_3.length:Int)≤LIM))) then
      (zaa (β:=(uf10 × Int)) (fun ((t1_4,t2_4,t9_3,t11,t12,t13):uf10 × uf7 × Int × uf10 × Int × Int) =>
        bif (decide (t13 < (t2_4.length:Int))) then
         (zaa (β:=(uf10 × uf7 × Int × uf10 × Int × Int × Int)) (fun ((t1_5,t2_5,t9_4,t11_1,t12_1,t13_1,t14,t15):uf10 × uf7 × Int × uf10 × Int × Int × Int × Int) =>
           bif (decide (0≤t13_1) && decide (t13_1 < (t2_5.length:Int))) then
            bif (decide (t15 < (((List.getD t2_5 (Int.toNat t13_1) ([],0)).1).length:Int))) then
             bif (decide (0≤t13_1) && decide (t13_1 < (t2_5.length:Int))) then
              bif (decide (0≤t15) && decide (t15 < (((List.getD t2_5 (Int.toNat t13_1) ([],0)).1).length:Int))) then
               bif (decide (0≤(List.getD ((List.getD t2_5 (Int.toNat t13_1) ([],0)).1) (Int.toNat t15) 0)) && decide ((List.getD ((List.getD t2_5 (Int.toNat t13_1) ([],0)).1) (Int.toNat t15) 0) < (t1_5.length:Int))) then
                (d119 (w (t14 * (List.getD t1_5 (Int.toNat (List.getD ((List.getD t2_5 (Int.toNat t13_1) ([],0)).1) (Int.toNat t15) 0)) 0))) t9_4).bind fun r_2 =>
                bif (decide (0≤(List.getD ((List.getD t2_5 (Int.toNat t13_1) ([],0)).1) (Int.toNat t15) 0)) && decide ((List.getD ((List.getD t2_5 (Int.toNat t13_1) ([],0)).1) (Int.toNat t15) 0) < (t11_1.length:Int))) then
                 bif (decide (0≤t13_1) && decide (t13_1 < (t2_5.length:Int))) then
                  bif (decide (0≤(List.getD ((List.getD t2_5 (Int.toNat t13_1) ([],0)).1) (Int.toNat t15) 0)) && decide ((List.getD ((List.getD t2_5 (Int.toNat t13_1) ([],0)).1) (Int.toNat t15) 0) < (t11_1.length:Int))) then
                   some (Sum.inl (t1_5,t2_5,t9_4,(List.set t11_1 (Int.toNat (List.getD ((List.getD t2_5 (Int.toNat t13_1) ([],0)).1) (Int.toNat t15) 0)) (w ((List.getD t11_1 (Int.toNat (List.getD ((List.getD t2_5 (Int.toNat t13_1) ([],0)).1) (Int.toNat t15) 0)) 0)+(w (r_2 * ((List.getD t2_5 (Int.toNat t13_1) ([],0)).2)))))),t12_1,t13_1,(w (t14 - r_2)),(w (t15+1))))
                  else none
                 else none
                else none
               else none
              else none
             else none
            else
             some (Sum.inr (t1_5,t2_5,t9_4,t11_1,t12_1,t13_1,t14))
           else none) (t1_4,t2_4,t9_3,t11,t12,t13,t9_3,0)).bind fun ((t1_6,t2_6,t9_5,t11_2,t12_2,t13_2,t14_1):uf10 × uf7 × Int × uf10 × Int × Int × Int) =>
         bif (decide (0≤t13_2) && decide (t13_2 < (t2_6.length:Int))) then
          some (Sum.inl (t1_6,t2_6,t9_5,t11_2,(w (t12_2+(w (t14_1 * ((List.getD t2_6 (Int.toNat t13_2) ([],0)).2))))),(w (t13_2+1))))
         else none
        else
         some (Sum.inr (t11,t12))) (t1_3,t2_3,t9_2,(List.replicate (Int.toNat (t1_3.length:Int)) 0),0,0)).bind fun ((t11_3,t12_3):uf10 × Int) =>
      some (t11_3,t12_3,true)
     else none
    | Sum.inr (t6,t7,t8) =>
     some (t6,t7,t8)) fun j_ =>
 bif !(decide (p0 < 1)) then
  bif !(decide (6 < p0)) then
   (d70 (p1.length:Int) p2).bind fun r =>
   j_ (p0,p1,p2,!r)
  else
   j_ (p0,p1,p2,true)
 else
  j_ (p0,p1,p2,true)
noncomputable def d116 (n:Int) (one:Int):Option uf6 :=
 (d65 n one).bind fun r =>
 some r
noncomputable def d115 (l:List Int) (one:Int):Option uf5 :=
 (zaa (β:=uf5) (fun ((l_1,one_1,out,i):uf10 × Int × uf5 × Int) =>
   bif (decide (i < (l_1.length:Int))) then
    bif (decide (0≤i) && decide (i < (l_1.length:Int))) then
     (d116 (List.getD l_1 (Int.toNat i) 0) one_1).bind fun r =>
     bif (decide ((out.length:Int)+(([r]:List uf6).length:Int)≤LIM)) then
      some (Sum.inl (l_1,one_1,(out++[r]),(w (i+1))))
     else none
    else none
   else
    some (Sum.inr out)) (l,one,[],0)).bind fun (out_1:List uf6) =>
 some out_1
noncomputable def d117 (p0:List Int) (p1:List Int) (p2:List Int) (p3:Int) (p4:Int):Option (uf10 × uf10) :=
 (zaa (β:=(uf10 × uf10) ⊕ (uf10 × uf10)) (fun ((t0,t1,t2,t3,t4,t11):uf10 × uf10 × uf10 × Int × Int × uf10) =>
   bif (decide ((t11.length:Int) < t4)) then
    (zaa (β:=(uf10 × uf10 × uf10 × Int × Int × uf10 × Int)) (fun ((t0_1,t1_1,t2_1,t3_1,t4_1,t11_1,t12,t13):uf10 × uf10 × uf10 × Int × Int × uf10 × Int × Int) =>
      bif (decide (t13 < (t2_1.length:Int))) then
       letJ (fun ((t0_3,t1_3,t2_3,t3_3,t4_3,t11_3,t12_2,t13_2):uf10 × uf10 × uf10 × Int × Int × uf10 × Int × Int) =>
         some (Sum.inl (t0_3,t1_3,t2_3,t3_3,t4_3,t11_3,t12_2,(w (t13_2+1))))) fun j__1 =>
       bif (decide (0≤t13) && decide (t13 < (t2_1.length:Int))) then
        letJ (fun ((t0_2,t1_2,t2_2,t3_2,t4_2,t11_2,t12_1,t13_1,t14,t56):uf10 × uf10 × uf10 × Int × Int × uf10 × Int × Int × Int × Bool) =>
          bif t56 then
           j__1 (t0_2,t1_2,t2_2,t3_2,t4_2,t11_2,t14,t13_1)
          else
           j__1 (t0_2,t1_2,t2_2,t3_2,t4_2,t11_2,t12_1,t13_1)) fun j_ =>
        bif (decide (0≤(List.getD t2_1 (Int.toNat t13) 0)) && decide ((List.getD t2_1 (Int.toNat t13) 0) < (t1_1.length:Int))) then
         bif (decide ((List.getD t1_1 (Int.toNat (List.getD t2_1 (Int.toNat t13) 0)) 0)=0)) then
          bif (decide (0≤(List.getD t2_1 (Int.toNat t13) 0)) && decide ((List.getD t2_1 (Int.toNat t13) 0) < (t0_1.length:Int))) then
           bif (decide (t3_1≤(List.getD t0_1 (Int.toNat (List.getD t2_1 (Int.toNat t13) 0)) 0))) then
            bif !(decide (t12 < 0)) then
             bif (decide (0≤(List.getD t2_1 (Int.toNat t13) 0)) && decide ((List.getD t2_1 (Int.toNat t13) 0) < (t0_1.length:Int))) then
              bif (decide (0≤t12) && decide (t12 < (t0_1.length:Int))) then
               j_ (t0_1,t1_1,t2_1,t3_1,t4_1,t11_1,t12,t13,(List.getD t2_1 (Int.toNat t13) 0),(decide ((List.getD t0_1 (Int.toNat t12) 0) < (List.getD t0_1 (Int.toNat (List.getD t2_1 (Int.toNat t13) 0)) 0))))
              else none
             else none
            else
             j_ (t0_1,t1_1,t2_1,t3_1,t4_1,t11_1,t12,t13,(List.getD t2_1 (Int.toNat t13) 0),true)
           else
            j_ (t0_1,t1_1,t2_1,t3_1,t4_1,t11_1,t12,t13,(List.getD t2_1 (Int.toNat t13) 0),false)
          else none
         else
          j_ (t0_1,t1_1,t2_1,t3_1,t4_1,t11_1,t12,t13,(List.getD t2_1 (Int.toNat t13) 0),false)
        else none
       else none
      else
       some (Sum.inr (t0_1,t1_1,t2_1,t3_1,t4_1,t11_1,t12))) (t0,t1,t2,t3,t4,t11,(-1),0)).bind fun ((t0_4,t1_4,t2_4,t3_4,t4_4,t11_4,t12_3):uf10 × uf10 × uf10 × Int × Int × uf10 × Int) =>
    bif (decide (t12_3 < 0)) then
     some (Sum.inr (Sum.inr (t1_4,t11_4)))
    else
     bif (decide (0≤t12_3) && decide (t12_3 < (t1_4.length:Int))) then
      (d81 t11_4 t12_3).bind fun r =>
      some (Sum.inl (t0_4,(List.set t1_4 (Int.toNat t12_3) 1),t2_4,t3_4,t4_4,r))
     else none
   else
    some (Sum.inr (Sum.inl (t1,t11)))) (p0,p1,p2,p3,p4,[])).bind fun
 | Sum.inl (t1_5,t11_5) =>
  some (t11_5,t1_5)
 | Sum.inr (t1_6,t10) =>
  some (t10,t1_6)
noncomputable def d61 (digits:Int):Option Int :=
 letJ (fun ((digits_1,t8):Int × Bool) =>
   bif t8 then
    some 0
   else
    (d114 (w (Int.tdiv digits_1 2))).bind fun r =>
    some r) fun j_ =>
 bif !(decide (digits < 1)) then
  j_ (digits,(decide (6 < digits)))
 else
  j_ (digits,true)
noncomputable def d118 (votes:List Int) (state:List Int) (surplus:Int):Option uf10 :=
 (zaa (β:=(uf10 × uf10 × Int × Int)) (fun ((votes_1,state_1,surplus_1,least,i):uf10 × uf10 × Int × Int × Int) =>
   bif (decide (i < (votes_1.length:Int))) then
    letJ (fun ((votes_3,state_3,surplus_3,least_2,i_2):uf10 × uf10 × Int × Int × Int) =>
      some (Sum.inl (votes_3,state_3,surplus_3,least_2,(w (i_2+1))))) fun j__1 =>
    letJ (fun ((votes_2,state_2,surplus_2,least_1,i_1,t33):uf10 × uf10 × Int × Int × Int × Bool) =>
      bif t33 then
       bif (decide (0≤i_1) && decide (i_1 < (votes_2.length:Int))) then
        j__1 (votes_2,state_2,surplus_2,(List.getD votes_2 (Int.toNat i_1) 0),i_1)
       else none
      else
       j__1 (votes_2,state_2,surplus_2,least_1,i_1)) fun j_ =>
    bif (decide (0≤i) && decide (i < (state_1.length:Int))) then
     bif (decide ((List.getD state_1 (Int.toNat i) 0)=0)) then
      bif !(decide (least < 0)) then
       bif (decide (0≤i) && decide (i < (votes_1.length:Int))) then
        j_ (votes_1,state_1,surplus_1,least,i,(decide ((List.getD votes_1 (Int.toNat i) 0) < least)))
       else none
      else
       j_ (votes_1,state_1,surplus_1,least,i,true)
     else
      j_ (votes_1,state_1,surplus_1,least,i,false)
    else none
   else
    some (Sum.inr (votes_1,state_1,surplus_1,least))) (votes,state,surplus,(-1),0)).bind fun ((votes_4,state_4,surplus_4,least_3):uf10 × uf10 × Int × Int) =>
 (zaa (β:=uf10) (fun ((votes_5,state_5,surplus_5,least_4,out,i_3):uf10 × uf10 × Int × Int × uf10 × Int) =>
   bif (decide (i_3 < (votes_5.length:Int))) then
    letJ (fun ((votes_7,state_7,surplus_7,least_6,out_2,i_5):uf10 × uf10 × Int × Int × uf10 × Int) =>
      some (Sum.inl (votes_7,state_7,surplus_7,least_6,out_2,(w (i_5+1))))) fun j__3 =>
    letJ (fun ((votes_6,state_6,surplus_6,least_5,out_1,i_4,t58):uf10 × uf10 × Int × Int × uf10 × Int × Bool) =>
      bif t58 then
       bif (decide ((out_1.length:Int)+(([i_4]:List Int).length:Int)≤LIM)) then
        j__3 (votes_6,state_6,surplus_6,least_5,(out_1++[i_4]),i_4)
       else none
      else
       j__3 (votes_6,state_6,surplus_6,least_5,out_1,i_4)) fun j__2 =>
    bif (decide (0≤i_3) && decide (i_3 < (state_5.length:Int))) then
     bif (decide ((List.getD state_5 (Int.toNat i_3) 0)=0)) then
      bif (decide (0≤i_3) && decide (i_3 < (votes_5.length:Int))) then
       j__2 (votes_5,state_5,surplus_5,least_4,out,i_3,(decide ((List.getD votes_5 (Int.toNat i_3) 0)≤(w (least_4+surplus_5)))))
      else none
     else
      j__2 (votes_5,state_5,surplus_5,least_4,out,i_3,false)
    else none
   else
    some (Sum.inr out)) (votes_4,state_4,surplus_4,least_3,[],0)).bind fun (out_3:List Int) =>
 some out_3
noncomputable def d12 (p0:Int) (p1:List Int) (p2:List uf9) (p3:Bool) (p4:List uf10):Option Bool :=
 letJ (fun ((t0,t1,t2,t3,t4,t34):Int × uf10 × uf7 × Bool × uf8 × Bool) =>
   bif t34 then
    (d55).bind fun r_2 =>
    some r_2
   else
    letJ (fun ((t0_6,t1_5,t2_1,t3_6,t4_6,t11_5):Int × uf10 × uf7 × Bool × uf8 × Int) =>
      (d58 t0_6 t1_5 t2_1).bind fun r_6 =>
      (d59 t0_6 t1_5 t2_1).bind fun r_7 =>
      letJ (fun ((t0_7,t3_7,t4_7,t11_6,t15,t16,t118):Int × Bool × uf8 × Int × uf10 × Int × Bool) =>
        bif t118 then
         some false
        else
         (zaa (β:=(Int × Bool × uf8 × Int × Int)) (fun ((t0_8,t3_8,t4_8,t11_7,t15_1,t16_1,t21):Int × Bool × uf8 × Int × uf10 × Int × Int) =>
           bif (decide (t21 < (t15_1.length:Int))) then
            bif (decide (0≤t21) && decide (t21 < (t15_1.length:Int))) then
             some (Sum.inl (t0_8,t3_8,t4_8,t11_7,t15_1,(w (t16_1+(List.getD t15_1 (Int.toNat t21) 0))),(w (t21+1))))
            else none
           else
            some (Sum.inr (t0_8,t3_8,t4_8,t11_7,t16_1))) (t0_7,t3_7,t4_7,t11_6,t15,t16,0)).bind fun ((t0_9,t3_9,t4_9,t11_8,t16_2):Int × Bool × uf8 × Int × Int) =>
         (d55).bind fun r_9 =>
         bif r_9 then
          bif !t3_9 then
           bif (decide (t16_2=(w (t11_8 * (t4_9.length:Int))))) then
            (d60 t0_9).bind fun r_10 =>
            (d61 t0_9).bind fun r_11 =>
            some (decide (r_10=r_11))
           else
            some false
          else
           (d60 t0_9).bind fun r_12 =>
           (d61 t0_9).bind fun r_13 =>
           some (decide (r_12=r_13))
         else
          some false) fun j__3 =>
      bif !(!(r_6.2.2 == r_7.2.2)) then
       bif !(!(decide (r_6.2.1=r_7.2.1))) then
        (d38 r_6.1 r_7.1).bind fun r_8 =>
        bif !(!r_8) then
         bif !t3_6 then
          j__3 (t0_6,t3_6,t4_6,t11_5,r_6.1,r_6.2.1,!r_6.2.2)
         else
          j__3 (t0_6,t3_6,t4_6,t11_5,r_6.1,r_6.2.1,false)
        else
         j__3 (t0_6,t3_6,t4_6,t11_5,r_6.1,r_6.2.1,true)
       else
        j__3 (t0_6,t3_6,t4_6,t11_5,r_6.1,r_6.2.1,true)
      else
       j__3 (t0_6,t3_6,t4_6,t11_5,r_6.1,r_6.2.1,true)) fun j__2 =>
    bif !t3 then
     (d24 t0 6).bind fun r_3 =>
     (zaa (β:=(Int × uf10 × Bool × uf8 × Int)) (fun ((t0_1,t1_1,t3_1,t4_1,t11,t12):Int × uf10 × Bool × uf8 × Int × Int) =>
       bif (decide (t12 < t0_1)) then
        some (Sum.inl (t0_1,t1_1,t3_1,t4_1,(w (t11 * 10)),(w (t12+1))))
       else
        some (Sum.inr (t0_1,t1_1,t3_1,t4_1,t11))) ((w (1+r_3)),t1,t3,t4,1,0)).bind fun ((t0_2,t1_2,t3_2,t4_2,t11_1):Int × uf10 × Bool × uf8 × Int) =>
     (zaa (β:=(Int × Bool × uf8 × Int × uf10)) (fun ((t0_3,t1_3,t3_3,t4_3,t11_2,t13,t14):Int × uf10 × Bool × uf8 × Int × uf10 × Int) =>
       letJ (fun ((t0_4,t1_4,t3_4,t4_4,t11_3,t13_1,t14_1,t55):Int × uf10 × Bool × uf8 × Int × uf10 × Int × Bool) =>
         bif t55 then
          bif (decide (0≤t14_1) && decide (t14_1 < (t1_4.length:Int))) then
           (d24 (List.getD t1_4 (Int.toNat t14_1) 0) (w (t11_3+1))).bind fun r_4 =>
           bif (decide ((t13_1.length:Int)+(([r_4]:List Int).length:Int)≤LIM)) then
            some (Sum.inl (t0_4,t1_4,t3_4,t4_4,t11_3,(t13_1++[r_4]),(w (t14_1+1))))
           else none
          else none
         else
          some (Sum.inr (t0_4,t3_4,t4_4,t11_3,t13_1))) fun j__1 =>
       bif (decide (t14 < (t1_3.length:Int))) then
        j__1 (t0_3,t1_3,t3_3,t4_3,t11_2,t13,t14,(decide (t14 < 7)))
       else
        j__1 (t0_3,t1_3,t3_3,t4_3,t11_2,t13,t14,false)) (t0_2,t1_2,t3_2,t4_2,t11_1,[],0)).bind fun ((t0_5,t3_5,t4_5,t11_4,t13_2):Int × Bool × uf8 × Int × uf10) =>
     bif (decide ((t13_2.length:Int)+(([t11_4]:List Int).length:Int)≤LIM)) then
      bif (zcf 0 (bif (decide (7 < ((t13_2++[t11_4]).length:Int))) then 7 else ((t13_2++[t11_4]).length:Int)) (t13_2++[t11_4]).length) then
       (d26 ((List.take (Int.toNat (bif (decide (7 < ((t13_2++[t11_4]).length:Int))) then 7 else ((t13_2++[t11_4]).length:Int))) (t13_2++[t11_4])).length:Int) t4_5 24).bind fun r_5 =>
       j__2 (t0_5,(List.take (Int.toNat (bif (decide (7 < ((t13_2++[t11_4]).length:Int))) then 7 else ((t13_2++[t11_4]).length:Int))) (t13_2++[t11_4])),r_5,t3_5,t4_5,t11_4)
      else none
     else none
    else
     j__2 (t0,t1,t2,t3,t4,1)) fun j_ =>
 (d19 p2).bind fun r =>
 bif !(!r) then
  (d54 p4).bind fun r_1 =>
  bif !(!r_1) then
   j_ (p0,p1,p2,p3,p4,(decide (10 < (p1.length:Int))))
  else
   j_ (p0,p1,p2,p3,p4,true)
 else
  j_ (p0,p1,p2,p3,p4,true)
noncomputable def d62 (n:Int) (seats:Int) (digits:Int) (ties:Int) (code_:Int) (ballots:List uf10):Option (uf4 × uf7 × uf2 × Int) :=
 (d25 1 n seats digits ties).bind fun r =>
 (d26 n ballots 24).bind fun r_1 =>
 (d27 n code_).bind fun r_2 =>
 (d56 r r_1 r_2).bind fun r_3 =>
 some (r,r_1,r_3.1,r_3.2)
def sg62:Sig:=⟨[(y2,.sh),(y2,.sh),(y2,.sh),(y2,.sh),(y2,.sh),(y27,.bw)],[(y23,.sh),(y25,.sh),(y32,.sh),(y2,.sh)]⟩
def plan62:Plan:=(.seq (.reg [] []) (.seq (.reg [] []) (.seq (.reg [] []) (.seq (.reg [] [{},{},{},{},{},{ frz:=[(33,[])] },{ fl:=1 }]) (.seq (.reg [] []) .nil)))))
theorem ev62 (xs:Vals (ptys sg62.ps)):evF (P:=Tryz.prog) tab [.fn E25,.fn E26,.fn E27,.fn E56] sg62 Tryz.f62.results.toList (code Tryz.f62) plan62 xs=d62 xs.1 xs.2.1 xs.2.2.1 xs.2.2.2.1 xs.2.2.2.2.1 xs.2.2.2.2.2.1:=by kernel_rfl
theorem sim62:Sim Tryz.prog 62 sg62 d62:=zah mixd zan Tryz.func62 (zac rfl) Tryz.call62 (Nat.le_of_ble_eq_true (by kernel_rfl)) (by kernel_rfl) plan62 _ fun xs y h=>(ev62 xs).trans h
noncomputable def E62:FnE Tryz.prog:=⟨62,sg62,d62,sim62⟩
noncomputable def d63 (digits:Int):Option Int :=
 (zaa (β:=Int) (fun ((digits_1,x,i):Int × Int × Int) =>
   letJ (fun ((digits_2,x_1,i_1,t11):Int × Int × Int × Bool) =>
     bif t11 then
      some (Sum.inl (digits_2,(w (x_1 * 10)),(w (i_1+1))))
     else
      some (Sum.inr x_1)) fun j_ =>
   bif (decide (i < digits_1)) then
    j_ (digits_1,x,i,(decide (i < 6)))
   else
    j_ (digits_1,x,i,false)) (digits,1,0)).bind fun (x_2:Int) =>
 some x_2
def sg63:Sig:=⟨[(y2,.sh)],[(y2,.sh)]⟩
def plan63:Plan:=(.seq (.reg [] []) (.seq (.reg [] []) (.seq (.seq (.reg [] []) (.block (.loop [(0,.v y2 .sh),(3,.v y2 .sh),(4,.v y2 .sh)] [(.brk 0,[(3,.v y2 .sh)])] (.seq (.join (.reg [] []) [(0,.v y2 .sh),(3,.v y2 .sh),(4,.v y2 .sh),(11,.v y4 .sh)] (.cond .nil .nil)) (.seq (.block (.reg [] [])) (.reg [] [])))))) (.seq (.reg [] []) .nil))))
theorem ev63 (xs:Vals (ptys sg63.ps)):evF (P:=Tryz.prog) tab [] sg63 Tryz.f63.results.toList (code Tryz.f63) plan63 xs=d63 xs.1:=by kernel_rfl
theorem sim63:Sim Tryz.prog 63 sg63 d63:=zah mixd zan Tryz.func63 (zac rfl) Tryz.call63 (Nat.le_of_ble_eq_true (by kernel_rfl)) (by kernel_rfl) plan63 _ fun xs y h=>(ev63 xs).trans h
noncomputable def E63:FnE Tryz.prog:=⟨63,sg63,d63,sim63⟩
noncomputable def d64 (r:uf6) (one:Int):Option (Int × Bool) :=
 letJ (fun ((one_1,r_1,t36):Int × uf6 × Bool) =>
   bif t36 then
    some (0,false)
   else
    bif (decide ((r_1.2.1.length:Int)=0)) then
     some (0,true)
    else
     bif (decide (0≤0) && decide (0 < (r_1.2.1.length:Int))) then
      bif (decide (0≤0) && decide (0 < (r_1.2.2.length:Int))) then
       bif (!decide ((w (List.getD r_1.2.2 0 0))=0)) then
        some ((w ((w (List.getD r_1.2.1 0 0)) * (w (Int.tdiv one_1 (w (List.getD r_1.2.2 0 0)))))),true)
       else none
      else none
     else none) fun j_ =>
 bif !r.1 then
  bif !(decide (1 < (r.2.1.length:Int))) then
   bif !(!(decide ((r.2.2.length:Int)=1))) then
    bif (decide (0≤0) && decide (0 < (r.2.2.length:Int))) then
     bif !(decide ((List.getD r.2.2 0 0)=0)) then
      bif (decide (0≤0) && decide (0 < (r.2.2.length:Int))) then
       bif (!decide ((w (List.getD r.2.2 0 0))=0)) then
        j_ (one,r,!(decide ((w (Int.tmod one (w (List.getD r.2.2 0 0))))=0)))
       else none
      else none
     else
      j_ (one,r,true)
    else none
   else
    j_ (one,r,true)
  else
   j_ (one,r,true)
 else
  j_ (one,r,true)
def sg64:Sig:=⟨[(y57,.bw),(y2,.sh)],[(y2,.sh),(y4,.sh)]⟩
def plan64:Plan:=(.seq (.reg [] []) (.seq (.join (.reg [] []) [(1,.v y2 .sh),(2,.v (.ptr y57) (.own 0 .bw)),(36,.v y4 .sh)] (.cond (.seq (.reg [] []) .nil) .nil)) (.seq (.seq (.reg [] []) (.cond (.seq (.reg [] []) .nil) .nil)) (.seq (.reg [] []) .nil))))
theorem ev64 (xs:Vals (ptys sg64.ps)):evF (P:=Tryz.prog) tab [] sg64 Tryz.f64.results.toList (code Tryz.f64) plan64 xs=d64 xs.1 xs.2.1:=by kernel_rfl
theorem sim64:Sim Tryz.prog 64 sg64 d64:=zah mixd zan Tryz.func64 (zac rfl) Tryz.call64 (Nat.le_of_ble_eq_true (by kernel_rfl)) (by kernel_rfl) plan64 _ fun xs y h=>(ev64 xs).trans h
noncomputable def E64:FnE Tryz.prog:=⟨64,sg64,d64,sim64⟩
noncomputable def d13 (p0:Int) (p1:Int) (p2:Int) (p3:Int) (p4:Int) (p5:List uf10):Option Bool :=
 (d54 p5).bind fun r =>
 bif !r then
  (d55).bind fun r_1 =>
  some r_1
 else
  (d24 p0 7).bind fun r_2 =>
  (d62 (w (1+r_2)) p1 p2 p3 p4 p5).bind fun r_3 =>
  letJ (fun ((t0,t5,t13,t15,t77):Int × uf8 × uf4 × uf2 × Bool) =>
    bif t77 then
     some false
    else
     (d63 t13.2.2.2.2.2.1).bind fun r_5 =>
     (zaa (β:=Unit ⊕ Bool) (fun ((t0_1,t5_1,t13_1,t15_1,t17,t18):Int × uf8 × uf4 × uf2 × Int × Int) =>
       bif (decide (t18 < (t15_1.2.2.2.2.1.length:Int))) then
        bif (decide (0≤t18) && decide (t18 < (t15_1.2.2.2.2.1.length:Int))) then
         (d64 (((((List.getD t15_1.2.2.2.2.1 (Int.toNat t18) ([],[],(false,[],[]),(false,[],[]),(false,[],[]),[],[],[])).2).2).2).1) t17).bind fun r_6 =>
         (d64 ((((List.getD t15_1.2.2.2.2.1 (Int.toNat t18) ([],[],(false,[],[]),(false,[],[]),(false,[],[]),[],[],[])).2).2).1) t17).bind fun r_7 =>
         (zaa (β:=(Int × uf8 × uf4 × uf2 × Int × Int × uf3 × Int × Bool × Bool × Int)) (fun ((t0_2,t5_2,t13_2,t15_2,t17_1,t18_1,t19,t20,t21,t22,t23,t24,t25):uf11) =>
           bif (decide (t25 < (t19.1.length:Int))) then
            letJ (fun ((t0_4,t5_4,t13_4,t15_4,t17_3,t18_3,t19_2,t20_2,t21_2,t22_2,t23_2,t24_2,t25_2):uf11) =>
              some (Sum.inl (t0_4,t5_4,t13_4,t15_4,t17_3,t18_3,t19_2,t20_2,t21_2,t22_2,t23_2,t24_2,(w (t25_2+1))))) fun j__2 =>
            bif (decide (0≤t25) && decide (t25 < (t19.1.length:Int))) then
             (d64 (List.getD t19.1 (Int.toNat t25) (false,[],[])) t17_1).bind fun r_8 =>
             letJ (fun ((t0_3,t5_3,t13_3,t15_3,t17_2,t18_2,t19_1,t20_1,t21_1,t22_1,t23_1,t24_1,t25_1,t26):Int × uf8 × uf4 × uf2 × Int × Int × uf3 × Int × Bool × Int × Bool × Int × Int × Int) =>
               bif (decide (t22_1≤t26)) then
                j__2 (t0_3,t5_3,t13_3,t15_3,t17_2,t18_2,t19_1,(w (t20_1+t26)),t21_1,t22_1,t23_1,(w (t24_1+1)),t25_1)
               else
                j__2 (t0_3,t5_3,t13_3,t15_3,t17_2,t18_2,t19_1,(w (t20_1+t26)),t21_1,t22_1,t23_1,t24_1,t25_1)) fun j__1 =>
             bif t21 then
              j__1 (t0_2,t5_2,t13_2,t15_2,t17_1,t18_1,t19,t20,r_8.2,t22,t23,t24,t25,r_8.1)
             else
              j__1 (t0_2,t5_2,t13_2,t15_2,t17_1,t18_1,t19,t20,false,t22,t23,t24,t25,r_8.1)
            else none
           else
            some (Sum.inr (t0_2,t5_2,t13_2,t15_2,t17_1,t18_1,t19,t20,t21,t23,t24))) (t0_1,t5_1,t13_1,t15_1,t17,t18,(List.getD t15_1.2.2.2.2.1 (Int.toNat t18) ([],[],(false,[],[]),(false,[],[]),(false,[],[]),[],[],[])),r_6.1,r_6.2,r_7.1,r_7.2,0,0)).bind fun ((t0_5,t5_5,t13_5,t15_5,t17_4,t18_4,t19_3,t20_3,t21_3,t23_3,t24_3):Int × uf8 × uf4 × uf2 × Int × Int × uf3 × Int × Bool × Bool × Int) =>
         letJ (fun ((t0_6,t5_6,t13_6,t15_6,t17_5,t18_5,t162):Int × uf8 × uf4 × uf2 × Int × Int × Bool) =>
           bif t162 then
            some (Sum.inr (Sum.inr false))
           else
            some (Sum.inl (t0_6,t5_6,t13_6,t15_6,t17_5,(w (t18_5+1))))) fun j__3 =>
         bif !(!(decide ((t19_3.1.length:Int)=t0_5))) then
          bif !(!t21_3) then
           bif !(!t23_3) then
            bif !(decide (t13_5.2.2.2.1 < t24_3)) then
             j__3 (t0_5,t5_5,t13_5,t15_5,t17_4,t18_4,!(decide (t20_3=(w (t17_4 * (t5_5.length:Int))))))
            else
             j__3 (t0_5,t5_5,t13_5,t15_5,t17_4,t18_4,true)
           else
            j__3 (t0_5,t5_5,t13_5,t15_5,t17_4,t18_4,true)
          else
           j__3 (t0_5,t5_5,t13_5,t15_5,t17_4,t18_4,true)
         else
          j__3 (t0_5,t5_5,t13_5,t15_5,t17_4,t18_4,true)
        else none
       else
        some (Sum.inr (Sum.inl ()))) (t0,t5,t13,t15,r_5,0)).bind fun
     | Sum.inl _ =>
      (d55).bind fun r_9 =>
      some r_9
     | Sum.inr t12 =>
      some t12) fun j_ =>
  bif !(!(decide (r_3.2.2.2=0))) then
   bif !(decide ((r_3.2.2.1.2.2.2.2.1.length:Int) < 1)) then
    bif !(decide (600 < (r_3.2.2.1.2.2.2.2.1.length:Int))) then
     bif !(!(decide ((r_3.2.2.1.2.2.2.2.2.length:Int)=(bif (decide ((w (1+r_2)) < r_3.1.2.2.2.1)) then (w (1+r_2)) else r_3.1.2.2.2.1)))) then
      (d32 (w (1+r_2)) r_3.2.2.1.2.2.2.2.2).bind fun r_4 =>
      j_ ((w (1+r_2)),p5,r_3.1,r_3.2.2.1,!r_4)
     else
      j_ ((w (1+r_2)),p5,r_3.1,r_3.2.2.1,true)
    else
     j_ ((w (1+r_2)),p5,r_3.1,r_3.2.2.1,true)
   else
    j_ ((w (1+r_2)),p5,r_3.1,r_3.2.2.1,true)
  else
   j_ ((w (1+r_2)),p5,r_3.1,r_3.2.2.1,true)
def sg13:Sig:=⟨[(y2,.sh),(y2,.sh),(y2,.sh),(y2,.sh),(y2,.sh),(y27,.bw)],[(y4,.sh)]⟩
def plan13:Plan:=(.seq (.reg [] []) (.seq (.seq (.reg [] []) (.cond (.seq (.reg [] []) .nil) .nil)) (.seq (.reg [] []) (.seq (.reg [] [{},{},{},{},{},{},{},{ fl:=1 }]) (.seq (.join (.reg [] []) [(0,.v y2 .sh),(5,.v y27 .bw),(13,.v (.ptr y23) (.own 0 .sh)),(15,.v (.ptr y32) (.own 0 .sh)),(77,.v y4 .sh)] (.cond (.seq (.reg [] []) .nil) .nil)) (.seq (.reg [] []) (.seq (.seq (.reg [] []) (.block (.loop [(0,.v y2 .sh),(5,.v y27 .bw),(13,.v (.ptr y23) (.own 0 .sh)),(15,.v (.ptr y32) (.own 0 .sh)),(17,.v y2 .sh),(18,.v y2 .sh)] [(.brk 0,[]),(.ret,[(12,.v y4 .sh)])] (.seq (.seq (.reg [] []) (.cond .nil .nil)) (.seq (.block (.seq (.reg [] []) (.seq (.reg [] [{},{},{},{},{ fl:=1 }]) (.seq (.reg [] [{},{},{},{},{ fl:=1 }]) (.seq (.reg [] []) (.seq (.seq (.reg [] []) (.block (.loop [(0,.v y2 .sh),(5,.v y27 .bw),(13,.v (.ptr y23) (.own 0 .sh)),(15,.v (.ptr y32) (.own 0 .sh)),(17,.v y2 .sh),(18,.v y2 .sh),(19,.v y154 (.own 0 .sh)),(20,.v y2 .sh),(21,.v y4 .sh),(22,.v y2 .sh),(23,.v y4 .sh),(24,.v y2 .sh),(25,.v y2 .sh)] [(.brk 2,[(0,.v y2 .sh),(5,.v y27 .bw),(13,.v (.ptr y23) (.own 0 .sh)),(15,.v (.ptr y32) (.own 0 .sh)),(17,.v y2 .sh),(18,.v y2 .sh),(19,.v y154 (.own 0 .sh)),(20,.v y2 .sh),(21,.v y4 .sh),(23,.v y4 .sh),(24,.v y2 .sh)])] (.seq (.seq (.reg [] []) (.cond .nil .nil)) (.join (.block (.seq (.reg [] [{},{},{},{},{},{},{},{ fl:=1 }]) (.join (.reg [] []) [(0,.v y2 .sh),(5,.v y27 .bw),(13,.v (.ptr y23) (.own 0 .sh)),(15,.v (.ptr y32) (.own 0 .sh)),(17,.v y2 .sh),(18,.v y2 .sh),(19,.v y154 (.own 0 .sh)),(20,.v y2 .sh),(21,.v y4 .sh),(22,.v y2 .sh),(23,.v y4 .sh),(24,.v y2 .sh),(25,.v y2 .sh),(26,.v y2 .sh)] (.seq (.reg [] []) (.seq (.reg [] []) (.cond (.reg [] []) .nil)))))) [(0,.v y2 .sh),(5,.v y27 .bw),(13,.v (.ptr y23) (.own 0 .sh)),(15,.v (.ptr y32) (.own 0 .sh)),(17,.v y2 .sh),(18,.v y2 .sh),(19,.v y154 (.own 0 .sh)),(20,.v y2 .sh),(21,.v y4 .sh),(22,.v y2 .sh),(23,.v y4 .sh),(24,.v y2 .sh),(25,.v y2 .sh)] (.reg [] [])))))) (.join (.reg [] []) [(0,.v y2 .sh),(5,.v y27 .bw),(13,.v (.ptr y23) (.own 0 .sh)),(15,.v (.ptr y32) (.own 0 .sh)),(17,.v y2 .sh),(18,.v y2 .sh),(162,.v y4 .sh)] (.cond (.seq (.reg [] []) .nil) .nil)))))))) (.reg [] [])))))) (.seq (.reg [] []) .nil))))))))
theorem ev13 (xs:Vals (ptys sg13.ps)):evF (P:=Tryz.prog) tab [.fn E54,.fn E55,.fn E24,.fn E62,.fn E32,.fn E63,.fn E64] sg13 Tryz.f13.results.toList (code Tryz.f13) plan13 xs=d13 xs.1 xs.2.1 xs.2.2.1 xs.2.2.2.1 xs.2.2.2.2.1 xs.2.2.2.2.2.1:=by kernel_rfl
theorem sim13:Sim Tryz.prog 13 sg13 d13:=zah mixd zan Tryz.func13 (zac rfl) Tryz.call13 (Nat.le_of_ble_eq_true (by kernel_rfl)) (by kernel_rfl) plan13 _ fun xs y h=>(ev13 xs).trans h
noncomputable def d14 (p0:Int) (p1:Int) (p2:Int) (p3:Int) (p4:Int) (p5:List uf10):Option Bool :=
 (d54 p5).bind fun r =>
 bif !r then
  (d55).bind fun r_1 =>
  some r_1
 else
  (d24 p0 7).bind fun r_2 =>
  (d62 (w (1+r_2)) p1 p2 p3 p4 p5).bind fun r_3 =>
  letJ (fun ((t0,t13,t15,t53):Int × uf4 × uf2 × Bool) =>
    bif t53 then
     some false
    else
     (d63 t13.2.2.2.2.2.1).bind fun r_4 =>
     (zaa (β:=Unit ⊕ Bool) (fun ((t0_1,t15_1,t17,t18,t19,t20):Int × uf2 × Int × uf10 × uf10 × Int) =>
       bif (decide (t20 < (t15_1.2.2.2.2.1.length:Int))) then
        bif (decide (0≤t20) && decide (t20 < (t15_1.2.2.2.2.1.length:Int))) then
         letJ (fun ((t0_2,t15_2,t17_1,t18_1,t19_1,t20_1,t21,t80):Int × uf2 × Int × uf10 × uf10 × Int × uf3 × Bool) =>
           bif t80 then
            some (Sum.inr (Sum.inr false))
           else
            (zaa (β:=(Int × uf2 × Int × uf10 × uf10 × Int × uf3) ⊕ Bool) (fun ((t0_3,t15_3,t17_2,t18_2,t19_2,t20_2,t21_1,t22):Int × uf2 × Int × uf10 × uf10 × Int × uf3 × Int) =>
              bif (decide (t22 < t0_3)) then
               letJ (fun ((t0_7,t15_7,t17_6,t18_6,t19_6,t20_6,t21_5,t22_4):Int × uf2 × Int × uf10 × uf10 × Int × uf3 × Int) =>
                 some (Sum.inl (t0_7,t15_7,t17_6,t18_6,t19_6,t20_6,t21_5,(w (t22_4+1))))) fun j__5 =>
               bif (decide (0≤t22) && decide (t22 < (t21_1.2.1.length:Int))) then
                (d64 (List.getD t21_1.2.1 (Int.toNat t22) (false,[],[])) t17_2).bind fun r_5 =>
                bif (decide (0≤t22) && decide (t22 < (t21_1.1.length:Int))) then
                 (d64 (List.getD t21_1.1 (Int.toNat t22) (false,[],[])) t17_2).bind fun r_6 =>
                 letJ (fun ((t0_4,t15_4,t17_3,t18_3,t19_3,t20_3,t21_2,t22_1,t23,t25,t111):Int × uf2 × Int × uf10 × uf10 × Int × uf3 × Int × Int × Int × Bool) =>
                   bif t111 then
                    some (Sum.inr (Sum.inr false))
                   else
                    (d49 t19_3 t22_1).bind fun r_7 =>
                    bif r_7 then
                     letJ (fun ((t0_5,t15_5,t17_4,t18_4,t19_4,t20_4,t21_3,t22_2,t124):Int × uf2 × Int × uf10 × uf10 × Int × uf3 × Int × Bool) =>
                       bif t124 then
                        some (Sum.inr (Sum.inr false))
                       else
                        j__5 (t0_5,t15_5,t17_4,t18_4,t19_4,t20_4,t21_3,t22_2)) fun j__3 =>
                     bif !(!(decide (t23=0))) then
                      j__3 (t0_4,t15_4,t17_3,t18_3,t19_3,t20_3,t21_2,t22_1,!(decide (t25=0)))
                     else
                      j__3 (t0_4,t15_4,t17_3,t18_3,t19_3,t20_3,t21_2,t22_1,true)
                    else
                     (d49 t18_3 t22_1).bind fun r_8 =>
                     bif r_8 then
                      letJ (fun ((t0_6,t15_6,t17_5,t18_5,t19_5,t20_5,t21_4,t22_3,t135):Int × uf2 × Int × uf10 × uf10 × Int × uf3 × Int × Bool) =>
                        bif t135 then
                         some (Sum.inr (Sum.inr false))
                        else
                         j__5 (t0_6,t15_6,t17_5,t18_5,t19_5,t20_5,t21_4,t22_3)) fun j__4 =>
                      bif !(decide (t23≤0)) then
                       j__4 (t0_4,t15_4,t17_3,t18_3,t19_3,t20_3,t21_2,t22_1,(decide (t17_3 < t23)))
                      else
                       j__4 (t0_4,t15_4,t17_3,t18_3,t19_3,t20_3,t21_2,t22_1,true)
                     else
                      bif !(decide (t23=t17_3)) then
                       some (Sum.inr (Sum.inr false))
                      else
                       j__5 (t0_4,t15_4,t17_3,t18_3,t19_3,t20_3,t21_2,t22_1)) fun j__2 =>
                 bif !(!r_5.2) then
                  j__2 (t0_3,t15_3,t17_2,t18_2,t19_2,t20_2,t21_1,t22,r_5.1,r_6.1,!r_6.2)
                 else
                  j__2 (t0_3,t15_3,t17_2,t18_2,t19_2,t20_2,t21_1,t22,r_5.1,r_6.1,true)
                else none
               else none
              else
               some (Sum.inr (Sum.inl (t0_3,t15_3,t17_2,t18_2,t19_2,t20_2,t21_1)))) (t0_2,t15_2,t17_1,t18_1,t19_1,t20_1,t21,0)).bind fun
            | Sum.inl (t0_8,t15_8,t17_7,t18_7,t19_7,t20_7,t21_6) =>
             bif (decide ((t18_7.length:Int)+(t21_6.2.2.2.2.2.1.length:Int)≤LIM)) then
              bif (decide ((t19_7.length:Int)+(t21_6.2.2.2.2.2.2.1.length:Int)≤LIM)) then
               some (Sum.inl (t0_8,t15_8,t17_7,(t18_7++t21_6.2.2.2.2.2.1),(t19_7++t21_6.2.2.2.2.2.2.1),(w (t20_7+1))))
              else none
             else none
            | Sum.inr t12 =>
             some (Sum.inr (Sum.inr t12))) fun j__1 =>
         bif !(!(decide ((((List.getD t15_1.2.2.2.2.1 (Int.toNat t20) ([],[],(false,[],[]),(false,[],[]),(false,[],[]),[],[],[])).1).length:Int)=t0_1))) then
          j__1 (t0_1,t15_1,t17,t18,t19,t20,(List.getD t15_1.2.2.2.2.1 (Int.toNat t20) ([],[],(false,[],[]),(false,[],[]),(false,[],[]),[],[],[])),!(decide (((((List.getD t15_1.2.2.2.2.1 (Int.toNat t20) ([],[],(false,[],[]),(false,[],[]),(false,[],[]),[],[],[])).2).1).length:Int)=t0_1)))
         else
          j__1 (t0_1,t15_1,t17,t18,t19,t20,(List.getD t15_1.2.2.2.2.1 (Int.toNat t20) ([],[],(false,[],[]),(false,[],[]),(false,[],[]),[],[],[])),true)
        else none
       else
        some (Sum.inr (Sum.inl ()))) (t0,t15,r_4,[],[],0)).bind fun
     | Sum.inl _ =>
      (d55).bind fun r_9 =>
      some r_9
     | Sum.inr t12_1 =>
      some t12_1) fun j_ =>
  bif !(!(decide (r_3.2.2.2=0))) then
   j_ ((w (1+r_2)),r_3.1,r_3.2.2.1,(decide ((r_3.2.2.1.2.2.2.2.1.length:Int) < 1)))
  else
   j_ ((w (1+r_2)),r_3.1,r_3.2.2.1,true)
def sg14:Sig:=⟨[(y2,.sh),(y2,.sh),(y2,.sh),(y2,.sh),(y2,.sh),(y27,.bw)],[(y4,.sh)]⟩
def plan14:Plan:=(.seq (.reg [] []) (.seq (.seq (.reg [] []) (.cond (.seq (.reg [] []) .nil) .nil)) (.seq (.reg [] []) (.seq (.reg [] [{},{},{},{},{},{},{},{ fl:=1 }]) (.seq (.join (.reg [] []) [(0,.v y2 .sh),(13,.v (.ptr y23) (.own 0 .sh)),(15,.v (.ptr y32) (.own 0 .sh)),(53,.v y4 .sh)] (.cond (.seq (.reg [] []) .nil) .nil)) (.seq (.reg [] []) (.seq (.reg [] [{ fl:=2 },{ fl:=2 }]) (.seq (.seq (.reg [] []) (.block (.loop [(0,.v y2 .sh),(15,.v (.ptr y32) (.own 0 .sh)),(17,.v y2 .sh),(18,.v y26 (.own 3 .sh)),(19,.v y26 (.own 3 .sh)),(20,.v y2 .sh)] [(.brk 0,[]),(.ret,[(12,.v y4 .sh)])] (.seq (.seq (.reg [] []) (.cond .nil .nil)) (.seq (.block (.seq (.reg [] []) (.seq (.join (.reg [] []) [(0,.v y2 .sh),(15,.v (.ptr y32) (.own 0 .sh)),(17,.v y2 .sh),(18,.v y26 (.own 3 .sh)),(19,.v y26 (.own 3 .sh)),(20,.v y2 .sh),(21,.v y154 (.own 0 .sh)),(80,.v y4 .sh)] (.cond (.seq (.reg [] []) .nil) .nil)) (.seq (.seq (.reg [] []) (.block (.loop [(0,.v y2 .sh),(15,.v (.ptr y32) (.own 0 .sh)),(17,.v y2 .sh),(18,.v y26 (.own 3 .sh)),(19,.v y26 (.own 3 .sh)),(20,.v y2 .sh),(21,.v y154 (.own 0 .sh)),(22,.v y2 .sh)] [(.brk 2,[(0,.v y2 .sh),(15,.v (.ptr y32) (.own 0 .sh)),(17,.v y2 .sh),(18,.v y26 (.own 3 .sh)),(19,.v y26 (.own 3 .sh)),(20,.v y2 .sh),(21,.v y154 (.own 0 .sh))]),(.ret,[(12,.v y4 .sh)])] (.seq (.seq (.reg [] []) (.cond .nil .nil)) (.join (.block (.seq (.reg [] [{},{},{},{},{},{},{},{ fl:=1 }]) (.seq (.reg [] [{},{},{},{},{},{},{},{ fl:=1 }]) (.seq (.join (.reg [] []) [(0,.v y2 .sh),(15,.v (.ptr y32) (.own 0 .sh)),(17,.v y2 .sh),(18,.v y26 (.own 3 .sh)),(19,.v y26 (.own 3 .sh)),(20,.v y2 .sh),(21,.v y154 (.own 0 .sh)),(22,.v y2 .sh),(23,.v y2 .sh),(25,.v y2 .sh),(111,.v y4 .sh)] (.cond (.seq (.reg [] []) .nil) .nil)) (.block (.seq (.reg [] []) (.cond (.join (.reg [] []) [(0,.v y2 .sh),(15,.v (.ptr y32) (.own 0 .sh)),(17,.v y2 .sh),(18,.v y26 (.own 3 .sh)),(19,.v y26 (.own 3 .sh)),(20,.v y2 .sh),(21,.v y154 (.own 0 .sh)),(22,.v y2 .sh),(124,.v y4 .sh)] (.cond (.seq (.reg [] []) .nil) .nil)) (.seq (.reg [] []) (.cond (.join (.reg [] []) [(0,.v y2 .sh),(15,.v (.ptr y32) (.own 0 .sh)),(17,.v y2 .sh),(18,.v y26 (.own 3 .sh)),(19,.v y26 (.own 3 .sh)),(20,.v y2 .sh),(21,.v y154 (.own 0 .sh)),(22,.v y2 .sh),(135,.v y4 .sh)] (.cond (.seq (.reg [] []) .nil) .nil)) (.seq (.reg [] []) (.cond (.seq (.reg [] []) .nil) .nil))))))))))) [(0,.v y2 .sh),(15,.v (.ptr y32) (.own 0 .sh)),(17,.v y2 .sh),(18,.v y26 (.own 3 .sh)),(19,.v y26 (.own 3 .sh)),(20,.v y2 .sh),(21,.v y154 (.own 0 .sh)),(22,.v y2 .sh)] (.reg [] [])))))) (.reg [] []))))) (.reg [] [])))))) (.seq (.reg [] []) .nil)))))))))
theorem ev14 (xs:Vals (ptys sg14.ps)):evF (P:=Tryz.prog) tab [.fn E54,.fn E55,.fn E24,.fn E62,.fn E63,.fn E64,.fn E49] sg14 Tryz.f14.results.toList (code Tryz.f14) plan14 xs=d14 xs.1 xs.2.1 xs.2.2.1 xs.2.2.2.1 xs.2.2.2.2.1 xs.2.2.2.2.2.1:=by kernel_rfl
theorem sim14:Sim Tryz.prog 14 sg14 d14:=zah mixd zan Tryz.func14 (zac rfl) Tryz.call14 (Nat.le_of_ble_eq_true (by kernel_rfl)) (by kernel_rfl) plan14 _ fun xs y h=>(ev14 xs).trans h
noncomputable def d15 (p0:Int) (p1:Int) (p2:Int) (p3:Int) (p4:Int) (p5:Int) (p6:List uf10):Option Bool :=
 (d54 p6).bind fun r =>
 bif !r then
  (d55).bind fun r_1 =>
  some r_1
 else
  (d24 p0 7).bind fun r_2 =>
  (d62 (w (1+r_2)) p1 p2 p3 p4 p6).bind fun r_3 =>
  (d27 (w (1+r_2)) p5).bind fun r_4 =>
  (d42 r_3.2.1 r_4).bind fun r_5 =>
  (d27 (w (1+r_2)) p4).bind fun r_6 =>
  (d43 r_6 r_4).bind fun r_7 =>
  (d56 r_3.1 r_5 r_7).bind fun r_8 =>
  letJ (fun ((t17,t19,t20,t84):uf2 × uf10 × uf2 × Bool) =>
    bif t84 then
     some false
    else
     (d55).bind fun r_10 =>
     bif r_10 then
      (d44 t20.2.2.2.2.2).bind fun r_11 =>
      (d43 t17.2.2.2.2.2 t19).bind fun r_12 =>
      (d44 r_12).bind fun r_13 =>
      (d38 r_11 r_13).bind fun r_14 =>
      some r_14
     else
      some false) fun j_ =>
  bif !(!(decide (r_3.2.2.2=0))) then
   bif !(!(decide (r_8.2=0))) then
    (d32 (w (1+r_2)) r_3.2.2.1.2.2.2.2.2).bind fun r_9 =>
    bif !(!r_9) then
     bif !(!(decide ((r_3.2.2.1.2.2.2.2.1.length:Int)=(r_8.1.2.2.2.2.1.length:Int)))) then
      j_ (r_3.2.2.1,r_4,r_8.1,(decide ((r_3.2.2.1.2.2.2.2.1.length:Int)=0)))
     else
      j_ (r_3.2.2.1,r_4,r_8.1,true)
    else
     j_ (r_3.2.2.1,r_4,r_8.1,true)
   else
    j_ (r_3.2.2.1,r_4,r_8.1,true)
  else
   j_ (r_3.2.2.1,r_4,r_8.1,true)
noncomputable def d16 (p0:Int) (p1:Int) (p2:Int) (p3:Int) (p4:Int) (p5:List uf10):Option Bool :=
 (d54 p5).bind fun r =>
 bif !r then
  (d55).bind fun r_1 =>
  some r_1
 else
  (d24 p0 7).bind fun r_2 =>
  (d62 (w (1+r_2)) p1 p2 p3 p4 p5).bind fun r_3 =>
  letJ (fun ((t13,t15,t63):uf4 × uf2 × Bool) =>
    bif t63 then
     some false
    else
     (d63 t13.2.2.2.2.2.1).bind fun r_4 =>
     (zaa (β:=Unit ⊕ Bool) (fun ((t13_1,t15_1,t17,t18):uf4 × uf2 × Int × Int) =>
       bif (decide (t18 < (t15_1.2.2.2.2.1.length:Int))) then
        bif (decide (0≤t18) && decide (t18 < (t15_1.2.2.2.2.1.length:Int))) then
         letJ (fun ((t13_2,t15_2,t17_1,t18_1,t19,t20,t97):uf4 × uf2 × Int × Int × uf3 × Bool × Bool) =>
           bif t97 then
            some (Sum.inr (Sum.inr false))
           else
            (d64 t19.2.2.2.2.1 t17_1).bind fun r_5 =>
            letJ (fun ((t13_3,t15_3,t17_2,t18_2,t19_1,t127):uf4 × uf2 × Int × Int × uf3 × Bool) =>
              bif t127 then
               some (Sum.inr (Sum.inr false))
              else
               some (Sum.inl (t13_3,t15_3,t17_2,(w (t18_2+1))))) fun j__2 =>
            bif !(!r_5.2) then
             bif !t20 then
              bif (decide ((w ((t19.2.2.2.2.2.1.length:Int)+(t19.2.2.2.2.2.2.1.length:Int)))=0)) then
               (d60 t13_2.2.2.2.2.2.1).bind fun r_6 =>
               j__2 (t13_2,t15_2,t17_1,t18_1,t19,(decide (r_5.1 < r_6)))
              else
               j__2 (t13_2,t15_2,t17_1,t18_1,t19,false)
             else
              j__2 (t13_2,t15_2,t17_1,t18_1,t19,false)
            else
             j__2 (t13_2,t15_2,t17_1,t18_1,t19,true)) fun j__1 =>
         bif (decide (t18=(w ((t15_1.2.2.2.2.1.length:Int) - 1)))) then
          bif !(!(decide ((((((((((List.getD t15_1.2.2.2.2.1 (Int.toNat t18) ([],[],(false,[],[]),(false,[],[]),(false,[],[]),[],[],[])).2).2).2).2).2).2).1).length:Int)=0))) then
           j__1 (t13_1,t15_1,t17,t18,(List.getD t15_1.2.2.2.2.1 (Int.toNat t18) ([],[],(false,[],[]),(false,[],[]),(false,[],[]),[],[],[])),(decide (t18=(w ((t15_1.2.2.2.2.1.length:Int) - 1)))),(decide (((((((((List.getD t15_1.2.2.2.2.1 (Int.toNat t18) ([],[],(false,[],[]),(false,[],[]),(false,[],[]),[],[],[])).2).2).2).2).2).1).length:Int)=0)))
          else
           j__1 (t13_1,t15_1,t17,t18,(List.getD t15_1.2.2.2.2.1 (Int.toNat t18) ([],[],(false,[],[]),(false,[],[]),(false,[],[]),[],[],[])),(decide (t18=(w ((t15_1.2.2.2.2.1.length:Int) - 1)))),true)
         else
          j__1 (t13_1,t15_1,t17,t18,(List.getD t15_1.2.2.2.2.1 (Int.toNat t18) ([],[],(false,[],[]),(false,[],[]),(false,[],[]),[],[],[])),(decide (t18=(w ((t15_1.2.2.2.2.1.length:Int) - 1)))),false)
        else none
       else
        some (Sum.inr (Sum.inl ()))) (t13,t15,r_4,0)).bind fun
     | Sum.inl _ =>
      (d55).bind fun r_7 =>
      some r_7
     | Sum.inr t12 =>
      some t12) fun j_ =>
  bif !(!(decide (r_3.2.2.2=0))) then
   bif !(decide ((r_3.2.2.1.2.2.2.2.1.length:Int) < 1)) then
    bif !(!(decide (r_3.2.2.1.2.2.1=r_3.1.2.2.2.2.2.1))) then
     j_ (r_3.1,r_3.2.2.1,!(decide (r_3.2.2.1.2.1=r_3.1.2.2.2.1)))
    else
     j_ (r_3.1,r_3.2.2.1,true)
   else
    j_ (r_3.1,r_3.2.2.1,true)
  else
   j_ (r_3.1,r_3.2.2.1,true)
def sg16:Sig:=⟨[(y2,.sh),(y2,.sh),(y2,.sh),(y2,.sh),(y2,.sh),(y27,.bw)],[(y4,.sh)]⟩
def plan16:Plan:=(.seq (.reg [] []) (.seq (.seq (.reg [] []) (.cond (.seq (.reg [] []) .nil) .nil)) (.seq (.reg [] []) (.seq (.reg [] [{},{},{},{},{},{},{},{ fl:=1 }]) (.seq (.join (.reg [] []) [(13,.v (.ptr y23) (.own 0 .sh)),(15,.v (.ptr y32) (.own 0 .sh)),(63,.v y4 .sh)] (.cond (.seq (.reg [] []) .nil) .nil)) (.seq (.reg [] []) (.seq (.seq (.reg [] []) (.block (.loop [(13,.v (.ptr y23) (.own 0 .sh)),(15,.v (.ptr y32) (.own 0 .sh)),(17,.v y2 .sh),(18,.v y2 .sh)] [(.brk 0,[]),(.ret,[(12,.v y4 .sh)])] (.seq (.seq (.reg [] []) (.cond .nil .nil)) (.seq (.block (.seq (.reg [] []) (.seq (.reg [] []) (.seq (.join (.reg [] []) [(13,.v (.ptr y23) (.own 0 .sh)),(15,.v (.ptr y32) (.own 0 .sh)),(17,.v y2 .sh),(18,.v y2 .sh),(19,.v y154 (.own 0 .sh)),(20,.v y4 .sh),(97,.v y4 .sh)] (.cond (.seq (.reg [] []) .nil) .nil)) (.seq (.reg [] [{},{},{},{},{ fl:=1 }]) (.join (.reg [] []) [(13,.v (.ptr y23) (.own 0 .sh)),(15,.v (.ptr y32) (.own 0 .sh)),(17,.v y2 .sh),(18,.v y2 .sh),(19,.v y154 (.own 0 .sh)),(127,.v y4 .sh)] (.cond (.seq (.reg [] []) .nil) .nil))))))) (.reg [] [])))))) (.seq (.reg [] []) .nil))))))))
theorem ev16 (xs:Vals (ptys sg16.ps)):evF (P:=Tryz.prog) tab [.fn E54,.fn E55,.fn E24,.fn E62,.fn E63,.fn E64,.fn E60] sg16 Tryz.f16.results.toList (code Tryz.f16) plan16 xs=d16 xs.1 xs.2.1 xs.2.2.1 xs.2.2.2.1 xs.2.2.2.2.1 xs.2.2.2.2.2.1:=by kernel_rfl
theorem sim16:Sim Tryz.prog 16 sg16 d16:=zah mixd zan Tryz.func16 (zac rfl) Tryz.call16 (Nat.le_of_ble_eq_true (by kernel_rfl)) (by kernel_rfl) plan16 _ fun xs y h=>(ev16 xs).trans h
noncomputable def d17 (p0:Int) (p1:Int) (p2:Int) (p3:Int) (p4:Int) (p5:List uf10):Option Bool :=
 (d54 p5).bind fun r =>
 bif !r then
  (d55).bind fun r_1 =>
  some r_1
 else
  (d24 p0 7).bind fun r_2 =>
  (d62 (w (1+r_2)) p1 p2 p3 p4 p5).bind fun r_3 =>
  (d51 (w (1+r_2))).bind fun r_4 =>
  (d50 r_3.2.1 r_4).bind fun r_5 =>
  letJ (fun ((t0,t13,t14,t15,t17,t59):Int × uf4 × uf7 × uf2 × uf10 × Bool) =>
    bif t59 then
     some false
    else
     (zaa (β:=Unit ⊕ Bool) (fun ((t0_1,t13_1,t14_1,t15_1,t17_1,t19):Int × uf4 × uf7 × uf2 × uf10 × Int) =>
       bif (decide (t19 < t0_1)) then
        letJ (fun ((t0_2,t13_2,t14_2,t15_2,t17_2,t19_1,t85):Int × uf4 × uf7 × uf2 × uf10 × Int × Bool) =>
          bif t85 then
           some (Sum.inr (Sum.inr false))
          else
           some (Sum.inl (t0_2,t13_2,t14_2,t15_2,t17_2,(w (t19_1+1))))) fun j__1 =>
        bif (decide (0≤t19) && decide (t19 < (t17_1.length:Int))) then
         (d52 t14_1).bind fun r_6 =>
         bif (decide (r_6 < (w ((w (t13_1.2.2.2.1+1)) * (List.getD t17_1 (Int.toNat t19) 0))))) then
          bif (decide (0≤0) && decide (0 < (t15_1.2.2.2.2.1.length:Int))) then
           (d49 (((((((List.getD t15_1.2.2.2.2.1 0 ([],[],(false,[],[]),(false,[],[]),(false,[],[]),[],[],[])).2).2).2).2).2).1) t19).bind fun r_7 =>
           j__1 (t0_1,t13_1,t14_1,t15_1,t17_1,t19,!r_7)
          else none
         else
          j__1 (t0_1,t13_1,t14_1,t15_1,t17_1,t19,false)
        else none
       else
        some (Sum.inr (Sum.inl ()))) (t0,t13,t14,t15,t17,0)).bind fun
     | Sum.inl _ =>
      (d55).bind fun r_8 =>
      some r_8
     | Sum.inr t12 =>
      some t12) fun j_ =>
  bif !(!(decide (r_3.2.2.2=0))) then
   bif !(decide ((r_3.2.2.1.2.2.2.2.1.length:Int) < 1)) then
    j_ ((w (1+r_2)),r_3.1,r_3.2.1,r_3.2.2.1,r_5.1,!(decide ((r_5.1.length:Int)=(w (1+r_2)))))
   else
    j_ ((w (1+r_2)),r_3.1,r_3.2.1,r_3.2.2.1,r_5.1,true)
  else
   j_ ((w (1+r_2)),r_3.1,r_3.2.1,r_3.2.2.1,r_5.1,true)
def sg17:Sig:=⟨[(y2,.sh),(y2,.sh),(y2,.sh),(y2,.sh),(y2,.sh),(y27,.bw)],[(y4,.sh)]⟩
def plan17:Plan:=(.seq (.reg [] []) (.seq (.seq (.reg [] []) (.cond (.seq (.reg [] []) .nil) .nil)) (.seq (.reg [] []) (.seq (.reg [] [{},{},{},{},{},{},{},{ fl:=1 }]) (.seq (.reg [] [{},{},{},{},{ fl:=1 }]) (.seq (.join (.reg [] []) [(0,.v y2 .sh),(13,.v (.ptr y23) (.own 0 .sh)),(14,.v y25 .sh),(15,.v (.ptr y32) (.own 0 .sh)),(17,.v y26 .sh),(59,.v y4 .sh)] (.cond (.seq (.reg [] []) .nil) .nil)) (.seq (.seq (.reg [] []) (.block (.loop [(0,.v y2 .sh),(13,.v (.ptr y23) (.own 0 .sh)),(14,.v y25 .sh),(15,.v (.ptr y32) (.own 0 .sh)),(17,.v y26 .sh),(19,.v y2 .sh)] [(.brk 0,[]),(.ret,[(12,.v y4 .sh)])] (.seq (.seq (.reg [] []) (.cond .nil .nil)) (.seq (.block (.join (.reg [] []) [(0,.v y2 .sh),(13,.v (.ptr y23) (.own 0 .sh)),(14,.v y25 .sh),(15,.v (.ptr y32) (.own 0 .sh)),(17,.v y26 .sh),(19,.v y2 .sh),(85,.v y4 .sh)] (.cond (.seq (.reg [] []) .nil) .nil))) (.reg [] [])))))) (.seq (.reg [] []) .nil))))))))
theorem ev17 (xs:Vals (ptys sg17.ps)):evF (P:=Tryz.prog) tab [.fn E54,.fn E55,.fn E24,.fn E62,.fn E51,.fn E50,.fn E52,.fn E49] sg17 Tryz.f17.results.toList (code Tryz.f17) plan17 xs=d17 xs.1 xs.2.1 xs.2.2.1 xs.2.2.2.1 xs.2.2.2.2.1 xs.2.2.2.2.2.1:=by kernel_rfl
theorem sim17:Sim Tryz.prog 17 sg17 d17:=zah mixd zan Tryz.func17 (zac rfl) Tryz.call17 (Nat.le_of_ble_eq_true (by kernel_rfl)) (by kernel_rfl) plan17 _ fun xs y h=>(ev17 xs).trans h
noncomputable def d18 (p0:Int) (p1:Int) (p2:Int) (p3:Int) (p4:List uf10):Option Bool :=
 (d54 p4).bind fun r =>
 bif !r then
  (d55).bind fun r_1 =>
  some r_1
 else
  (d24 p0 7).bind fun r_2 =>
  (d62 (w (1+r_2)) 0 p1 p2 p3 p4).bind fun r_3 =>
  (d25 0 (w (1+r_2)) 0 0 p2).bind fun r_4 =>
  (d27 (w (1+r_2)) p3).bind fun r_5 =>
  (d53 r_4 r_3.2.1 r_5).bind fun r_6 =>
  (d55).bind fun r_7 =>
  bif r_7 then
   bif (decide (r_3.2.2.2=0)) then
    bif (decide (r_6.2=0)) then
     bif (decide ((r_3.2.2.1.2.2.2.2.2.length:Int)=1)) then
      (d38 r_3.2.2.1.2.2.2.2.2 r_6.1.2.2.2.2.2).bind fun r_8 =>
      some r_8
     else
      some false
    else
     some false
   else
    some false
  else
   some false
end Go.Proofs.YtmipjomnjkmdbaaGreat
set_option linter.unusedSimpArgs false
set_option linter.unusedVariables false
namespace Go.Proofs.YtmipjomnjkmdbaaGreat
open Go Go.X
variable {P:GP} {s:GS}
def rd0:Rd:=⟨[],[],0,0,0,[],[],[]⟩
theorem zet {α:Type} {l:List α} {i:Nat} (d:α) (h:i < l.length):l.drop i=l.getD i d::l.drop (i+1):=by
  rw [List.getD_eq_getElem?_getD,List.getElem?_eq_getElem h]
  exact List.drop_eq_getElem_cons h
end Go.Proofs.YtmipjomnjkmdbaaGreat
set_option linter.unusedSimpArgs false
set_option linter.unusedVariables false
namespace Go.Proofs.YtmipjomnjkmdbaaGreat
open Go Go.X
theorem wsum_sumG {n:Int} {gs:List Grp} {N:Int} (h:PileOK n gs N) (b:List Int→Bool) (f:List Int→Int) (hf:∀ p,f p=if b p then 1 else 0) (c:CT) (lots:List Int):wsum f gs=((sumN (fun g=>if b ((gpOf c gs lots).p g) then (gpOf c gs lots).k g else 0) gs.length:Nat):Int):=by
  have:=zhy h b c lots gs.length (Nat.le_refl _)
  rw [List.take_length] at this
  rw [← this]
  congr 1
  funext p
  exact hf p
theorem first_votes {n:Int} {gs:List Grp} {N:Int} (h:PileOK n gs N) (c:CT) (lots:List Int) (x:Nat):wsum (zjt (x:Int)) gs=((g0.lie (gpOf c gs lots) x:Nat):Int):=by
  rw [wsum_sumG h (fun p=>decide (p ≠ []) && decide (p.getD 0 0=(x:Int))) (zjt (x:Int)) (fun p=>?_) c lots]
  · congr 1
    unfold GS.lie
    refine zao fun g hg=>?_
    have e:(decide ((gpOf c gs lots).p g ≠ []) && decide (((gpOf c gs lots).p g).getD 0 0=(x:Int)))=g0.on (gpOf c gs lots) g x:=by
      unfold GS.on
      show _=(decide (0 < ((gpOf c gs lots).p g).length) && decide (((gpOf c gs lots).p g).getD 0 0=(x:Int)))
      congr 1
      exact decide_eq_decide.2 List.length_pos_iff.symm
    rw [e]
    show _=if g0.on (gpOf c gs lots) g x=true then (gpOf c gs lots).k g * 1 else 0
    rw [Nat.mul_one]
  · unfold zjt
    by_cases h1:p ≠ []∧p.getD 0 0=(x:Int)
    · rw [if_pos h1,decide_eq_true h1.1,decide_eq_true h1.2]; rfl
    · rw [if_neg h1]
      have:(decide (p ≠ []) && decide (p.getD 0 0=(x:Int)))=false:=by
        rw [Bool.and_eq_false_iff,decide_eq_false_iff_not,decide_eq_false_iff_not]
        by_cases h2:p=[]
        · exact .inl fun h=>h h2
        · exact .inr fun h=>h1 ⟨h2,h⟩
      rw [this]; rfl
theorem marked_mkd {n:Int} {gs:List Grp} {N:Int} (h:PileOK n gs N) (c:CT) (lots:List Int):wsum zas gs=(((gpOf c gs lots).mkd:Nat):Int):=by
  rw [wsum_sumG h (fun p=>decide (p ≠ [])) zas (fun p=>by unfold zas; by_cases hp:p=[] <;> simp [hp]) c lots]
  congr 1
  unfold GP.mkd
  refine zao fun g hg=>?_
  by_cases hp:(gpOf c gs lots).p g=[] <;> simp [hp]
end Go.Proofs.YtmipjomnjkmdbaaGreat
set_option linter.unusedSimpArgs false
set_option linter.unusedVariables false
namespace Go.Proofs.YtmipjomnjkmdbaaGreat
open Go Go.X
structure Ren (n:Nat) (ρ:Nat→Nat) (l l':List Int):Prop where
  mem:∀ i,i < n→((i:Int)∈l↔((ρ i:Nat):Int)∈l')
  len:l.length=l'.length
  ins:∀ c∈l,∃ i:Nat,c=(i:Int)∧i < n
  ins':∀ c∈l',∃ i:Nat,c=(i:Int)∧i < n
end Go.Proofs.YtmipjomnjkmdbaaGreat
set_option linter.unusedSimpArgs false
set_option linter.unusedVariables false
namespace Go.Proofs.YtmipjomnjkmdbaaGreat
open Go Go.X
theorem d44_eq {l:List Int} (hl:l.length≤281474976710656):d44 l=some (selI (fun i=>decide ((i:Int)∈l)) 12):=by
  unfold d44
  refine zaf (fun i=>(l,selI (fun i=>decide ((i:Int)∈l)) i,(i:Int))) 12 rfl (fun i hi=>?_) (b:=selI (fun i=>decide ((i:Int)∈l)) 12) ?_ rfl
  · have hc:=zcl (fun i=>decide ((i:Int)∈l)) i
    simp only [decide_eq_true (show (i:Int) < 12 by omega),cond_true,zak,zoe (i:Int) hl,Option.bind_some,zbk (show i < 9223372036854775807 by omega),zek]
    cases decide ((i:Int)∈l)
    · simp
    · simp only [cond_true,if_true,zff (l:=selI (fun i=>decide ((i:Int)∈l)) i) (d:=(i:Int)) (by rw [zbc]; omega)]
  · rfl
theorem while_prp {α β γ:Type} {f:α→Option (α ⊕ β)} {k:β→Option γ} {a0:α} {b:β} {X:Option γ→Prop} (st:Nat→α) (n:Nat) (h0:st 0=a0) (hs:∀ i,i < n→f (st i)=some (.inl (st (i+1)))) (he:f (st n)=some (.inr b)) (hk:X (k b)):X ((zaa f a0).bind k):=by
  rw [zaf st n h0 hs he rfl]; exact hk
end Go.Proofs.YtmipjomnjkmdbaaGreat
set_option linter.unusedSimpArgs false
set_option linter.unusedVariables false
namespace Go.Proofs.YtmipjomnjkmdbaaGreat
open Go Go.X
theorem wsum_gen {n:Int} {gs:List Grp} {N:Int} (h:PileOK n gs N) (f:List Int→Nat) (c:CT) (lots:List Int):∀ m,m≤gs.length→wsum (fun p=>(f p:Int)) (gs.take m)=((sumN (fun g=>(gpOf c gs lots).k g * f ((gpOf c gs lots).p g)) m:Nat):Int)
  | 0,_=>by simp [wsum,sumN]
  | m+1,hm=>by
    have hg:=(h.ballots _ (zcu (l:=gs) (d:=([],0)) (i:=m) (by omega))).2
    rw [zdb _ gs (by omega),wsum_gen h f c lots m (by omega),sumN]
    have e1:(gpOf c gs lots).p m=(gs.getD m ([],0)).1:=rfl
    have e2:(((gpOf c gs lots).k m:Nat):Int)=(gs.getD m ([],0)).2:=by
      show ((gs.getD m ([],0)).2.toNat:Int)=_
      omega
    rw [e1,Int.natCast_add,Int.natCast_mul,e2]
end Go.Proofs.YtmipjomnjkmdbaaGreat
set_option linter.unusedSimpArgs false
set_option linter.unusedVariables false
namespace Go.Proofs.YtmipjomnjkmdbaaGreat
open Go Go.X
theorem zid (f:Nat→Nat) {m n:Nat} (h:m≤n):sumN f m≤sumN f n:=by
  induction n with
  | zero=>rw [show m=0 by omega]; exact Nat.le_refl _
  | succ n ih =>
    by_cases hm:m=n+1
    · rw [hm]; exact Nat.le_refl _
    · rw [sumN]; have:=ih (by omega); omega
theorem wmul {a b:Nat} (h:a * b≤9223372036854775807):w ((a:Int) * (b:Int))=((a * b:Nat):Int):=by rw [← Int.natCast_mul,zbf (by omega) (by omega)]
theorem wsubN {a b:Nat} (h:b≤a) (ha:a≤9223372036854775807):w ((a:Int) - (b:Int))=((a - b:Nat):Int):=by rw [zbf (by omega) (by omega)]; omega
theorem ten_le {d e:Nat} (h:d≤e):10 ^ d≤10 ^ e:=Nat.pow_le_pow_right (by decide) h
theorem ten_six {d:Nat} (h:d≤6):10 ^ d≤1000000:=Nat.le_trans (ten_le h) (by decide)
theorem ten_pos (d:Nat):0 < 10 ^ d:=Nat.pow_pos (by decide)
theorem wten {i:Nat} (h:i < 18):w (((10 ^ i:Nat):Int) * 10)=((10 ^ (i+1):Nat):Int):=by
  have h2:10 ^ (i+1)≤10 ^ 18:=ten_le (by omega)
  have h3:(10:Nat) ^ 18=1000000000000000000:=by decide
  rw [h3,Nat.pow_succ] at h2
  rw [Nat.pow_succ]
  generalize 10 ^ i=x at h2 ⊢
  rw [zbf (by omega) (by omega)]
  omega
theorem d111_eq {d:Nat} (h:d≤18):d111 (d:Int)=some ((10 ^ d:Nat):Int):=by
  unfold d111
  refine zaf (fun i=>(((10 ^ i:Nat):Int),(d:Int),(i:Int))) d rfl (fun i hi=>?_) ?_ rfl
  · simp only [dlt hi,cond_true,wten (show i < 18 by omega),zbk (show i < 9223372036854775807 by omega)]
  · simp only [nlt (Nat.le_refl d),cond_false]
theorem d121_eq {a b:Nat} (hb:0 < b) (h:a+b≤4611686018427387904):d121 (a:Int) (b:Int)=some ((mup a b:Nat):Int):=by
  unfold d121 mup
  have h1:=Nat.div_le_self (a+b - 1) b
  have h2:Int.tdiv ((a+b - 1:Nat):Int) (b:Int)=(((a+b - 1) / b:Nat):Int):=by
    rw [Int.tdiv_eq_ediv_of_nonneg (by omega)]; rfl
  have h3:w ((a+b - 1:Nat):Int)=((a+b - 1:Nat):Int):=zbf (by omega) (by omega)
  have h4:w (((a+b - 1) / b:Nat):Int)=(((a+b - 1) / b:Nat):Int):=by
    generalize (a+b - 1) / b=q at h1 ⊢
    exact zbf (by omega) (by omega)
  rw [decide_eq_false (show ¬ (b:Int)=0 by omega),Bool.not_false,cond_true,wadd (by omega),show ((a+b:Nat):Int) - 1=((a+b - 1:Nat):Int) by omega,h3,h2,h4]
def zgk (one:Nat) (kp:Nat→Nat) (p:List Int) (m c:Nat):Nat:=sumN (fun j=>if p.getD j 0=(c:Int) then zdv one kp p j else 0) m
def mvoU (P:GP) (one:Nat) (kp:Nat→Nat) (m c:Nat):Nat:=sumN (fun g=>P.k g * ziq one kp (P.p g) c) m
def mroU (P:GP) (one:Nat) (kp:Nat→Nat) (m:Nat):Nat:=sumN (fun g=>P.k g * mw one kp (P.p g) (P.p g).length) m
theorem give_step {one:Nat} {kp:Nat→Nat} {p:List Int} {n j k x:Nat} (V:Nat→Nat) (hx:p.getD j 0=(x:Int)) :
    (lst (fun c=>((V c+k * zgk one kp p j c:Nat):Int)) n).set x (((V x+k * zgk one kp p j x+zdv one kp p j * k:Nat)):Int)=lst (fun c=>((V c+k * zgk one kp p (j+1) c:Nat):Int)) n:=by
  rw [zjq]
  refine zcj fun c _=>?_
  unfold upd zgk
  rw [sumN,hx]
  by_cases h:c=x
  · subst h
    rw [if_pos rfl,if_pos rfl,Nat.mul_add,Nat.mul_comm (zdv one kp p j) k,Nat.add_assoc]
  · rw [if_neg h,if_neg (by omega),Nat.add_zero]
section
variable {gs:List Grp} (c:CT) (lots:List Int) {one:Nat} {kp:Nat→Nat} (h1:0 < one) (h6:one≤1000000) (hk:∀ i,kp i≤one)
include h1 h6 hk
theorem dis_bounds (hP:sumN (gpOf c gs lots).k gs.length≤100000) {g j x:Nat} (hg:g < gs.length) (hj:j < ((gpOf c gs lots).p g).length):mvoU (gpOf c gs lots) one kp g x+(gpOf c gs lots).k g * zgk one kp ((gpOf c gs lots).p g) j x≤100000000000∧zdv one kp ((gpOf c gs lots).p g) j * (gpOf c gs lots).k g≤100000000000:=by
  have hkg:(gpOf c gs lots).k g≤100000:=Nat.le_trans (zlm hg) hP
  have hmg:∀ g m x,m≤((gpOf c gs lots).p g).length→zgk one kp ((gpOf c gs lots).p g) m x≤one:=fun g m x hm=>by
    have e:=mw_sum h1 hk ((gpOf c gs lots).p g) m
    have:zgk one kp ((gpOf c gs lots).p g) m x≤sumN (zdv one kp ((gpOf c gs lots).p g)) m:=zej fun i _=>by split <;> omega
    omega
  have hmp:zdv one kp ((gpOf c gs lots).p g) j≤one:=Nat.le_trans (zkx h1 hk _ _) (mw_le h1 hk _ _)
  refine ⟨?_,Nat.le_trans (Nat.mul_le_mul hmp hkg) (Nat.le_trans (Nat.mul_le_mul_right _ h6) (by decide))⟩
  have e1:mvoU (gpOf c gs lots) one kp g x+(gpOf c gs lots).k g * zgk one kp ((gpOf c gs lots).p g) j x≤sumN (fun g=>(gpOf c gs lots).k g * one) (g+1):=by
    rw [sumN]
    refine Nat.add_le_add (zej fun i _=>Nat.mul_le_mul_left _ (hmg i _ x (Nat.le_refl _))) (Nat.mul_le_mul_left _ (hmg g j x (by omega)))
  have e2:=zid (fun g=>(gpOf c gs lots).k g * one) (show g+1≤gs.length by omega)
  rw [zft (gpOf c gs lots).k one gs.length] at e2
  have e3:sumN (gpOf c gs lots).k gs.length * one≤100000 * 1000000:=Nat.mul_le_mul hP h6
  omega
theorem rest_bounds (hP:sumN (gpOf c gs lots).k gs.length≤100000) {g:Nat} (hg:g < gs.length):mroU (gpOf c gs lots) one kp (g+1)≤100000000000∧mw one kp ((gpOf c gs lots).p g) ((gpOf c gs lots).p g).length * (gpOf c gs lots).k g≤100000000000:=by
  have hkg:(gpOf c gs lots).k g≤100000:=Nat.le_trans (zlm hg) hP
  refine ⟨?_,Nat.le_trans (Nat.mul_le_mul (mw_le h1 hk _ _) hkg) (Nat.le_trans (Nat.mul_le_mul_right _ h6) (by decide))⟩
  have e1:mroU (gpOf c gs lots) one kp (g+1)≤sumN (fun g=>(gpOf c gs lots).k g * one) (g+1):=zej fun i _=>Nat.mul_le_mul_left _ (mw_le h1 hk _ _)
  have e2:=zid (fun g=>(gpOf c gs lots).k g * one) (show g+1≤gs.length by omega)
  rw [zft (gpOf c gs lots).k one gs.length] at e2
  have e3:sumN (gpOf c gs lots).k gs.length * one≤100000 * 1000000:=Nat.mul_le_mul hP h6
  omega
end
theorem pile_k {n:Nat} {gs:List Grp} {N:Int} (hp:PileOK (n:Int) gs N) (c:CT) (lots:List Int):sumN (gpOf c gs lots).k gs.length≤100000∧∀ g,g < gs.length→(gs.getD g ([],0)).2=(((gpOf c gs lots).k g:Nat):Int):=by
  have h:=wsum_gen hp (fun _=>1) c lots _ (Nat.le_refl _)
  rw [List.take_length] at h
  have ht:=hp.total
  have hm:=hp.most
  have e:wsum (fun _=>((1:Nat):Int)) gs=wsum (fun _=>1) gs:=rfl
  rw [e,ht] at h
  simp only [Nat.mul_one] at h
  refine ⟨by have e2:sumN (gpOf c gs lots).k gs.length=sumN (fun g=>(gpOf c gs lots).k g) gs.length:=rfl
             omega,fun g hg=>?_⟩
  have:=(hp.ballots _ (zcu (l:=gs) (d:=([],0)) (i:=g) hg)).2
  show _=((gs.getD g ([],0)).2.toNat:Int)
  omega
theorem d58_ok {n d:Nat} {gs:List Grp} {N:Int} (h1n:1≤n) (hn:n≤7) (hd1:1≤d) (hd6:d≤6) (hp:PileOK (n:Int) gs N) (c:CT) (lots:List Int) {kp:Nat→Nat} (hk:∀ i,kp i≤10 ^ d) :
    d58 (d:Int) (lst (fun i=>(kp i:Int)) n) gs=some (lst (fun x=>((mvo (gpOf c gs lots) (10 ^ d) kp x:Nat):Int)) n,((mro (gpOf c gs lots) (10 ^ d) kp:Nat):Int),true):=by
  have ho1:=ten_pos d
  have ho6:=ten_six hd6
  obtain ⟨hks,hkg⟩:=pile_k hp c lots
  have hgl:=(hp.gs (by omega)).1
  have h111:=d111_eq (d:=d) (by omega)
  have h120:d120 (n:Int) gs=some true:=by
    unfold d120
    rw [decide_eq_true (show (1:Int)≤(n:Int) by omega),cond_true,decide_eq_true (show (n:Int)≤7 by omega),cond_true,hp.d124 (by omega)]; rfl
  have hball:∀ g,g < gs.length→isB (n:Int) ((gpOf c gs lots).p g):=fun g hg=>(hp.ballots _ (zcu (l:=gs) (d:=([],0)) (i:=g) hg)).1
  have hdb:=fun g j x hg hj=>dis_bounds c lots ho1 ho6 hk hks (g:=g) (j:=j) (x:=x) hg hj
  have hrb:=fun g hg=>rest_bounds c lots ho1 ho6 hk hks (g:=g) hg
  have hmp:∀ p j,zdv (10 ^ d) kp p j≤10 ^ d:=fun p j=>Nat.le_trans (zkx ho1 hk _ _) (mw_le ho1 hk _ _)
  have hmw:∀ p j,mw (10 ^ d) kp p j≤10 ^ d:=fun p j=>mw_le ho1 hk _ _
  have hmst:∀ p j,mw (10 ^ d) kp p j - zdv (10 ^ d) kp p j=mw (10 ^ d) kp p (j+1):=fun p j=>rfl
  have hmpe:∀ p j,zdv (10 ^ d) kp p j=mup (mw (10 ^ d) kp p j * kp (p.getD j 0).toNat) (10 ^ d):=fun p j=>rfl
  have hmpl:=fun p j=>zkx ho1 hk p j
  unfold d58
  simp only [zba,zak,decide_eq_false (show ¬ (d:Int) < 1 by omega),decide_eq_false (show ¬ (6:Int) < (d:Int) by omega),Bool.not_false,cond_true,h120,Option.bind_some,Bool.not_true,cond_false,h111]
  generalize hone:10 ^ d=one at *
  refine zaf (fun i=>(lst (fun i=>(kp i:Int)) n,gs,(0:Int),(one:Int),lst (fun i=>(kp i:Int)) n,(n:Int),(i:Int))) n rfl (fun i hi=>?_) (b:=.inl (lst (fun i=>(kp i:Int)) n,gs,(0:Int),(one:Int))) ?_ ?_
  · have:=hk i
    simp only [dlt hi,d0le,zba,Bool.and_self,cond_true,tn,zbl (fun i=>(kp i:Int)) hi,decide_eq_false (show ¬ (kp i:Int) < 0 by omega),Bool.not_false,nlt this,cond_false,zbk (show i < 9223372036854775807 by omega)]
  · simp only [nlt (Nat.le_refl n),cond_false]
  simp only [zba,decide_true,d0le,zby (n:=n) (by omega),Bool.and_self,cond_true,tn]
  have hrep:List.replicate n (0:Int)=lst (fun x=>((mvoU (gpOf c gs lots) one kp 0 x:Nat):Int)) n:=by rw [lst_rep]; rfl
  rw [hrep]
  refine zaf (fun g=>(lst (fun i=>(kp i:Int)) n,lst (fun x=>((mvoU (gpOf c gs lots) one kp g x:Nat):Int)) n,((mroU (gpOf c gs lots) one kp g:Nat):Int),(one:Int),gs,(gs.length:Int),(g:Int))) gs.length rfl (fun g hg=>?_) (b:=(lst (fun x=>((mvo (gpOf c gs lots) one kp x:Nat):Int)) n,((mro (gpOf c gs lots) one kp:Nat):Int))) ?_ rfl
  · have hbg:=hball g hg
    have hpl:=zmi hbg (by omega)
    have hpg:(gs.getD g ([],0)).1=(gpOf c gs lots).p g:=rfl
    have hgk:=hkg g hg
    have hrb:=hrb g hg
    have hdb:=fun j x hj=>hdb g j x hg hj
    have hmvo:∀ x,mvoU (gpOf c gs lots) one kp g x+(gpOf c gs lots).k g * zgk one kp ((gpOf c gs lots).p g) ((gpOf c gs lots).p g).length x=mvoU (gpOf c gs lots) one kp (g+1) x:=fun x=>rfl
    have hmro:mroU (gpOf c gs lots) one kp (g+1)=mroU (gpOf c gs lots) one kp g+(gpOf c gs lots).k g * mw one kp ((gpOf c gs lots).p g) ((gpOf c gs lots).p g).length:=rfl
    obtain ⟨pr,hpr⟩:∃ pr,gs.getD g ([],0)=pr:=⟨_,rfl⟩
    rw [hpr] at hpg hgk
    obtain ⟨p',k'⟩:=pr
    simp only at hpg hgk
    subst hgk
    generalize (gpOf c gs lots).p g=p at *
    subst hpg
    generalize (gpOf c gs lots).k g=k at *
    simp only [dlt hg,d0le,Bool.and_self,cond_true,tn,hpr]
    refine zaf (fun j=>(lst (fun i=>(kp i:Int)) n,lst (fun x=>((mvoU (gpOf c gs lots) one kp g x+k * zgk one kp p' j x:Nat):Int)) n,((mroU (gpOf c gs lots) one kp g:Nat):Int),(one:Int),((p',(k:Int)):List Int × Int),((mw one kp p' j:Nat):Int),gs,(gs.length:Int),(g:Int),p',(p'.length:Int),(j:Int))) p'.length rfl (fun j hj=>?_) (b:=(lst (fun i=>(kp i:Int)) n,lst (fun x=>((mvoU (gpOf c gs lots) one kp (g+1) x:Nat):Int)) n,((mroU (gpOf c gs lots) one kp g:Nat):Int),(one:Int),((p',(k:Int)):List Int × Int),((mw one kp p' p'.length:Nat):Int),gs,(gs.length:Int),(g:Int))) ?_ ?_
    · have hb:=hbg.2 _ (zcs hj)
      obtain ⟨x,hx⟩:∃ x:Nat,p'.getD j 0=(x:Int):=⟨(p'.getD j 0).toNat,by omega⟩
      have hxn:x < n:=by omega
      have h1:=hmw p' j
      have h2:=hk x
      have h3:mw one kp p' j * kp x≤1000000 * 1000000:=Nat.mul_le_mul (by omega) (by omega)
      have h4:=hmpe p' j
      rw [hx,Int.toNat_natCast] at h4
      have h5:=hdb j x hj
      have h6:=hmp p' j
      have h7:=hmst p' j
      have h8:=hmpl p' j
      have hgs:=give_step (n:=n) (k:=k) (one:=one) (kp:=kp) (fun x=>mvoU (gpOf c gs lots) one kp g x) hx
      simp only [dlt hj,d0le,Bool.and_self,cond_true,tn,hx,zba,dlt hxn,zbl (fun i=>(kp i:Int)) hxn,wmul (show mw one kp p' j * kp x≤9223372036854775807 by omega),d121_eq ho1 (show mw one kp p' j * kp x+one≤4611686018427387904 by omega),Option.bind_some,← h4,zbl (fun x=>((mvoU (gpOf c gs lots) one kp g x+k * zgk one kp p' j x:Nat):Int)) hxn,wmul (show zdv one kp p' j * k≤9223372036854775807 by omega),wadd (show mvoU (gpOf c gs lots) one kp g x+k * zgk one kp p' j x+zdv one kp p' j * k≤9223372036854775807 by omega),hgs,wsubN h8 (by omega),h7,zbk (show j < 9223372036854775807 by omega)]
    · simp only [nlt (Nat.le_refl p'.length),cond_false,hmvo]
    · have h9:=hmw p' p'.length
      rw [Nat.mul_comm] at hrb
      simp only [wmul (show mw one kp p' p'.length * k≤9223372036854775807 by have:=hrb.2; rw [Nat.mul_comm]; omega),wadd (show mroU (gpOf c gs lots) one kp g+mw one kp p' p'.length * k≤9223372036854775807 by rw [Nat.mul_comm (mw one kp p' p'.length)]; omega),zbk (show g < 9223372036854775807 by omega),hmro,Nat.mul_comm k]
  · simp only [nlt (Nat.le_refl gs.length),cond_false]
    rfl
end Go.Proofs.YtmipjomnjkmdbaaGreat
