/- Part 16 of what stands below the statement. -/
import Derived.Shelf.SlLaysF0
import Derived.Shelf.SlSortCmp.NoneTotal
import Derived.Ground.SlsfProg
import Derived.Test.YtieoleabnjdkfaaGreatQ15
namespace Go.Proofs
open Go.Shelf
def Tryz.sortF_ren:Go.Shelf.Ren:=⟨fun | 6=>39 | 15=>68 | 14=>67 | 28=>101 | 29=>102 | 20=>93 | 21=>94 | 22=>95 | 23=>96 | 24=>97 | 25=>98 | 26=>99 | 27=>100 | 46=>122 | 47=>123 | 48=>124 | 49=>125 | 50=>126 | 57=>140 | n=>n,fun | 22=>36 | 24=>49 | 25=>50 | 3=>3 | 39=>80 | 0=>0 | 53=>135 | 55=>137 | 4=>4 | 46=>129 | 45=>128 | 50=>107 | 5=>5 | 9=>9 | 66=>146 | 70=>150 | 76=>159 | 77=>84 | n=>n,fun | n=>n⟩
theorem Tryz.sortF:Go.Proofs.SlLaysF0.n6 Tryz.prog Tryz.sortF_ren:={
  mixed:=by kernel_rfl
  f6:=⟨Tryz.f39.name,by decide,Tryz.func39.trans (congrArg some (by kernel_rfl))⟩
  f14:=⟨Tryz.f67.name,by decide,Tryz.func67.trans (congrArg some (by kernel_rfl))⟩
  f15:=Tryz.func68.trans (congrArg some (by kernel_rfl))
  f20:=⟨Tryz.f93.name,by decide,Tryz.func93.trans (congrArg some (by kernel_rfl))⟩
  f21:=⟨Tryz.f94.name,by decide,Tryz.func94.trans (congrArg some (by kernel_rfl))⟩
  f22:=⟨Tryz.f95.name,by decide,Tryz.func95.trans (congrArg some (by kernel_rfl))⟩
  f23:=⟨Tryz.f96.name,by decide,Tryz.func96.trans (congrArg some (by kernel_rfl))⟩
  f24:=⟨Tryz.f97.name,by decide,Tryz.func97.trans (congrArg some (by kernel_rfl))⟩
  f25:=⟨Tryz.f98.name,by decide,Tryz.func98.trans (congrArg some (by kernel_rfl))⟩
  f26:=⟨Tryz.f99.name,by decide,Tryz.func99.trans (congrArg some (by kernel_rfl))⟩
  f27:=⟨Tryz.f100.name,by decide,Tryz.func100.trans (congrArg some (by kernel_rfl))⟩
  f28:=Tryz.func101.trans (congrArg some (by kernel_rfl))
  f29:=Tryz.func102.trans (congrArg some (by kernel_rfl))
  f46:=⟨Tryz.f122.name,by decide,Tryz.func122.trans (congrArg some (by kernel_rfl))⟩
  f47:=Tryz.func123.trans (congrArg some (by kernel_rfl))
  f48:=Tryz.func124.trans (congrArg some (by kernel_rfl))
  f49:=⟨Tryz.f125.name,by decide,Tryz.func125.trans (congrArg some (by kernel_rfl))⟩
  f50:=⟨Tryz.f126.name,by decide,Tryz.func126.trans (congrArg some (by kernel_rfl))⟩
  f57:=⟨Tryz.f140.name,by decide,Tryz.func140.trans (congrArg some (by kernel_rfl))⟩
  t0:=Tryz.underlying0
  a0:=Tryz.isAgg0
  z0:=Tryz.sizeOf0
  v0:=Tryz.zeroValue0
  t3:=Tryz.underlying3
  a3:=Tryz.isAgg3
  z3:=Tryz.sizeOf3
  v3:=Tryz.zeroValue3
  t4:=Tryz.underlying4
  a4:=Tryz.isAgg4
  z4:=Tryz.sizeOf4
  v4:=Tryz.zeroValue4
  t5:=Tryz.underlying5
  a5:=Tryz.isAgg5
  z5:=Tryz.sizeOf5
  v5:=Tryz.zeroValue5
  t9:=Tryz.underlying9
  a9:=Tryz.isAgg9
  z9:=Tryz.sizeOf9
  v9:=Tryz.zeroValue9
  t22:=Tryz.underlying36
  a22:=Tryz.isAgg36
  z22:=Tryz.sizeOf36
  v22:=Tryz.zeroValue36
  t25:=Tryz.underlying50
  a25:=Tryz.isAgg50
  z25:=Tryz.sizeOf50
  v25:=Tryz.zeroValue50
  t39:=Tryz.underlying80
  a39:=Tryz.isAgg80
  z39:=Tryz.sizeOf80
  v39:=Tryz.zeroValue80
  t45:=Tryz.underlying128
  a45:=Tryz.isAgg128
  z45:=Tryz.sizeOf128
  v45:=Tryz.zeroValue128
  t46:=Tryz.underlying129
  a46:=Tryz.isAgg129
  z46:=Tryz.sizeOf129
  v46:=Tryz.zeroValue129
  t50:=Tryz.underlying107
  a50:=Tryz.isAgg107
  z50:=Tryz.sizeOf107
  v50:=Tryz.zeroValue107
  t53:=Tryz.underlying135
  a53:=Tryz.isAgg135
  z53:=Tryz.sizeOf135
  v53:=Tryz.zeroValue135
  t55:=Tryz.underlying137
  a55:=Tryz.isAgg137
  z55:=Tryz.sizeOf137
  v55:=Tryz.zeroValue137
  t66:=Tryz.underlying146
  a66:=Tryz.isAgg146
  z66:=Tryz.sizeOf146
  v66:=Tryz.zeroValue146
  t70:=Tryz.underlying150
  a70:=Tryz.isAgg150
  z70:=Tryz.sizeOf150
  v70:=Tryz.zeroValue150
  t76:=Tryz.underlying159
  a76:=Tryz.isAgg159
  z76:=Tryz.sizeOf159
  v76:=Tryz.zeroValue159
  t77:=Tryz.underlying84
  a77:=Tryz.isAgg84
  z77:=Tryz.sizeOf84
  v77:=Tryz.zeroValue84 }
end Go.Proofs
set_option linter.unusedSimpArgs false
set_option linter.unusedVariables false
namespace Go.Proofs.YtieoleabnjdkfaaGreat
open Go Go.Proofs Go.RowKit Go.X Go.Sort Go.Lib Go.Shelf
def okE (base:Nat) (W:World) (p:Asn × Value):Prop:=SL (fun b=>b < base) W p.2 p.1.2.2.2.1∧AW p.1
abbrev El (base:Nat) (W:World):Type:={ p:Asn × Value // okE base W p }
instance (base:Nat) (W:World):Inhabited (El base W):=⟨⟨(zA,.slice none 0 0),.inl ⟨rfl,rfl⟩,(by decide:wI 0),(by decide:wI 0),(by decide:wI 0),(by decide:wI 0)⟩⟩
def encE {base:Nat} {W:World} (x:El base W):List Value:=AC x.1.1 x.1.2
def cmpE {base:Nat} {W:World} (x y:El base W):Int:=cmpA x.1.1 y.1.1
theorem swoE (base:Nat) (W:World):Go.Sort.SWO (ltOf (cmpE (base:=base) (W:=W))) where
  irrefl:=fun x=>by simp [ltOf,cmpE,cmpA_refl]
  trans:=fun x y z h1 h2=>by
    exact decide_eq_true (cmpA_trans (of_decide_eq_true h1) (of_decide_eq_true h2))
  ntrans:=fun x y z h1 h2=>by
    have h1:¬ cmpA x.1.1 y.1.1 < 0:=of_decide_eq_false h1
    have h2:¬ cmpA y.1.1 z.1.1 < 0:=of_decide_eq_false h2
    refine decide_eq_false fun h3=>?_
    have h3:cmpA x.1.1 z.1.1 < 0:=h3
    have a1:=cmpA_anti x.1.1 y.1.1
    have a2:=cmpA_anti y.1.1 z.1.1
    rcases Int.lt_trichotomy (cmpA y.1.1 z.1.1) 0 with h | h | h
    · exact h2 h
    · have e:=(cmpA_zero _ _).1 h
      rw [← e] at h3
      exact h1 h3
    · have h4:cmpA z.1.1 y.1.1 < 0:=by have:=cmpA_anti z.1.1 y.1.1; omega
      exact h1 (cmpA_trans h3 h4)
theorem heap_map_other {w:World} {blk b:Nat} {f:Array Value→Array Value} (h:b ≠ blk):(Go.Sort.mapBlock w blk f).heap[b]? = w.heap[b]?:=by
  unfold Go.Sort.mapBlock
  simp [Array.getElem?_modify,Ne.symm h]
theorem heap_map_same {w:World} {blk:Nat} {f:Array Value→Array Value} {cur:Array Value} {e:TypeId} {fr:Nat × Nat} (h:w.heap[blk]? = some (.cells cur e fr)):(Go.Sort.mapBlock w blk f).heap[blk]? = some (.cells (f cur) e fr):=by
  unfold Go.Sort.mapBlock
  simp [Array.getElem?_modify,h,Go.Sort.onCells]
theorem sortW_other {α:Type} [Inhabited α] {enc:α→List Value} {k blk off m b:Nat} {dk:Array α} {os:Array Obj} {w:World} (h:b ≠ blk) (hb:b < w.heap.size):(sortWorldK enc k w blk off m dk os).heap[b]? = w.heap[b]?:=by
  unfold sortWorldK putRowK Go.Sort.putRow
  rw [Go.Sort.heap_grow_old _ _ (by simp [Go.Sort.mapBlock,Go.Sort.ahead]; exact hb),heap_map_other h]
  rfl
theorem sortW_size {α:Type} [Inhabited α] {enc:α→List Value} {k blk off m:Nat} {dk:Array α} {os:Array Obj} {w:World}:w.heap.size≤(sortWorldK enc k w blk off m dk os).heap.size:=by
  unfold sortWorldK putRowK Go.Sort.putRow
  simp [Go.Sort.mapBlock,Go.Sort.ahead]
theorem sortW_same {α:Type} [Inhabited α] {enc:α→List Value} {k blk off m:Nat} {dk:Array α} {os:Array Obj} {w:World} {cur:Array Value} {e:TypeId} (h:w.heap[blk]? = some (.cells cur e (0,0))):∃ cur',(sortWorldK enc k w blk off m dk os).heap[blk]? = some (.cells cur' e (0,0))∧cur'.size=cur.size:=by
  have hb:blk < w.heap.size:=(Array.getElem?_eq_some_iff.1 h).1
  refine ⟨putCells id off (flatK enc k dk) cur,?_,?_⟩
  · unfold sortWorldK putRowK Go.Sort.putRow
    rw [Go.Sort.heap_grow_old _ _ (by simp [Go.Sort.mapBlock,Go.Sort.ahead]; exact hb)]
    exact heap_map_same (w:=Go.Sort.ahead w m) h
  · simp [Go.Sort.putCells]
theorem kx_sort {α:Type} [Inhabited α] {enc:α→List Value} {k blk off m:Nat} {dk:Array α} {os:Array Obj} {w:World}:Kx (fun b=>b=blk) w (sortWorldK enc k w blk off m dk os) :=
  ⟨rfl,rfl,rfl,sortW_size,fun b hb hx=>sortW_other hx hb⟩
theorem SL.row {base blk:Nat} {w w':World} {v:Value} {xs:List Int} {cur:Array Value} (hr:w.heap[blk]? = some (.cells cur 49 (0,0))) (hk:Kx (fun b=>b=blk) w w') (h:SL (fun b=>b < base) w v xs):SL (fun b=>b < base) w' v xs:=by
  refine h.imp id fun ⟨b,h1,h2⟩=>⟨b,h1.same (hk.block b h1.lt fun e=>?_),h2⟩
  obtain ⟨_,_,_,cur',_,_,q1,_⟩:=h1
  subst e
  rw [hr] at q1
  cases q1
theorem cmpLaysE {base blk size:Nat} {w:World} {cur:Array Value} (hr:w.heap[blk]? = some (.cells cur 49 (0,0))):CmpLays Tryz.prog 40 #[] (encE (base:=base) (W:=w)) 5 cmpE blk 0 size w:=fun m os dk hdk x y=>by
  have hx:=(SL.row hr (kx_sort (enc:=encE (base:=base) (W:=w)) (k:=5) (off:=0) (m:=m) (dk:=dk) (os:=os)) x.2.1).so
  have hy:=(SL.row hr (kx_sort (enc:=encE (base:=base) (W:=w)) (k:=5) (off:=0) (m:=m) (dk:=dk) (os:=os)) y.2.1).so
  exact cmp_ok hx hy
theorem flat_get:∀ (ps:List (Asn × Value)) (j:Nat) (h:j < ps.length * 5),(ps.flatMap fun p=>AC p.1 p.2)[j]? = (AC (ps.getD (j / 5) (zA,undef)).1 (ps.getD (j / 5) (zA,undef)).2)[j % 5]?
  | [],j,h=>by simp at h
  | p::ps,j,h=>by
    rw [List.flatMap_cons]
    have hl:(AC p.1 p.2).length=5:=rfl
    by_cases hj:j < 5
    · rw [List.getElem?_append_left (by omega),Nat.div_eq_of_lt hj,Nat.mod_eq_of_lt hj]
      rfl
    · rw [List.getElem?_append_right (by omega),hl,flat_get ps (j - 5) (by rw [List.length_cons] at h; omega)]
      obtain ⟨i,rfl⟩:∃ i,j=i+5:=⟨j - 5,by omega⟩
      rw [Nat.add_sub_cancel,Nat.add_div_right _ (by omega),Nat.add_mod_right]
      rfl
theorem flat_arr {base:Nat} {W:World} (d:Array (El base W)) {j:Nat} (h:j < d.size * 5):(flatK encE 5 d)[j]! = (((d.toList.map (·.1)).flatMap fun p=>AC p.1 p.2)[j]?).getD undef:=by
  rw [get_flatK _ _ _ _ h,flat_get _ _ (by simpa using h)]
  have h1:j / 5 < d.size:=by omega
  have h2:j % 5 < 5:=by omega
  have e:((d.toList.map (·.1)).getD (j / 5) (zA,undef))=(d[j / 5]!).1:=by
    rw [List.getD_eq_getElem?_getD,List.getElem?_map,Array.getElem?_toList,Array.getElem?_eq_getElem h1,getElem!_pos d _ h1]
    rfl
  rw [e]
  have hl:(encE d[j / 5]!).length=5:=rfl
  rw [getElem!_pos _ _ (by rw [hl]; exact h2)]
  show _=((encE d[j / 5]!)[j % 5]?).getD undef
  rw [List.getElem?_eq_getElem (by rw [hl]; exact h2)]
  rfl
theorem agg49 (w:World):(isAgg 49).run Tryz.prog w=.ok true w:=by
  unfold isAgg
  rw [Sem.run_bind,run_underlying Tryz.underlying49 w]
  rfl
theorem size49 (w:World):(Go.sizeOf 49).run Tryz.prog w=.ok 5 w:=by
  obtain ⟨i0,e1,_,e2,_⟩:=info_parts info49
  simp [sizeOf,typeInfo,e1,e2]
theorem enters40:∀ args w,(callFunc 40 args).run Tryz.prog w=.ok (.enter 40 args) w:=enters_of Tryz.func40 (by kernel_rfl) rfl
def AG (base:Nat) (g cap:Nat) (ps:List (Asn × Value)) (w:World):Prop:=w.ownsRow base 49 5 (.slice (some ⟨g,0,none⟩) ps.length cap) ps.length (ps.flatMap fun p=>AC p.1 p.2)∧∀ p∈ps,okE base w p
theorem sort_ok {base g cap:Nat} {ps:List (Asn × Value)} {w:World} (h:AG base g cap ps w) (hl:ps.length≤10000000) :
    Calls Tryz.prog 39 #[.slice (some ⟨g,0,none⟩) ps.length cap,.func (.func 40) #[] #[]] w fun e w'=>e=.returned (.tuple #[])∧∃ qs:List (Asn × Value),qs.Perm ps∧(∀ i j,i < j→j < qs.length→¬ cmpA (qs.getD j (zA,undef)).1 (qs.getD i (zA,undef)).1 < 0)∧AG base g cap qs w'∧Kx (fun b=>b=g) w w':=by
  obtain ⟨hrow,hps⟩:=h
  obtain ⟨d,hd⟩:∃ d:Array (El base w),d.toList.map (·.1)=ps:=⟨(ps.attach.map fun p=>(⟨p.1,hps p.1 p.2⟩:El base w)).toArray,by
    rw [List.toList_toArray,List.map_map]
    exact List.attach_map_subtype_val ps⟩
  have hsz:d.size=ps.length:=by rw [← hd]; simp
  obtain ⟨hlen,hv⟩:=id hrow
  rcases hv with ⟨hv,_⟩ | ⟨g',cap',cur,hv,hb,hg,hc1,hc2,hc3,hc4⟩
  · cases hv
  obtain ⟨rfl,rfl⟩:g=g'∧cap=cap':=by simp at hv; exact hv
  have hgl:g < w.heap.size:=(Array.getElem?_eq_some_iff.1 hg).1
  have hfl:∀ j,j < ps.length * 5→w.cell? ⟨g,0+j,none⟩=some ((flatK encE 5 d)[j]!):=fun j hj=>by
    rw [flat_arr d (by rw [hsz]; exact hj),hd,Nat.zero_add]
    have hj2:j < (ps.flatMap fun p=>AC p.1 p.2).length:=by rw [flat5_len]; exact hj
    rw [List.getElem?_eq_getElem hj2]
    exact row_cell hrow (List.getElem?_eq_getElem hj2)
  have hH:HoldsK encE 5 w g 0 d:=fun j hj=>⟨hfl j (by rw [size_flatK,hsz] at hj; exact hj),by simp [World.frozen?,hg]⟩
  have hcon:=AnyQ.slices_SortFunc Go.Proofs.Tryz.sortF 5 agg49 size49 (encE (base:=base) (W:=w)) (fun _=>rfl) (fun x v hv=>AC_one x.2.1.slice v hv) cmpE (swoE base w) 40 #[] g 0 cap d w enters40 (cmpLaysE hg) hH hgl (by omega)
  change Calls Tryz.prog 39 _ _ _ at hcon
  rw [hsz] at hcon
  refine hcon.mono ?_
  rintro e w' ⟨rfl,d',n,os,hp,hs,rfl⟩
  refine ⟨rfl,d'.toList.map (·.1),?_,?_,⟨?_,?_⟩,kx_sort⟩
  · obtain ⟨h1,_,h2⟩:=hp
    have e1:d'.extract 0 ps.length=d':=by rw [← hsz,← h1]; simp
    have e2:d.extract 0 ps.length=d:=by rw [← hsz]; simp
    rw [e1,e2] at h2
    rw [← hd]
    exact h2.map _
  · intro i j hij hj
    have h1:d'.size=d.size:=hp.1
    have hj':j < d'.size:=by simpa using hj
    have:=hs i j (Nat.zero_le _) hij (by omega)
    have gt:∀ k,k < d'.size→(d'.toList.map (·.1)).getD k (zA,undef)=(d'[k]!).1:=fun k hk=>by
      rw [List.getD_eq_getElem?_getD,List.getElem?_map,Array.getElem?_toList,Array.getElem?_eq_getElem hk,getElem!_pos d' _ hk]
      rfl
    rw [gt j hj',gt i (by omega)]
    exact of_decide_eq_false this
  · have h1:d'.size=d.size:=hp.1
    obtain ⟨cur',k1,k2⟩:=sortW_same (enc:=encE (base:=base) (W:=w)) (k:=5) (off:=0) (m:=n) (dk:=d') (os:=os) hg
    have hH':=holdsK_sortWorldK_c (encE (base:=base) (W:=w)) 5 w g 0 d d' n os hH hgl h1
    have hl':(d'.toList.map (·.1)).length=ps.length:=by simp [h1,hsz]
    rw [hl']
    refine ⟨by rw [flat5_len,hl'],.inr ⟨g,cap,cur',rfl,hb,k1,hc1,hc2,by rw [k2]; exact hc3,?_⟩⟩
    apply List.ext_getElem?
    intro j
    rw [List.getElem?_take]
    split
    · rename_i hj
      have:=(hH' j (by rw [size_flatK,h1,hsz]; exact hj)).1
      rw [Nat.zero_add] at this
      simp only [World.cell?,k1] at this
      rw [Array.getElem?_toList]
      have hj2:j < ((d'.toList.map (·.1)).flatMap fun p=>AC p.1 p.2).length:=by rw [flat5_len,hl']; exact hj
      have e3:=flat_arr d' (j:=j) (by rw [h1,hsz]; exact hj)
      rw [List.getElem?_eq_getElem hj2] at e3 ⊢
      have e4:cur'[j]? = some (id (flatK encE 5 d')[j]!):=by simpa using this
      rw [e4,id,e3]
      rfl
    · rename_i hj
      rw [List.getElem?_eq_none (by rw [flat5_len,hl']; omega)]
  · intro p hp'
    obtain ⟨x,_,rfl⟩:=List.mem_map.1 hp'
    exact ⟨SL.row hg kx_sort x.2.1,x.2.2⟩
end Go.Proofs.YtieoleabnjdkfaaGreat
set_option linter.unusedSimpArgs false
set_option linter.unusedVariables false
set_option linter.unnecessarySimpa false
namespace Go.Proofs.YtieoleabnjdkfaaGreat
open Go Go.Proofs Go.RowKit Go.X
attribute [local go_sem] Oper.semAt_some
set_option maxRecDepth 100000 in
set_option maxHeartbeats 4000000 in
theorem eq_ok {W:World} {a b:Asn} {va vb:Value} (hsa:SO W va a.2.2.2.1) (hsb:SO W vb b.2.2.2.1) :
    Calls Tryz.prog 42 #[.agg #[.int .i64 a.1,.int .i64 a.2.1,.int .i64 a.2.2.1,va,.int .i64 a.2.2.2.2],.agg #[.int .i64 b.1,.int .i64 b.2.1,.int .i64 b.2.2.1,vb,.int .i64 b.2.2.2.2]] W fun e w'=>e=.returned (.bool (decide (cmpA a b=0)))∧∃ (q:Nat) (os:Array Obj),w'=Go.Sort.grow (W.drewN q) os:=by
  refine (callsIn_wide (n:=0)).1 (callsIn_of_wp Tryz.func42 rfl trivial ?_ rfl)
  simp only [Tryz.ntmps42,List.size_toArray,List.length_cons,List.length_nil,Nat.reduceAdd,Nat.reduceSub,Array.replicate_succ,Array.replicate_zero,List.push_toArray,List.append_toArray,List.nil_append,List.cons_append]
  have fd:Fence.wide.depth=none:=rfl
  have f40:Fence.wide.fn 40:=trivial
  obtain ⟨sa,al,ac,rfl⟩:∃ sa al ac,va=.slice sa al ac:=by obtain ⟨_,A,c,e,_⟩:=hsa; exact ⟨A,_,c,e⟩
  obtain ⟨sb,bl,bc,rfl⟩:∃ sb bl bc,vb=.slice sb bl bc:=by obtain ⟨_,A,c,e,_⟩:=hsb; exact ⟨A,_,c,e⟩
  have e1:=Ext.alloc W (.cells #[.int .i64 a.1,.int .i64 a.2.1,.int .i64 a.2.2.1,(.slice sa al ac),.int .i64 a.2.2.2.2] 49)
  have n1:=own_new W #[.int .i64 a.1,.int .i64 a.2.1,.int .i64 a.2.2.1,(.slice sa al ac),.int .i64 a.2.2.2.2] 49
  have hG0:∃ (q:Nat) (os:Array Obj),W=Go.Sort.grow (W.drewN q) os:=⟨0,#[],(Go.Sort.grow_empty W).symm⟩
  have hG1:=grow_alloc hG0 (.cells #[.int .i64 a.1,.int .i64 a.2.1,.int .i64 a.2.2.1,(.slice sa al ac),.int .i64 a.2.2.2.2] 49)
  have hz1:(W.alloc (.cells #[.int .i64 a.1,.int .i64 a.2.1,.int .i64 a.2.2.1,(.slice sa al ac),.int .i64 a.2.2.2.2] 49)).heap.size=W.heap.size+1:=by simp
  obtain ⟨w1,hw1⟩:∃ w1,W.alloc (.cells #[.int .i64 a.1,.int .i64 a.2.1,.int .i64 a.2.2.1,(.slice sa al ac),.int .i64 a.2.2.2.2] 49)=w1:=⟨_,rfl⟩
  rw [hw1] at e1 n1 hG1 hz1
  have e2:=Ext.alloc w1 (.cells #[.int .i64 b.1,.int .i64 b.2.1,.int .i64 b.2.2.1,(.slice sb bl bc),.int .i64 b.2.2.2.2] 49)
  have n2:=own_new w1 #[.int .i64 b.1,.int .i64 b.2.1,.int .i64 b.2.2.1,(.slice sb bl bc),.int .i64 b.2.2.2.2] 49
  have hG2:=grow_alloc hG1 (.cells #[.int .i64 b.1,.int .i64 b.2.1,.int .i64 b.2.2.1,(.slice sb bl bc),.int .i64 b.2.2.2.2] 49)
  obtain ⟨w2,hw2⟩:∃ w2,w1.alloc (.cells #[.int .i64 b.1,.int .i64 b.2.1,.int .i64 b.2.2.1,(.slice sb bl bc),.int .i64 b.2.2.2.2] 49)=w2:=⟨_,rfl⟩
  rw [hw2] at e2 n2 hG2
  rw [hz1] at n2
  have n1':=n1.ext e2
  have hE2:=e1.trans e2
  have c0:=n1'.cell (i:=0) (by simp)
  have c1:=n1'.cell (i:=1) (by simp)
  have c2:=n1'.cell (i:=2) (by simp)
  have c3:=n1'.cell (i:=3) (by simp)
  have c4:=n1'.cell (i:=4) (by simp)
  have k0:=n2.cell (i:=0) (by simp)
  have k1:=n2.cell (i:=1) (by simp)
  have k2:=n2.cell (i:=2) (by simp)
  have k3:=n2.cell (i:=3) (by simp)
  have k4:=n2.cell (i:=4) (by simp)
  simp at c0 c1 c2 c3 c4 k0 k1 k2 k3 k4
  have c40:=cmp_ok (hsa.ext hE2) (hsb.ext hE2)
  gi_wp2_with (gi_at_call 40; refine (callsIn_wide.2 c40).mono ?_; rintro e w3 ⟨rfl,q3,os3,hw3⟩)
  refine ⟨rfl,_,results_tmp (t:=4) rfl _ _ _,by (first | rfl | simp),?_⟩
  obtain ⟨q2,os2,hh⟩:=hG2
  exact ⟨q2+q3,os2++os3,by
    first | rw [hw3,hh] | rw [hh]
    show Go.Sort.grow (Go.Sort.grow ((W.drewN q2).drewN q3) os2) os3=_
    rw [Go.Sort.grow_grow,World.drewN_drewN]⟩
def compA (pv:Asn × Value):List (Asn × Value)→List (Asn × Value)
  | []=>[]
  | q::qs=>if cmpA q.1 pv.1=0 then compA q qs else q::compA q qs
def compL:List (Asn × Value)→List (Asn × Value)
  | []=>[]
  | p::ps=>p::compA p ps
def FrE1 (sv:Value) (k:Nat) (a:Act):Prop:=∃ (x2 x3 x6 x7 x8 x9 x10 x11 x12 x13 x14 x15 x16 x17 x18 x19 x20 x21 x22 x23 x24 x25 x26 x27 x28 x29 x30 x31 x32 x33 x34 x35 x36 x37 x38 x39 x40 x41 x42 x43 x44 x45 x46 x47 x48 x49 x50 x51 x52 x53 x54 x55 x56 x57 x58 x59 x60 x61 x62 x63 x64 x65:Value),a={ tmps:=#[sv,.func (.func 42) #[] #[],x2,x3,.slice none 0 0,.int .i64 (k:Int),x6,x7,x8,x9,x10,x11,x12,x13,x14,x15,x16,x17,x18,x19,x20,x21,x22,x23,x24,x25,x26,x27,x28,x29,x30,x31,x32,x33,x34,x35,x36,x37,x38,x39,x40,x41,x42,x43,x44,x45,x46,x47,x48,x49,x50,x51,x52,x53,x54,x55,x56,x57,x58,x59,x60,x61,x62,x63,x64,x65],defers:=[] }
theorem FrE1.mk {sv:Value} {k:Nat} {x2 x3 x6 x7 x8 x9 x10 x11 x12 x13 x14 x15 x16 x17 x18 x19 x20 x21 x22 x23 x24 x25 x26 x27 x28 x29 x30 x31 x32 x33 x34 x35 x36 x37 x38 x39 x40 x41 x42 x43 x44 x45 x46 x47 x48 x49 x50 x51 x52 x53 x54 x55 x56 x57 x58 x59 x60 x61 x62 x63 x64 x65:Value}:FrE1 sv k { tmps:=#[sv,.func (.func 42) #[] #[],x2,x3,.slice none 0 0,.int .i64 (k:Int),x6,x7,x8,x9,x10,x11,x12,x13,x14,x15,x16,x17,x18,x19,x20,x21,x22,x23,x24,x25,x26,x27,x28,x29,x30,x31,x32,x33,x34,x35,x36,x37,x38,x39,x40,x41,x42,x43,x44,x45,x46,x47,x48,x49,x50,x51,x52,x53,x54,x55,x56,x57,x58,x59,x60,x61,x62,x63,x64,x65],defers:=[] }:=⟨x2,x3,x6,x7,x8,x9,x10,x11,x12,x13,x14,x15,x16,x17,x18,x19,x20,x21,x22,x23,x24,x25,x26,x27,x28,x29,x30,x31,x32,x33,x34,x35,x36,x37,x38,x39,x40,x41,x42,x43,x44,x45,x46,x47,x48,x49,x50,x51,x52,x53,x54,x55,x56,x57,x58,x59,x60,x61,x62,x63,x64,x65,rfl⟩
theorem FrE1.elim {sv:Value} {k:Nat} {a:Act} {P:Prop} (h:FrE1 sv k a) (k:∀ (x2 x3 x6 x7 x8 x9 x10 x11 x12 x13 x14 x15 x16 x17 x18 x19 x20 x21 x22 x23 x24 x25 x26 x27 x28 x29 x30 x31 x32 x33 x34 x35 x36 x37 x38 x39 x40 x41 x42 x43 x44 x45 x46 x47 x48 x49 x50 x51 x52 x53 x54 x55 x56 x57 x58 x59 x60 x61 x62 x63 x64 x65:Value),a={ tmps:=#[sv,.func (.func 42) #[] #[],x2,x3,.slice none 0 0,.int .i64 (k:Int),x6,x7,x8,x9,x10,x11,x12,x13,x14,x15,x16,x17,x18,x19,x20,x21,x22,x23,x24,x25,x26,x27,x28,x29,x30,x31,x32,x33,x34,x35,x36,x37,x38,x39,x40,x41,x42,x43,x44,x45,x46,x47,x48,x49,x50,x51,x52,x53,x54,x55,x56,x57,x58,x59,x60,x61,x62,x63,x64,x65],defers:=[] }→P):P:=by
  obtain ⟨x2,x3,x6,x7,x8,x9,x10,x11,x12,x13,x14,x15,x16,x17,x18,x19,x20,x21,x22,x23,x24,x25,x26,x27,x28,x29,x30,x31,x32,x33,x34,x35,x36,x37,x38,x39,x40,x41,x42,x43,x44,x45,x46,x47,x48,x49,x50,x51,x52,x53,x54,x55,x56,x57,x58,x59,x60,x61,x62,x63,x64,x65,e⟩:=h
  exact k x2 x3 x6 x7 x8 x9 x10 x11 x12 x13 x14 x15 x16 x17 x18 x19 x20 x21 x22 x23 x24 x25 x26 x27 x28 x29 x30 x31 x32 x33 x34 x35 x36 x37 x38 x39 x40 x41 x42 x43 x44 x45 x46 x47 x48 x49 x50 x51 x52 x53 x54 x55 x56 x57 x58 x59 x60 x61 x62 x63 x64 x65 e
def FrE2 (sv s2:Value) (k i:Nat) (a:Act):Prop:=∃ (x2 x3 x4 x8 x9 x10 x11 x12 x13 x14 x15 x16 x17 x18 x19 x20 x21 x22 x23 x24 x25 x26 x27 x28 x29 x30 x31 x32 x33 x34 x35 x36 x37 x38 x39 x40 x41 x42 x43 x44 x45 x46 x47 x48 x49 x50 x51 x52 x53 x54 x55 x56 x57 x58 x59 x60 x61 x62 x63 x64 x65:Value),a={ tmps:=#[sv,.func (.func 42) #[] #[],x2,x3,x4,.int .i64 (k:Int),s2,.int .i64 (i:Int),x8,x9,x10,x11,x12,x13,x14,x15,x16,x17,x18,x19,x20,x21,x22,x23,x24,x25,x26,x27,x28,x29,x30,x31,x32,x33,x34,x35,x36,x37,x38,x39,x40,x41,x42,x43,x44,x45,x46,x47,x48,x49,x50,x51,x52,x53,x54,x55,x56,x57,x58,x59,x60,x61,x62,x63,x64,x65],defers:=[] }
theorem FrE2.mk {sv s2:Value} {k i:Nat} {x2 x3 x4 x8 x9 x10 x11 x12 x13 x14 x15 x16 x17 x18 x19 x20 x21 x22 x23 x24 x25 x26 x27 x28 x29 x30 x31 x32 x33 x34 x35 x36 x37 x38 x39 x40 x41 x42 x43 x44 x45 x46 x47 x48 x49 x50 x51 x52 x53 x54 x55 x56 x57 x58 x59 x60 x61 x62 x63 x64 x65:Value}:FrE2 sv s2 k i { tmps:=#[sv,.func (.func 42) #[] #[],x2,x3,x4,.int .i64 (k:Int),s2,.int .i64 (i:Int),x8,x9,x10,x11,x12,x13,x14,x15,x16,x17,x18,x19,x20,x21,x22,x23,x24,x25,x26,x27,x28,x29,x30,x31,x32,x33,x34,x35,x36,x37,x38,x39,x40,x41,x42,x43,x44,x45,x46,x47,x48,x49,x50,x51,x52,x53,x54,x55,x56,x57,x58,x59,x60,x61,x62,x63,x64,x65],defers:=[] }:=⟨x2,x3,x4,x8,x9,x10,x11,x12,x13,x14,x15,x16,x17,x18,x19,x20,x21,x22,x23,x24,x25,x26,x27,x28,x29,x30,x31,x32,x33,x34,x35,x36,x37,x38,x39,x40,x41,x42,x43,x44,x45,x46,x47,x48,x49,x50,x51,x52,x53,x54,x55,x56,x57,x58,x59,x60,x61,x62,x63,x64,x65,rfl⟩
theorem FrE2.elim {sv s2:Value} {k i:Nat} {a:Act} {P:Prop} (h:FrE2 sv s2 k i a) (k:∀ (x2 x3 x4 x8 x9 x10 x11 x12 x13 x14 x15 x16 x17 x18 x19 x20 x21 x22 x23 x24 x25 x26 x27 x28 x29 x30 x31 x32 x33 x34 x35 x36 x37 x38 x39 x40 x41 x42 x43 x44 x45 x46 x47 x48 x49 x50 x51 x52 x53 x54 x55 x56 x57 x58 x59 x60 x61 x62 x63 x64 x65:Value),a={ tmps:=#[sv,.func (.func 42) #[] #[],x2,x3,x4,.int .i64 (k:Int),s2,.int .i64 (i:Int),x8,x9,x10,x11,x12,x13,x14,x15,x16,x17,x18,x19,x20,x21,x22,x23,x24,x25,x26,x27,x28,x29,x30,x31,x32,x33,x34,x35,x36,x37,x38,x39,x40,x41,x42,x43,x44,x45,x46,x47,x48,x49,x50,x51,x52,x53,x54,x55,x56,x57,x58,x59,x60,x61,x62,x63,x64,x65],defers:=[] }→P):P:=by
  obtain ⟨x2,x3,x4,x8,x9,x10,x11,x12,x13,x14,x15,x16,x17,x18,x19,x20,x21,x22,x23,x24,x25,x26,x27,x28,x29,x30,x31,x32,x33,x34,x35,x36,x37,x38,x39,x40,x41,x42,x43,x44,x45,x46,x47,x48,x49,x50,x51,x52,x53,x54,x55,x56,x57,x58,x59,x60,x61,x62,x63,x64,x65,e⟩:=h
  exact k x2 x3 x4 x8 x9 x10 x11 x12 x13 x14 x15 x16 x17 x18 x19 x20 x21 x22 x23 x24 x25 x26 x27 x28 x29 x30 x31 x32 x33 x34 x35 x36 x37 x38 x39 x40 x41 x42 x43 x44 x45 x46 x47 x48 x49 x50 x51 x52 x53 x54 x55 x56 x57 x58 x59 x60 x61 x62 x63 x64 x65 e
end Go.Proofs.YtieoleabnjdkfaaGreat
