/- Part 1 of what stands below the statement. -/
import Derived.Below
import Derived.Laws.AppendOwn
import Derived.Laws.AppendOwnNone
import Derived.Laws.MakeOwn
import Derived.Laws.OwnMore
import Derived.IntWalk
import Derived.WalkSpells
import Derived.KernelRfl
import Derived.Laws.StructEq
namespace Go
abbrev xaa:=@Option.bind_some
abbrev xab:=@cond_true
abbrev xac:=@cond_false
abbrev xad:=@Option.map_eq_some_iff
abbrev xae:=@List.getD_eq_getElem?_getD
abbrev xaf:=@Int.toNat_natCast
abbrev xag:=@decide_eq_true
abbrev xah:=@decide_true
abbrev xai:=@Bool.and_self
abbrev xaj:=@decide_eq_false
abbrev xak:=@Nat.le_refl
abbrev xal:=@decide_false
abbrev xam:=@decide_eq_true_eq
abbrev xan:=@Bool.and_eq_true
abbrev xao:=@Bool.not_false
abbrev xap:=@List.mem_cons_of_mem
abbrev xaq:=@Bool.not_true
abbrev xar:=@List.getElem?_eq_getElem
abbrev xat:=@Option.some.injEq
abbrev xau:=@Nat.lt_of_lt_of_le
abbrev xav:=@Nat.mul_le_mul_right
abbrev xaw:=@Bool.false_eq_true
abbrev xax:=@Bool.true_and
abbrev xay:=@decide_eq_false_iff_not
abbrev xaz:=@List.length_cons
abbrev xba:=@Prod.mk.injEq
abbrev xbb:=@Nat.le_trans
abbrev xbc:=@List.getElem_mem
abbrev xbd:=@List.mem_cons
abbrev xbe:=@Bool.false_and
abbrev xbf:=@if_false
abbrev xbg:=@Array.getElem?_eq_some_iff
abbrev xbh:=@List.take_length
abbrev xbi:=@List.take_of_length_le
abbrev xbj:=@List.length_take
abbrev xbk:=@List.length_append
abbrev xbl:=@of_decide_eq_true
abbrev xbm:=@Array.getElem?_toList
abbrev xbn:=@List.mem_singleton
abbrev xbo:=@Option.some.inj
abbrev xbp:=@Bool.false_or
abbrev xbq:=@List.mem_append
abbrev xbr:=@Nat.mul_assoc
abbrev xbt:=@List.all_eq_true
abbrev xbu:=@List.mem_range
abbrev xbv:=@decide_eq_decide
abbrev xbw:=@List.length_map
abbrev xbx:=@congrArg
abbrev xby:=@Nat.mul_comm
abbrev xbz:=@Nat.zero_le
abbrev xca:=@List.cons_append
abbrev xcb:=@Option.bind_eq_some_iff
abbrev xcc:=@Array.length_toList
abbrev xcd:=@List.length_set
abbrev xce:=@List.length_replicate
abbrev xcf:=@List.eq_nil_of_length_eq_zero
abbrev xcg:=@Array.getElem?_eq_getElem
abbrev xch:=@Nat.pow_succ
abbrev xci:=@List.nil_append
abbrev xcj:=@Bool.or_eq_false_iff
abbrev xck:=@Nat.pow_le_pow_right
abbrev xcl:=@Nat.add_mul
abbrev xcm:=@List.getElem_of_mem
abbrev xcn:=@Option.map_some
abbrev xco:=@List.append_nil
abbrev xcp:=@List.append_assoc
abbrev xcq:=@List.mem_of_mem_take
abbrev xcr:=@List.length_pos_iff
abbrev xct:=@Nat.lt_succ_self
abbrev xcu:=@List.size_toArray
abbrev xcv:=@List.getElem?_map
abbrev xcw:=@Bool.true_or
abbrev xcx:=@Bool.or_false
abbrev xcy:=@Nat.lt_or_ge
abbrev xcz:=@Nat.mul_add
abbrev xda:=@Nat.eq_zero_or_pos
abbrev xdb:=@List.mem_cons_self
abbrev xdc:=@Nat.zero_add
abbrev xdd:=@List.map_append
abbrev xde:=@List.length_nil
abbrev xdf:=@Nat.mul_le_mul
abbrev xdg:=@List.mem_map
abbrev xdh:=@List.getElem?_eq_none
abbrev xdi:=@Bool.or_true
abbrev xdj:=@Bool.or_eq_true
abbrev xdk:=@Nat.mul_le_mul_left
abbrev xdl:=@Nat.add_zero
abbrev xdm:=@Nat.add_assoc
abbrev xdn:=@Bool.and_true
abbrev xdo:=@Bool.and_false
abbrev xdp:=@List.nodup_append
abbrev xdq:=@Nat.lt_of_le_of_lt
abbrev xdr:=@List.pairwise_cons
abbrev xdt:=@List.getElem?_take
abbrev xdu:=@Nat.mul_one
abbrev xdv:=@List.getElem?_append_right
abbrev xdw:=@Bool.not_eq_true'
abbrev xdx:=@List.nodup_cons
abbrev xdy:=@Classical.choose_spec
abbrev xdz:=@Array.replicate_zero
abbrev xea:=@Array.replicate_succ
abbrev xeb:=@Nat.mod_eq_of_lt
abbrev xec:=@List.foldl_append
abbrev xed:=@List.flatMap_cons
abbrev xee:=@of_decide_eq_false
abbrev xef:=@List.getD_cons_zero
abbrev xeg:=@List.append_toArray
abbrev xeh:=@List.length_drop
abbrev xei:=@List.take_zero
abbrev xej:=@List.pairwise_iff_getElem
abbrev xek:=@List.getElem?_append_left
abbrev xel:=@List.mem_append_left
abbrev xem:=@List.length_eq_one_iff
abbrev xen:=@List.map_cons
abbrev xeo:=@Nat.min_eq_left
abbrev xep:=@Nat.div_lt_iff_lt_mul
abbrev xeq:=@List.flatMap_append
abbrev xer:=@Bool.cond_self
abbrev xet:=@List.push_toArray
abbrev xeu:=@Nat.div_div_eq_div_mul
abbrev xev:=@Option.isNone_iff_eq_none
abbrev xew:=@List.getElem?_eq_some_iff
abbrev xex:=@List.drop_zero
abbrev xey:=@List.filter_cons
abbrev xez:=@List.take_append_drop
abbrev xfa:=@List.filter_congr
abbrev xfb:=@Nat.pow_add
abbrev xfc:=@Nat.div_le_self
abbrev xfd:=@List.getElem?_cons_succ
abbrev xfe:=@List.filter_append
abbrev xff:=@Bool.eq_iff_iff
abbrev xfg:=@Array.getD_eq_getD_getElem?
abbrev xfh:=@Nat.pow_lt_pow_right
abbrev xfi:=@Nat.mod_lt
abbrev xfj:=@List.takeWhile_cons
abbrev xfk:=@Int.ofNat_inj
abbrev xfl:=@Nat.zero_mul
abbrev xfm:=@Nat.le_of_lt
abbrev xfn:=@List.length_filter_le
abbrev xfo:=@List.ne_nil_of_mem
abbrev xfp:=@Nat.div_eq_of_lt
abbrev xfq:=@List.ext_getElem
abbrev xfr:=@List.pairwise_append
abbrev xft:=@List.mem_zipIdx_iff_getElem?
abbrev xfu:=@List.length_eq_zero_iff
abbrev xfv:=@List.getElem?_cons_zero
abbrev xfw:=@List.getElem?_set
abbrev xfx:=@List.range_succ
abbrev xfy:=@List.mem_filter
abbrev xfz:=@List.map_congr_left
abbrev xga:=@Array.getElem?_eq_none
abbrev xgb:=@Int.tdiv_eq_ediv_of_nonneg
abbrev xgc:=@decide_eq_true_iff
abbrev xgd:=@List.cons_lt_cons_iff
abbrev xge:=@Int.emod_lt_of_pos
abbrev xgf:=@Nat.pow_pos
abbrev xgg:=@Decidable.byContradiction
abbrev xgh:=@Nat.div_lt_of_lt_mul
abbrev xgi:=@List.mem_of_mem_drop
abbrev xgj:=@Nat.div_add_mod
abbrev xgk:=@List.foldl_cons
abbrev xgl:=@List.eq_of_mem_replicate
abbrev xgm:=@Int.natCast_mul
abbrev xgn:=@Nat.succ_mul
abbrev xgo:=@Int.eq_ofNat_of_zero_le
abbrev xgp:=@List.not_mem_nil
abbrev xgq:=@Option.map_eq_none_iff
abbrev xgr:=@List.filter_eq_nil_iff
abbrev xgt:=@true_and
abbrev xgu:=@Nat.pos_of_ne_zero
abbrev xgv:=@Bool.not_eq_false'
abbrev xgw:=@Rat.div_def
abbrev xgx:=@Nat.mul_lt_mul_of_pos_right
abbrev xgy:=@Nat.add_comm
abbrev xgz:=@List.map_nil
abbrev xha:=@Int.emod_nonneg
abbrev xhb:=@List.take_add_one
abbrev xhc:=@List.getElem_take
abbrev xhd:=@List.mem_of_getElem?
abbrev xhe:=@Rat.mkRat_self
abbrev xhf:=@List.mapM_cons
abbrev xhg:=@Classical.byContradiction
abbrev xhh:=@List.mem_flatMap
abbrev xhi:=@List.flatMap_nil
abbrev xhj:=@List.any_eq_true
abbrev xhk:=@Option.bind_eq_bind
abbrev xhl:=@List.mem_map_of_mem
abbrev xhm:=@List.getD_cons_succ
abbrev xhn:=@List.filter_eq_self
abbrev xho:=@Nat.sub_self
abbrev xhp:=@Nat.mul_right_comm
abbrev xhq:=@Nat.mul_ne_zero
abbrev xhr:=@List.map_take
abbrev xht:=@List.headD_cons
abbrev xhu:=@Nat.testBit_lt_two_pow
abbrev xhv:=@Nat.eq_zero_of_not_pos
abbrev xhw:=@List.length_pos_of_mem
abbrev xhx:=@List.getElem_replicate
abbrev xhy:=@Rat.le_refl
abbrev xhz:=@List.any_eq_false
abbrev xia:=@Decidable.not_not
abbrev xib:=@List.drop_drop
abbrev xic:=@List.mem_append_right
abbrev xid:=@List.length_singleton
abbrev xie:=@List.getElem_set_self
abbrev xif:=@List.cons_prefix_cons
abbrev xig:=@Decidable.em
abbrev xih:=@Nat.min_le_right
abbrev xii:=@List.nodup_range
abbrev xij:=@List.mem_toArray
abbrev xik:=@Nat.sub_le
abbrev xil:=@Array.ext'
abbrev xim:=@Option.pure_def
abbrev xin:=@Option.map_none
abbrev xio:=@Nat.min_le_left
abbrev xip:=@List.idxOf_lt_length_of_mem
abbrev xiq:=@List.getElem_set_ne
abbrev xir:=@Int.toNat_of_nonneg
abbrev xit:=@Option.ne_none_iff_exists'
abbrev xiu:=@List.exists_cons_of_ne_nil
abbrev xiv:=@Int.fdiv_eq_ediv_of_nonneg
abbrev xiw:=@Nat.one_lt_two_pow
abbrev xix:=@Nat.mul_zero
abbrev xiy:=@List.getElem_range
abbrev xiz:=@List.filter_filter
abbrev xja:=@Int.natAbs_natCast
abbrev xjb:=@List.mem_take_iff_getElem
abbrev xjc:=@List.getElem_append_right
abbrev xjd:=@List.drop_eq_getElem_cons
abbrev xje:=@List.Perm.refl
abbrev xjf:=@not_false_eq_true
abbrev xjg:=@false_and
abbrev xjh:=@List.pairwise_map
abbrev xji:=@List.getElem_drop
abbrev xjj:=@List.getElem_append_left
abbrev xjk:=@List.getElem?_take_of_lt
abbrev xjl:=@List.ext_getElem?
abbrev xjm:=@Int.lt_trichotomy
abbrev xjn:=@Sum.inr.injEq
abbrev xjo:=@List.getElem?_replicate
abbrev xjp:=@forall_eq_or_imp
abbrev xjq:=@Option.getD_some
abbrev xjr:=@Nat.min_eq_right
abbrev xjt:=@List.length_tail
abbrev xju:=@List.getElem_map
abbrev xjv:=@List.drop_length
abbrev xjw:=@Array.mem_append
abbrev xjx:=@List.getElem?_set_self
abbrev xjy:=@List.append_eq_nil_iff
abbrev xjz:=@Rat.natCast_mul
abbrev xka:=@Nat.pow_zero
abbrev xkb:=@Nat.le_of_ble_eq_true
abbrev xkc:=@Nat.le_max_left
abbrev xkd:=@List.take_range
abbrev xke:=@List.sum_append
abbrev xkf:=@List.perm_append_comm
abbrev xkg:=@BitVec.toNat_or
abbrev xkh:=@Nat.eq_of_testBit_eq
abbrev xki:=@Nat.add_mul_div_left
abbrev xkj:=@List.range_eq_range'
abbrev xkk:=@List.mem_iff_getElem
abbrev xkl:=@List.getElem?_set_ne
abbrev xkm:=@List.nodup_nil
abbrev xkn:=@List.foldl_nil
abbrev xko:=@Nat.one_mul
abbrev xkp:=@Int.le_refl
abbrev xkq:=@Nat.add_sub_cancel
abbrev xkr:=@List.getElem?_drop
abbrev xkt:=@List.all_cons
abbrev xku:=@Int.natCast_nonneg
end Go
namespace Go.X
open Go Go.RowKit
set_option linter.defProp false
set_option linter.unusedSimpArgs false
set_option linter.unusedVariables false
inductive TyK where
 |int (k:IntKind) | bool | string | slice (e:TypeId) | array (len:Nat) (e:TypeId) | struct (offs:List (Nat×Nat)) | iface | other
structure TyI where
 k:TyK
 size:Nat
 bytes:Nat
 zero:Value
 fa:List (Option Bool)
 eqs:Bool
def tyK(P:Program):TypeDesc→Option TyK
 | .int k=>some (.int k)
 | .bool=>some .bool
 | .string=>some .string
 | .slice e=>some (.slice e)
 | .array l e=>some (.array l e)
 | .struct fs=>(fs.toList.mapM (fun f=>(P.info? f.type).map fun i=>(f.offset,i.size))).map .struct
 | .interface _=>some .iface
 |_=>some .other
def aggP(P:Program)(t:TypeId):Option Bool:=
 match P.underlying t with
 |some (.struct _) | some (.array _ _)=>some true
 |some _=>some false
 |none=>none
def faP(P:Program):TypeDesc→List (Option Bool)
 | .struct fs=>fs.toList.map fun f=>aggP P f.type
 |_=>[]
def eqsP(P:Program)(t:TypeId):Bool:=
  match P.underlying t with
  | some (.struct fs) => !P.stoodInHeld t && (!P.eqGuardType P.depth t && fs.toList.all fun f => decide (f.name ≠ "_") && (match P.underlying f.type with | some (.int _) => true | _ => false))
  |_=>false
def ty(P:Program)(t:TypeId):Option TyI:=
 match P.info? t,P.underlying t with
 |some i,some d=>match i.zero,tyK P d with | some z,some k=>some ⟨k,i.size,i.bytes,z,faP P d,eqsP P t⟩ | _,_=>none
 |_,_=>none
def zax{P:Program}{t:TypeId}{i:TyI}(h:ty P t=some i) :
  ∃j d,P.info? t=some j∧P.underlying t=some d∧j.zero=some i.zero∧j.size=i.size∧j.bytes=i.bytes∧tyK P d=some i.k:=by
 unfold ty at h
 grind
def ty_fa{P:Program}{t:TypeId}{i:TyI}(h:ty P t=some i):∃d,P.underlying t=some d∧i.fa=faP P d∧i.eqs=eqsP P t:=by
 unfold ty at h
 grind
def zeu{P:Program}{d:TypeDesc}{e:TypeId}(h:tyK P d=some (.slice e)):d=.slice e:=by
 cases d<;>simp[tyK]at h
 exact xbx _ h
def zqr{P:Program}{d:TypeDesc}{l:Nat}{e:TypeId}(h:tyK P d=some (.array l e)):d=.array l e:=by
 cases d<;>simp[tyK]at h
 simp[h]
def tyK_int{P:Program}{d:TypeDesc}{k:IntKind}(h:tyK P d=some (.int k)):d=.int k:=by
 cases d<;>simp[tyK]at h
 simp[h]
def tyK_bool{P:Program}{d:TypeDesc}(h:tyK P d=some .bool):d=.bool:=by
 cases d<;>simp[tyK]at h
 rfl
def znm{P:Program}{d:TypeDesc}(h:tyK P d=some .string):d=.string:=by
 cases d<;>simp[tyK]at h
 rfl
def zhm{P:Program}{d:TypeDesc}{l:List (Nat×Nat)}(h:tyK P d=some (.struct l)) :
  ∃fs,d=.struct fs∧fs.toList.mapM (fun f=>(P.info? f.type).map fun i=>(f.offset,i.size))=some l:=by
 cases d with
 |struct fs=>exact⟨fs,rfl,by simpa[tyK]using h⟩
 |_=>simp[tyK]at h
def TyI.agg(i:TyI):Bool:=match i.k with | .struct _ | .array _ _=>true | _=>false
def tmv(a:Act)(t:Nat):Value:=a.tmps.getD t undef
def zbb(a:Act)(t:Nat):a.eval (.tmp t)=tmv a t:=rfl
def zai{a:Act}{d:Nat}{v:Value}(h:d<a.tmps.size):tmv (a.put (some d) v) d=v:=by
 simp[tmv,Act.put,h]
def zbj{a:Act}{d t:Nat}{v:Value}(h:t≠d):tmv (a.put (some d) v) t=tmv a t:=by
 simp[tmv,Act.put,Ne.symm h]
structure Ext(w w':World):Prop where
 os:w'.os=w.os
 tape:w'.tape=w.tape
 output:w'.output=w.output
 size:w.heap.size≤w'.heap.size
 block:∀k,k<w.heap.size→w'.heap[k]?=w.heap[k]?
def Ext.refl(w:World):Ext w w:=⟨rfl,rfl,rfl,xak _,fun _ _=>rfl⟩
def Ext.alloc(w:World)(o:Obj):Ext w (w.alloc o):=⟨rfl,rfl,rfl,by simp,fun k hk=>Go.heap_alloc_old w o hk⟩
def Ext.drew{w w':World}(h:Ext w w'):Ext w w'.drew:=⟨h.os,h.tape,h.output,h.size,h.block⟩
def Ext.trans{a b c:World}(h:Ext a b)(k:Ext b c):Ext a c:=
 ⟨k.os.trans h.os,k.tape.trans h.tape,k.output.trans h.output,xbb h.size k.size,fun i hi=>(k.block i (xau hi h.size)).trans (h.block i hi)⟩
section
variable {P:Program} {w:World} {a:Act}
def zel(b o n:Nat):(⟨b,o,none⟩:Addr).add n=⟨b,o+n,none⟩:=by
 unfold Addr.add
 grind
def zpz{α β:Type}(f:α→Option β):∀(l:List α) (r:List β),l.mapM f=some r→∀(k:Nat) (y:β),r[k]?=some y→∃x,l[k]?=some x∧f x=some y
 | [],r,h,k,y,hk=>by simp at h;subst h;simp at hk
 |x::l,r,h,k,y,hk=>by
  simp only[xhf,xhk,xim]at h
  cases hx:f x with
  |none=>simp[hx]at h
  |some u=>
   cases hl:l.mapM f with
   |none=>simp[hx,hl]at h
   |some rest=>
    simp[hx,hl]at h
    subst h
    cases k with
    |zero=>simp at hk;subst hk;exact⟨x,rfl,hx⟩
    |succ k=>
     simp at hk
     obtain⟨x',h1,h2⟩:=zpz f l rest hl k y hk
     exact⟨x',by simpa using h1,h2⟩
def mapM_len{α β:Type}(f:α→Option β):∀(l:List α) (r:List β),l.mapM f=some r→r.length=l.length
 | [],r,h=>by simp at h;subst h;rfl
 |x::l,r,h=>by
  simp only[xhf,xhk,xim]at h
  cases hx:f x with
  |none=>simp[hx]at h
  |some u=>
   cases hl:l.mapM f with
   |none=>simp[hx,hl]at h
   |some rest=>
    simp[hx,hl]at h
    subst h
    simp[mapM_len f l rest hl]
def ztg{s f off sz:Nat}{i:TyI}{offs:List (Nat×Nat)}(hty:ty P s=some i)(hk:i.k=.struct offs)(hf:offs[f]?=some (off,sz))(hsz:sz≠0)(b o:Nat)(w:World) :
  (Instr.fieldAt s (.pointer (some ⟨b,o,none⟩)) f).run P w=.ok (.pointer (some ⟨b,o+off,none⟩)) w:=by
 obtain⟨j,d,hi,hd,_,_,_,hkd⟩:=zax hty
 obtain⟨fs,rfl,hm⟩:=zhm (hkd.trans (xbx some hk))
 obtain⟨fl,h1,h2⟩:=zpz _ _ _ hm f (off,sz) hf
 cases hinf:P.info? fl.type with
 |none=>simp[hinf]at h2
 |some ti=>
  simp[hinf]at h2
  obtain⟨h3,h4⟩:=h2
  have h5:fs[f]?=some fl:=by rw[←xbm];exact h1
  subst h3 h4
  simp[Instr.fieldAt,run_underlying hd,h5,Instr.sureAddr,fieldPlace,sizeOf,typeInfo,hinf,hsz,zel]
def zle{t e:TypeId}{i te:TyI}(hty:ty P t=some i)(hk:i.k=.slice e)(hte:ty P e=some te)(b o len cap:Nat)(k:IntKind)(x:Int)(h0:0≤x)(h1:x<len)(w:World) :
  (Instr.indexAt t (.slice (some ⟨b,o,none⟩) len cap) (.int k x)).run P w=.ok (.pointer (some ⟨b,o+x.toNat*te.size,none⟩)) w:=by
 obtain⟨j,d,hi,hd,_,_,_,hkd⟩:=zax hty
 have:=zeu (hkd.trans (xbx some hk))
 subst this
 obtain⟨j',d',hi',hd',_,hs',_,hk'⟩:=zax hte
 simp[Instr.indexAt,asIntOf,run_underlying hd,h0,h1,sizeOf,typeInfo,hi',hs',zel]
def zjq{t e len:Nat}{i te:TyI}(hty:ty P t=some i)(hk:i.k=.array len e)(hte:ty P e=some te)(b o:Nat)(k:IntKind)(x:Int)(h0:0≤x)(h1:x<len)(w:World) :
  (Instr.indexAt t (.pointer (some ⟨b,o,none⟩)) (.int k x)).run P w=.ok (.pointer (some ⟨b,o+x.toNat*te.size,none⟩)) w:=by
 obtain⟨j,d,hi,hd,_,_,_,hkd⟩:=zax hty
 have:=zqr (hkd.trans (xbx some hk))
 subst this
 obtain⟨j',d',hi',hd',_,hs',_,hk'⟩:=zax hte
 simp[Instr.indexAt,asIntOf,run_underlying hd,Instr.sureAddr,h0,h1,sizeOf,typeInfo,hi',hs',zel]
def zse{t:TypeId}{i:TyI}(hty:ty P t=some i)(w:World):(isAgg t).run P w=.ok i.agg w:=by
 obtain⟨j,d,hi,hd,_,_,_,hk⟩:=zax hty
 unfold isAgg
 rw[Sem.run_bind,run_underlying hd w]
 unfold TyI.agg
 cases d<;>simp[tyK]at hk<;>first|(obtain⟨_,_,hk⟩:=hk;rw[←hk];rfl)|(rw[←hk];rfl)
def aggP_run{P:Program}{t:TypeId}{g:Bool}(h:aggP P t=some g)(w:World):(isAgg t).run P w=.ok g w:=by
 unfold aggP at h
 unfold isAgg
 cases hd:P.underlying t with
 |none=>simp[hd]at h
 |some d=>
  rw[Sem.run_bind,run_underlying hd w]
  rw[hd]at h
  cases d<;>simp at h<;>subst h<;>rfl
def run_part{P:Program}{t:TypeId}{g:Bool}{ti:TypeInfo}(h:aggP P t=some g)(hi:P.info? t=some ti)(cs:Array Value)(off:Nat){v:Value}(hv:g=false→cs[off]?=some v)(w:World) :
  (part t cs off).run P w=.ok (if g then .agg (cs.extract off (off+ti.size))else v) w:=by
 unfold part
 rw[Sem.run_bind,aggP_run h w]
 cases g with
 |true=>simp[sizeOf,typeInfo,hi]
 |false=>simp[hv rfl]
def run_field{P:Program}{s f off sz:Nat}{i:TyI}{offs:List (Nat×Nat)}{g:Bool}(hty:ty P s=some i)(hk:i.k=.struct offs)(hf:offs[f]?=some (off,sz))(hg:i.fa[f]?=some (some g))(cs:Array Value){v:Value}(hv:g=false→cs[off]?=some v)(w:World) :
  (Instr.field s (.agg cs) f).run P w=.ok (if g then .agg (cs.extract off (off+sz))else v) w:=by
 obtain⟨j,d,hi,hd,_,_,_,hkd⟩:=zax hty
 obtain⟨d',hd',hfa,_⟩:=ty_fa hty
 rw[hd]at hd'
 cases hd'
 obtain⟨fs,rfl,hm⟩:=zhm (hkd.trans (xbx some hk))
 obtain⟨fl,h1,h2⟩:=zpz _ _ _ hm f (off,sz) hf
 cases hinf:P.info? fl.type with
 |none=>simp[hinf]at h2
 |some ti=>
  simp[hinf]at h2
  obtain⟨h3,h4⟩:=h2
  have h5:fs[f]?=some fl:=by rw[←xbm];exact h1
  subst h3 h4
  have h6:aggP P fl.type=some g:=by
   rw[hfa]at hg
   simp only[faP,xcv,h1,xcn,xat]at hg
   exact hg
  have h7:=run_part h6 hinf cs fl.offset hv w
  simp only[Instr.field,Sem.run_bind,run_underlying hd,Result.andThen_ok,h5,asAgg]
  simpa using h7
def run_index{P:Program}{t e len:Nat}{i te:TyI}(hty:ty P t=some i)(hk:i.k=.array len e)(hte:ty P e=some te)(k:IntKind)(x:Int)(h0:0≤x)(h1:x<len)(cs:Array Value){v:Value}(hv:te.agg=false→cs[x.toNat*te.size]?=some v)(w:World) :
  (Instr.index t (.agg cs) (.int k x)).run P w=.ok (if te.agg then .agg (cs.extract (x.toNat*te.size) (x.toNat*te.size+te.size))else v) w:=by
 obtain⟨j,d,hi,hd,_,_,_,hkd⟩:=zax hty
 have:=zqr (hkd.trans (xbx some hk))
 subst this
 obtain⟨j',d',hi',hd',_,hs',_,hk'⟩:=zax hte
 have hp:(part e cs (x.toNat*te.size)).run P w=.ok (if te.agg then .agg (cs.extract (x.toNat*te.size) (x.toNat*te.size+te.size))else v) w:=by
  unfold part
  rw[Sem.run_bind,zse hte w]
  cases hg:te.agg with
  |true=>simp[sizeOf,typeInfo,hi',hs']
  |false=>simp[hv hg]
 have hs:(sizeOf e).run P w=.ok te.size w:=by simp[sizeOf,typeInfo,hi',hs']
 simp only[Instr.index,asIntOf,Sem.run_bind,run_underlying hd,Result.andThen_ok,Sem.run_pure,h0,h1,and_self,if_true,hs,hp]
def zoy (d:Nat) (xs ys:Array Value) (w:World):∀ (fs:List Field) (us:List (IntKind × Int × Int)),fs.length=us.length →
    (∀ (i : Nat) (f : Field) (u : IntKind × Int × Int), fs[i]? = some f → us[i]? = some u → f.name ≠ "_" ∧ (∃ k, P.underlying f.type = some (.int k)) ∧ xs[f.offset]? = some (.int u.1 u.2.1) ∧ ys[f.offset]? = some (.int u.1 u.2.2)) →
    (Op.eqFields (d+1) xs ys fs).run P w=.ok (us.all fun u=>decide (u.2.1=u.2.2)) w
  | [],[],_,_=>rfl
  | [],_::_,h,_=>by simp at h
  |_::_,[],h,_=>by simp at h
  |f::fs,u::us,h,hall=>by
    obtain⟨h1,⟨k,h2⟩,h3,h4⟩:=hall 0 f u rfl rfl
    have ih:=zoy d xs ys w fs us (by simpa using h) fun i f u hf hu=>hall (i+1) f u (by simpa using hf) (by simpa using hu)
    have hag:(isAgg f.type).run P w=.ok false w:=aggP_run (by simp[aggP,h2]) w
    have hpart:∀(cs:Array Value) (v:Value),cs[f.offset]?=some v→(part f.type cs f.offset).run P w=.ok v w:=fun cs v hv=>by
      unfold part
      rw[Sem.run_bind,hag]
      simp[hv]
    unfold Op.eqFields
    rw[if_pos h1]
    simp only[Sem.run_bind,hpart _ _ h3,hpart _ _ h4,Result.andThen_ok,run_equalIn_int w d f.type u.1 k u.2.1 u.2.2 h2,xkt]
    by_cases he:u.2.1=u.2.2
    · have:(u.2.1 == u.2.2)=true:=by simpa using he
      rw[xag he]
      simp only[this,xaq,xaw,xbf,xax]
      exact ih
    · have:(u.2.1 == u.2.2)=false:=by simpa using he
      rw[xaj he]
      simp only[this,xao,if_true,xbe]
      rfl
def run_eql_ints{t:TypeId}{i:TyI}(hty:ty P t=some i)(he:i.eqs=true){offs:List (Nat×Nat)}(hk:i.k=.struct offs)(xs ys:Array Value)(us:List (IntKind×Int×Int))(hl:offs.length=us.length)
  (hall:∀(i:Nat) (o:Nat×Nat) (u:IntKind×Int×Int),offs[i]?=some o→us[i]?=some u→xs[o.1]?=some (.int u.1 u.2.1)∧ys[o.1]?=some (.int u.1 u.2.2)) (a b:Operand) (w:World) :
  (do eqGuard .eql t a b (.agg xs) (.agg ys);binOp .eql t (.agg xs) (.agg ys):Sem Value).run P w=.ok (.bool (us.all fun u=>decide (u.2.1=u.2.2))) w:=by
 obtain⟨j,d,hi,hd,_,_,_,hkd⟩:=zax hty
 obtain⟨d',hd',_,hes⟩:=ty_fa hty
 obtain⟨fs,rfl,hm⟩:=zhm (hkd.trans (xbx some hk))
 rw[hes]at he
 unfold eqsP at he
 rw[hd]at he
 simp only[xan,xdw,xbt,xam]at he
 obtain⟨h1,h2,h3⟩:=he
 have hfo:P.fieldsOf t=fs:=by unfold Program.fieldsOf;rw[hd]
 have hml:=mapM_len _ _ _ hm
 rw[Sem.run_bind,run_eqGuard_agg w .eql t a b xs ys h2,Result.andThen_ok,run_eql_struct,show(10000:Nat)=9999+1 from rfl,run_equalIn_agg w 9999 t xs ys (by rw[hfo];exact hd) h1,hfo,
  show(9999:Nat)=9998+1 from rfl,zoy 9998 xs ys w fs.toList us (by omega) fun i f u hf hu=>?_]
 ·rfl
 ·obtain⟨h4,h5⟩:=h3 f (xhd hf)
  obtain⟨o,ho⟩:∃o,offs[i]?=some o:=by
   have:=(xew.1 hf).1
   simp_all
  obtain⟨fl,h6,h7⟩:=zpz _ _ _ hm i o ho
  rw[hf]at h6
  cases h6
  obtain⟨h8,h9⟩:=hall i o u ho hu
  cases hinf:P.info? f.type with
  |none=>simp[hinf]at h7
  |some ti=>
   grind
def run_storeAt{t:TypeId}{i:TyI}(hty:ty P t=some i){b o:Nat}{cs:Array Value}{E:TypeId}(hg:w.heap[b]?=some (.cells cs E (0,0))){v:Value}(hsz:v.cells.size=i.size)(hfit:o+i.size≤cs.size)
  (h1:∀u∈v.cells.toList,u.oneCell'=true) :
  (Instr.storeAt t (.pointer (some ⟨b,o,none⟩)) v).run P w=.ok () (w.setRow b (cs.toList.take o++v.cells.toList++cs.toList.drop (o+v.cells.toList.length)).toArray):=by
 obtain⟨j,d,hi,hd,_,hs,_,hk⟩:=zax hty
 have hst:=run_storeCells_at P b o E v.cells.toList 0 cs w hg (by simp;omega) h1
 simp_all
 simp only[Instr.storeAt,Instr.sureAddr,storeVar,sizeOf,typeInfo,Sem.run_bind,Sem.run_pure,Result.andThen_ok,run_program,hi,hs,hsz,ne_eq,not_true_eq_false,xbf,hst]
def zrj(t ty e:TypeId)(i:TypeInfo)(z:Value)(size bytes:Nat)(ht:P.underlying t=some (.slice e))(hi:P.info? e=some i)(hz:i.zero=some z)
  (hsize:i.size=size) (hby:i.bytes=bytes) (hzs:z.cells.size=size) (hsz:0<size) (v:Value) (n:Nat) (xs:List Value) (hown:w.ownsRow 0 e size v n xs)
  (ad:Addr) (m cp:Nat) (news:List Value) (hl:news.length=m*size) (hnews:∀j u,news[j]?=some u→w.cell? (ad.add j)=some u) (h1:∀u∈news,u.oneCell'=true)
  (h63:n+m≤maxLen) (hbytes:(n+m)*bytes≤140737488355328) :
  ∃v' w',(Builtin.append_ #[t,t] ty #[v,.slice (some ad) m cp]).run P w=.ok v' w'∧w'.ownsRow 0 e size v' (n+m) (xs++news)∧w.grownBy w' v.ownBlock ∧
   (∀b,v'.ownBlock=some b→v.ownBlock=some b∨(b=w.heap.size∧b<w'.heap.size)):=by
 obtain⟨v',w',hr,ho,hg,hnil⟩:=run_append_own (P:=P) w 0 t ty e i z size bytes ht hi hz hsize hby hzs hsz v n xs hown ad m cp news hl hnews h1 h63 hbytes (xbz _)
 refine⟨v',w',hr,ho,hg,fun b hb=>?_⟩
 have hsmall:n+m≤9223372036854775807:=by simp only[maxLen]at h63;omega
 subst hsize hby
 rcases hown.2 with⟨rfl,rfl⟩|⟨g,cap,cur,rfl,hbg,hgg,hnc,hcm,hcs,htake⟩
 ·by_cases hm:m=0
  ·grind
  ·have h2:=run_append_nil (P:=P) w t ty e i z ht hi hz ad m cp news hl hnews (by omega) (by omega) (by simp only[xdc]at hbytes;omega)
   rw[h2]at hr
   cases hr
   simp only[Value.ownBlock]at hb
   cases hb
   exact .inr ⟨rfl,by simp⟩
 ·by_cases hroom:n+m≤cap
  ·have hfit:n*i.size+news.length≤cur.size:=by rw[hl,hcs,←xcl];exact xav _ hroom
   have h2:=run_append_room (P:=P) w t ty e i ht hi g n cap cur hgg ad m cp news hl hnews h1 hroom hfit
   rw[h2]at hr
   cases hr
   exact .inl hb
  ·have holds:∀j u,xs[j]?=some u→w.cell? ((⟨g,0,none⟩:Addr).add j)=some u:=hown.cells (g:=g) rfl
   have h2:=run_append_grow (P:=P) w t ty e i z ht hi hz ⟨g,0,none⟩ n cap xs hown.1 holds ad m cp news hl hnews (by omega) (by omega) (growslice_fits (by omega) hbytes)
   rw[h2]at hr
   cases hr
   simp only[Value.ownBlock]at hb
   cases hb
   exact .inr ⟨rfl,by simp⟩
def zpn(t u ty e:TypeId)(i:TypeInfo)(z:Value)(size bytes:Nat)(ku:IntKind)(ht:P.underlying t=some (.slice e))(hu:P.underlying u=some (.int ku))(hi:P.info? e=some i)(hz:i.zero=some z)
  (hsize:i.size=size) (hby:i.bytes=bytes) (hzs:z.cells.size=size) (hsz:0<size) (v:Value) (n:Nat) (xs:List Value) (hown:w.ownsRow 0 e size v n xs)
  (k:IntKind) (m:Nat) (h1:∀u∈(Builtin.zeroCells z.cells m).toList,u.oneCell'=true)
  (h63:n+m≤maxLen) (hbytes:(n+m)*bytes≤140737488355328) :
  ∃v' w',(Builtin.append_ #[t,u] ty #[v,.int k (m:Int)]).run P w=.ok v' w'∧w'.ownsRow 0 e size v' (n+m) (xs++(Builtin.zeroCells z.cells m).toList)∧w.grownBy w' v.ownBlock ∧
   (∀b,v'.ownBlock=some b→v.ownBlock=some b∨(b=w.heap.size∧b<w'.heap.size)):=by
 subst hsize
 subst hby
 have hsmall:n+m≤9223372036854775807:=by simp only[maxLen]at h63;omega
 have hwm:IntKind.i64.wrap (m:Int)=(m:Int):=IntWalk.i64_in _ ⟨by omega,by omega⟩
 have hm0:¬((m:Int)<0):=by omega
 have hmb:¬(281474976710656<(m:Int)*(i.bytes:Int)):=by
  have h2:m*i.bytes≤(n+m)*i.bytes:=xav _ (by omega)
  have h3:((m*i.bytes:Nat):Int)=(m:Int)*(i.bytes:Int):=xgm m i.bytes
  omega
 have hnl:(Builtin.zeroCells z.cells m).size=m*i.size:=by rw[size_zeroCells,hzs]
 have hlen:(xs++(Builtin.zeroCells z.cells m).toList).length=(n+m)*i.size:=by rw[xbk,hown.1,xcc,hnl,xcl]
 have hzero:m*i.size=0→Builtin.zeroCells z.cells m=#[]:=fun h0=>Array.eq_empty_of_size_eq_zero (by rw[hnl];exact h0)
 have hsne:i.size≠0:=by omega
 have grown:∀(old:Nat),old<n+m→∀(row:Option Nat),
   (w.drew.alloc (.cells (xs.toArray++Builtin.zeroCells z.cells m++Builtin.zeroCells z.cells (grownCap w (n+m) old e-(n+m))) e)).ownsRow 0 e i.size
    (.slice (some ⟨w.heap.size,0,none⟩) (n+m) (grownCap w (n+m) old e)) (n+m) (xs++(Builtin.zeroCells z.cells m).toList) ∧
   w.grownBy (w.drew.alloc (.cells (xs.toArray++Builtin.zeroCells z.cells m++Builtin.zeroCells z.cells (grownCap w (n+m) old e-(n+m))) e)) row:=by
  intro old ho row
  have hge:=grownCap_ge w (n+m) old e
  have hcm:grownCap w (n+m) old e≤maxLen:=grownCap_le_maxLen w (n+m) old e h63
  refine⟨⟨hlen,.inr ⟨w.heap.size,_,_,rfl,xbz _,heap_alloc_new w.drew _,hge,hcm,?_,?_⟩⟩,⟨rfl,rfl,rfl,by simp,fun k hk _=>heap_alloc_old w.drew _ hk⟩⟩
  ·simp only[Array.size_append,xcu,size_zeroCells,hzs,hown.1,←xcl]
   congr 1
   omega
  ·simp only[Array.toList_append,xcp]
   rw[←xcp,←hlen]
   exact List.take_left
 have newb:∀(old:Nat) (b:Nat),Value.ownBlock (.slice (some ⟨w.heap.size,0,none⟩) (n+m) (grownCap w (n+m) old e))=some b→b=w.heap.size ∧
   b<(w.drew.alloc (.cells (xs.toArray++Builtin.zeroCells z.cells m++Builtin.zeroCells z.cells (grownCap w (n+m) old e-(n+m))) e)).heap.size:=fun old b hb=>by
  have:w.heap.size=b:=by simpa[Value.ownBlock]using hb
  subst this
  exact⟨rfl,by simp⟩
 rcases hown.2 with⟨rfl,rfl⟩|⟨g,cap,cur,rfl,hbg,hg,hnc,hcm,hcs,htake⟩
 ·have hx:xs=[]:=xcf (by simpa using hown.1)
  subst hx
  by_cases hm:m=0
  ·subst hm
   refine⟨.slice none 0 0,w,?_,?_,⟨rfl,rfl,rfl,xak _,fun _ _ _=>rfl⟩,fun b hb=>.inl hb⟩
   ·simp[Builtin.append_,run_underlying ht,run_underlying hu,sizeOf,typeInfo,hi,asInt,asIntOf,IntKind.wrap_i64]
   ·rw[hzero (by simp)]
    exact World.ownsRow_nil w 0 e i.size
  ·have h63':¬(9223372036854775807<(m:Int)):=by omega
   have h48':¬(281474976710656<Builtin.nextslicecap m 0*i.bytes):=by
    rw[nextslicecap_zero (by omega)]
    simp only[xdc]at hbytes
    omega
   have hgr:=grown 0 (by omega) (Value.ownBlock (.slice none 0 0))
   have hnb:=newb 0
   simp only[xdc,xci,Array.empty_append]at hgr hnb ⊢
   refine⟨_,_,?_,hgr.1,hgr.2,fun b hb=>.inr (hnb b hb)⟩
   simp[Builtin.append_,run_underlying ht,run_underlying hu,sizeOf,typeInfo,zeroValue,hi,hz,asInt,asIntOf,hwm,hm0,hmb,hm,hsne,h63',h48',Question.forced,Builtin.firstCells,newRow,grownCap]
   exact fun h=>absurd h (xhq hm hsne)
 ·by_cases hroom:n+m≤cap
  ·have hfit:n*i.size+(Builtin.zeroCells z.cells m).toList.length≤cur.size:=by rw[xcc,hnl,hcs,←xcl];exact xav _ hroom
   have hst:=run_storeCells_at P g (n*i.size) e (Builtin.zeroCells z.cells m).toList 0 cur w hg (by simpa using hfit) h1
   simp only[xdl]at hst
   have hr:(Builtin.append_ #[t,u] ty #[.slice (some ⟨g,0,none⟩) n cap,.int k (m:Int)]).run P w =
     .ok (.slice (some ⟨g,0,none⟩) (n+m) cap) (w.setRow g (cur.toList.take (n*i.size)++(Builtin.zeroCells z.cells m).toList++cur.toList.drop (n*i.size+(Builtin.zeroCells z.cells m).toList.length)).toArray):=by
    by_cases hm:m=0
    ·subst hm
     have he:=hzero (xfl _)
     have hw0:IntKind.i64.wrap 0=0:=hwm
     rw[he]at hst ⊢
     simp[Builtin.append_,run_underlying ht,run_underlying hu,sizeOf,typeInfo,hi,asInt,asIntOf,hw0,hnc,Addr.add_lit]
     have hst':(storeCells ⟨g,n*i.size,none⟩ []).run P w=.ok () (w.setRow g cur):=by simpa using hst
     rw[hst']
     rfl
    ·simp[Builtin.append_,run_underlying ht,run_underlying hu,sizeOf,typeInfo,zeroValue,hi,hz,asInt,asIntOf,hwm,hm0,hmb,hm,hsne,hroom,Addr.add_lit,hst]
     exact fun h=>absurd h (xhq hm hsne)
   refine⟨_,_,hr,⟨hlen,.inr ⟨g,cap,_,rfl,hbg,setRow_heap w g cur _ e _ hg,hroom,hcm,?_,?_⟩⟩,⟨rfl,rfl,rfl,by simp,fun k _ hk=>setRow_other w g k _ (fun e=>hk (by simp[Value.ownBlock,e]))⟩,fun b hb=>.inl hb⟩
   ·simp only[xcu,xbk,xbj,xeh,xcc]at hfit ⊢
    omega
   ·rw[htake,←hlen]
    exact List.take_left
  ·have hm:m≠0:=by omega
   have holds:∀j u,xs[j]?=some u→w.cell? ((⟨g,0,none⟩:Addr).add j)=some u:=hown.cells (g:=g) rfl
   have hn:¬(n+m≤cap):=by omega
   have h63':¬(9223372036854775807<((n:Int)+(m:Int))):=by omega
   have h48':¬(281474976710656<Builtin.nextslicecap (n+m) cap*i.bytes):=by
    have:=growslice_fits (need:=n+m) (old:=cap) (by omega) hbytes
    omega
   have hfo:=run_firstCells_some (P:=P) w.drew i.size n ⟨g,0,none⟩ n cap xs hown.1 (by simpa using holds)
   have hgr:=grown cap (by omega) (Value.ownBlock (.slice (some ⟨g,0,none⟩) n cap))
   have hnb:=newb cap
   refine⟨_,_,?_,hgr.1,hgr.2,fun b hb=>.inr (hnb b hb)⟩
   simp[Builtin.append_,run_underlying ht,run_underlying hu,sizeOf,typeInfo,zeroValue,hi,hz,asInt,asIntOf,hwm,hm0,hmb,hm,hsne,hn,h63',h48',Question.forced,hfo,newRow,grownCap]
   exact fun h=>absurd h (xhq hm hsne)
def Does(P:Program)(o:Oper)(a:Act)(w:World)(K:Act→World→Prop):Prop:=
 ∃w',(∃v,(execOp a.eval o).run P w=.ok (.value v) w'∧K (a.put o.dst v) w')∨((execOp a.eval o).run P w=.ok .skip w'∧K (a.put o.dst undef) w')
def Does.wp{o:Oper}{K:Act→World→Prop}{Q:Exit→Act→World→Prop}(h:Does P o a w K):o.wp P a w K Q:=by
 unfold Oper.wp
 obtain⟨w',⟨v,h1,h2⟩|⟨h1,h2⟩⟩:=h
 ·rw[h1];exact h2
 ·rw[h1];exact h2
end
def zsg(off:Nat):∀(l:List Value) (j:Nat) (cs:Array Value),off+j+l.length≤cs.size →
  ((l.zipIdx j).foldl (fun cs (x:Value×Nat)=>cs.setIfInBounds (off+x.2) x.1) cs).toList=cs.toList.take (off+j)++l++cs.toList.drop (off+j+l.length)
 | [],j,cs,_=>by simp
 |v::l,j,cs,h=>by
  have h':off+(j+1)+l.length≤(cs.setIfInBounds (off+j) v).size:=by simp at h ⊢;omega
  have ih:=zsg off l (j+1) (cs.setIfInBounds (off+j) v) h'
  simp only[List.zipIdx_cons,xgk,ih]
  have e:=list_seg_step cs.toList (off+j) v l (by simp at h ⊢;omega)
  simpa[Array.toList_setIfInBounds,xdm]using e
def wrap_in(n:Int)(h:-9223372036854775808≤n∧n≤9223372036854775807):IntKind.i64.wrap n=n:=IntWalk.i64_in n h
inductive Ty where
 |int (k:IntKind) | bool | str | unit
 |pair (a b:Ty) | arr (n:Nat) (t:Ty) | slice (t:Ty) | ptr (t:Ty)
 |fn1 (a r:Ty) | fn2 (a b r:Ty)
 |alt (tid:TypeId) (a b:Ty) | nilI
 deriving DecidableEq
@[reducible] def Ty.den:Ty→Type
 | .int _=>Int
 | .bool=>Bool
 | .str=>List Int
 | .unit=>Unit
 | .pair a b=>a.den×b.den
 | .arr _ t=>List t.den
 | .slice t=>List t.den
 | .ptr t=>t.den
 | .fn1 a r=>a.den→Option r.den
 | .fn2 a b r=>a.den→b.den→Option r.den
 | .alt _ a b=>a.den⊕b.den
 | .nilI=>Unit
def Ty.dflt:(t:Ty)→t.den
 | .int _=>(0:Int)
 | .bool=>false
 | .str=>([]:List Int)
 | .unit=>()
 | .pair a b=>(a.dflt,b.dflt)
 | .arr n t=>List.replicate n t.dflt
 | .slice _=>[]
 | .ptr t=>t.dflt
 | .fn1 _ _=>fun _=>none
 | .fn2 _ _ _=>fun _ _=>none
 | .alt _ _ b=>.inr b.dflt
 | .nilI=>()
def Ty.size:Ty→Nat
 | .unit=>0
 | .pair a b=>a.size+b.size
 | .arr n t=>n*t.size
 |_=>1
def Ty.agg:Ty→Bool
 | .unit | .pair .. | .arr ..=>true
 |_=>false
inductive Md where
 |sh | bw | own (e:TypeId) (m:Md) | pr (a b:Md) | dead
 deriving DecidableEq,Inhabited
def Md.l:Md→Md
 | .pr a _=>a
 |m=>m
def Md.r:Md→Md
 | .pr _ b=>b
 |m=>m
abbrev Place:=Nat×List Nat
def px(p:Place)(i:Nat):Place:=(p.1,p.2++[i])
def pa(p:Place)(q:List Nat):Place:=(p.1,p.2++q)
def zcc(p:Place)(i:Nat)(q:List Nat):pa (px p i) q=pa p (i::q):=by simp[pa,px]
def zct(p:Place):pa p []=p:=by simp[pa]
abbrev Cs:=Nat→Option Value
structure St where
 w:World
 F:Nat→Prop
 B:Nat→Prop
 own:Nat→Option Place
 hv:Place→Value
def blk(w:World)(b o:Nat):Cs:=fun i=>w.cell? ⟨b,o+i,none⟩
def zab(t:Ty)(v:Value):Cs:=if t.agg then(match v with | .agg cs=>fun i=>cs[i]? | _=>fun _=>none)else fun i=>if i=0 then some v else none
def zgg(t:Ty)(v:Value):Prop:=t.agg=true→∃cs,v=.agg cs∧cs.size=t.size
def zla(cs:Cs):Prop:=∃u,cs 0=some u∧u.oneCell'=true
def maxL:Nat:=281474976710656
def St.G(S:St)(m:Md)(b:Nat):Prop:=S.F b∨(m=.bw∧S.B b)
structure St.WF(S:St):Prop where
 shared:∀b,S.F b→S.own b=none∧b<S.w.heap.size
 borrowed:∀b,S.B b→S.own b=none∧b<S.w.heap.size
 owned:∀b p,S.own b=some p→b<S.w.heap.size
structure Fut(m:Md)(S S':St):Prop where
 sh:∀b,S.F b→S'.F b
 bw:∀b,m=.bw→S.B b→S'.F b∨S'.B b
 same:∀b,S.G m b→S'.w.heap[b]?=S.w.heap[b]?
def zcf(P:Program)(f:FuncId):Prop:=∀xs w,(callFunc f xs).run P w=.ok (.enter f xs) w
def Rel(P:Program):(t:Ty)→St→Md→Place→t.den→Cs→Prop
 | .int k,_,m,_,n,cs=>match m with
  | .dead=>zla cs
  |_=>cs 0=some (.int k n)∧k.wrap n=n
 | .bool,_,m,_,b,cs=>match m with
  | .dead=>zla cs
  |_=>cs 0=some (.bool b)
 | .str,_,m,_,x,cs=>match m with
  | .dead=>zla cs
  |_=>∃s:ByteArray,cs 0=some (.string s)∧s.data.toList.map (fun c=>(c.toNat:Int))=x∧x.length≤maxL
 | .unit,_,_,_,_,_=>True
 | .pair a b,S,m,p,x,cs=>Rel P a S m.l (px p 0) x.1 cs∧Rel P b S m.r (px p 1) x.2 (fun i=>cs (a.size+i))
 | .arr n t,S,m,p,xs,cs=>xs.length=n∧∀(i:Nat) (h:i<xs.length),Rel P t S m (px p i) xs[i] (fun j=>cs (i*t.size+j))
 | .slice t,S,m,p,xs,cs=>xs.length≤maxL∧0<t.size∧match m with
  | .dead=>zla cs
  | .own e m=>cs 0=some (S.hv p)∧((S.hv p=.slice none 0 0∧xs=[])∨∃g cap cur,S.hv p=.slice (some ⟨g,0,none⟩) xs.length cap∧S.own g=some p∧S.w.heap[g]?=some (.cells cur e (0,0)) ∧
    xs.length≤cap∧cap≤maxLen∧cur.size=cap*t.size∧∀(i:Nat) (h:i<xs.length),Rel P t S m (px p i) xs[i] (fun j=>cur[i*t.size+j]?))
  | .pr _ _=>False
  |m=>∃a len cap,cs 0=some (.slice a len cap)∧len=xs.length∧len≤cap∧((xs=[]∧cap=0)∨∃b o,a=some ⟨b,o,none⟩∧(xs≠ []→S.G m b)∧∀(i:Nat) (h:i<xs.length),Rel P t S m (px p i) xs[i] (blk S.w b (o+i*t.size)))
 | .ptr t,S,m,p,x,cs=>match m with
  | .dead=>zla cs
  | .own _ m=>cs 0=some (S.hv p)∧∃g cur e,S.hv p=.pointer (some ⟨g,0,none⟩)∧S.own g=some p∧S.w.heap[g]?=some (.cells cur e (0,0))∧cur.size=t.size ∧
    Rel P t S m (px p 0) x (fun j=>cur[j]?)
  | .pr _ _=>False
  |m=>∃b o,cs 0=some (.pointer (some ⟨b,o,none⟩))∧(t.size≠0→S.G m b)∧Rel P t S m (px p 0) x (blk S.w b o)
 | .fn1 a r,S,m,_,g,cs=>match m with
  | .dead=>zla cs
  | .own _ _=>False
  | .pr _ _=>False
  |m=>∃f caps,cs 0=some (.func (.func f) #[] caps)∧zcf P f∧∀(S':St) (x:a.den) (y:r.den),Fut m S S'→S'.WF→g x=some y→∀v,Rel P a S' .bw (0,[]) x (zab a v)→zgg a v →
    Calls P f (#[v]++caps) S'.w fun e w''=>∃u,e=.returned u∧Rel P r {S' with w:=w''} .sh (0,[]) y (zab r u)∧zgg r u∧Ext S'.w w''
 | .fn2 a b r,S,m,_,g,cs=>match m with
  | .dead=>zla cs
  | .own _ _=>False
  | .pr _ _=>False
  |m=>∃f caps,cs 0=some (.func (.func f) #[] caps)∧zcf P f∧∀(S':St) (x:a.den) (y:b.den) (z:r.den),Fut m S S'→S'.WF→g x y=some z→∀v v',Rel P a S' .bw (0,[]) x (zab a v)→zgg a v →
    Rel P b S' .bw (0,[]) y (zab b v')→zgg b v'→Calls P f (#[v,v']++caps) S'.w fun e w''=>∃u,e=.returned u∧Rel P r {S' with w:=w''} .sh (0,[]) z (zab r u)∧zgg r u∧Ext S'.w w''
 | .alt tid a b,S,m,p,x,cs=>match m with
  | .dead=>zla cs
  |m=>match x with
   | .inl y=>∃v,cs 0=some (.iface tid v)∧Rel P a S m (px p 0) y (zab a v)∧zgg a v
   | .inr z=>b.size=1∧Rel P b S m (px p 1) z cs
 | .nilI,_,m,_,_,cs=>match m with
  | .dead=>zla cs
  |_=>cs 0=some .nilIface
section
variable {P:Program}
def Rel.cells:∀{t:Ty} {S:St} {m:Md} {p:Place} {x:t.den} {cs:Cs},Rel P t S m p x cs→∀i,i<t.size→∃u,cs i=some u∧u.oneCell'=true:=by
 intro t
 have one:∀{cs:Cs} {u:Value},cs 0=some u→u.oneCell'=true→∀i,i<1→∃u,cs i=some u∧u.oneCell'=true:=fun h h' i hi=>by
  grind
 have done:∀{cs:Cs},zla cs→∀i,i<1→∃u,cs i=some u∧u.oneCell'=true:=fun h i hi=>by
  obtain⟨u,h1,h2⟩:=h;exact one h1 h2 i hi
 induction t with
 |int k=>
  intro S m p x cs h
  cases m<;>first | exact done h | exact one h.1 rfl
 |bool=>
  intro S m p x cs h
  cases m<;>first | exact done h | exact one h rfl
 |str=>
  intro S m p x cs h
  cases m<;>first|exact done h|(obtain⟨s,h,_⟩:=h;exact one h rfl)
 |unit=>intro S m p x cs h i hi;exact absurd hi (Nat.not_lt_zero _)
 |pair a b iha ihb=>
  intro S m p x cs h i hi
  simp only[Ty.size]at hi
  by_cases hlt:i<a.size
  ·exact iha h.1 i hlt
  ·have:=ihb h.2 (i-a.size) (by omega)
   grind
 |arr n t ih=>
  intro S m p x cs h i hi
  simp only[Ty.size]at hi
  obtain⟨h1,h2⟩:=h
  have hpos:0<t.size:=by grind
  have hq:i/t.size<x.length:=by rw[h1];exact(xep hpos).2 hi
  have:=ih (h2 (i/t.size) hq) (i%t.size) (xfi _ hpos)
  rwa[Nat.div_add_mod']at this
 |slice t ih=>
  intro S m p x cs h
  obtain⟨_,_,h⟩:=h
  cases m with
  |dead=>exact done h
  |own e m=>
   obtain⟨h1,h2⟩:=h
   refine one h1 ?_
   rcases h2 with⟨h2,_⟩|⟨g,cap,cur,h2,_⟩<;>rw[h2]<;>rfl
  |pr=>exact h.elim
  |sh=>obtain⟨a,len,cap,h1,_⟩:=h;exact one h1 rfl
  |bw=>obtain⟨a,len,cap,h1,_⟩:=h;exact one h1 rfl
 |ptr t ih=>
  intro S m p x cs h
  cases m with
  |dead=>exact done h
  |own e m=>
   obtain⟨h1,g,cur,e,h2,_⟩:=h
   exact one h1 (by rw[h2];rfl)
  |pr=>exact h.elim
  |sh=>obtain⟨b,o,h1,_⟩:=h;exact one h1 rfl
  |bw=>obtain⟨b,o,h1,_⟩:=h;exact one h1 rfl
 |fn1 a r iha ihr=>
  intro S m p x cs h
  cases m with
  |dead=>exact done h
  |own=>exact h.elim
  |pr=>exact h.elim
  |sh=>obtain⟨f,caps,h1,_⟩:=h;exact one h1 rfl
  |bw=>obtain⟨f,caps,h1,_⟩:=h;exact one h1 rfl
 |fn2 a b r iha ihb ihr=>
  intro S m p x cs h
  cases m with
  |dead=>exact done h
  |own=>exact h.elim
  |pr=>exact h.elim
  |sh=>obtain⟨f,caps,h1,_⟩:=h;exact one h1 rfl
  |bw=>obtain⟨f,caps,h1,_⟩:=h;exact one h1 rfl
 |alt tid a b iha ihb=>
  intro S m p x cs h i hi
  have key:(∃u,cs 0=some u∧u.oneCell'=true)∨(m≠ .dead∧∃z,x=.inr z∧b.size=1∧Rel P b S m (px p 1) z cs):=by
   cases m<;>first | exact .inl h | (cases x with
    |inl y=>obtain⟨v,h1,_⟩:=h;exact .inl ⟨_,h1,rfl⟩
    |inr z=>exact .inr ⟨by simp,z,rfl,h⟩)
  rcases key with⟨u,h1,h2⟩|⟨_,z,rfl,h0,h2⟩
  ·exact one h1 h2 i hi
  ·exact ihb h2 i (by simp only[Ty.size]at hi;omega)
 |nilI=>
  intro S m p x cs h
  cases m<;>first | exact done h | exact one h rfl
def Md.nobw:Md→Bool
 | .sh=>true
 | .bw=>false
 | .own _ m=>m.nobw
 | .pr a b=>a.nobw&&b.nobw
 | .dead=>true
def Md.nobw_l{m:Md}(h:m.nobw=true):m.l.nobw=true:=by
 cases m<;>first | exact h | (simp only[Md.nobw,xan]at h;exact h.1)
def Md.nobw_r{m:Md}(h:m.nobw=true):m.r.nobw=true:=by
 cases m<;>first | exact h | (simp only[Md.nobw,xan]at h;exact h.2)
structure Tr(q:Bool)(S S':St)(p p':Place):Prop where
 F:∀b,S.F b→S'.F b
 sF:∀b,S.F b→S'.w.heap[b]?=S.w.heap[b]?
 B:q=true→∀b,S.B b→S'.F b∨S'.B b
 sB:q=true→∀b,S.B b→S'.w.heap[b]?=S.w.heap[b]?
 hv:∀r,S'.hv (pa p' r)=S.hv (pa p r)
 own:∀b r,S.own b=some (pa p r)→S'.own b=some (pa p' r)∧S'.w.heap[b]?=S.w.heap[b]?
def Tr.px{q:Bool}{S S':St}{p p':Place}(h:Tr q S S' p p')(i:Nat):Tr q S S' (px p i) (px p' i) where
 F:=h.F
 sF:=h.sF
 B:=h.B
 sB:=h.sB
 hv r:=by rw[zcc,zcc];exact h.hv _
 own b r:=by rw[zcc,zcc];exact h.own b _
def Tr.G{q:Bool}{S S':St}{p p':Place}(h:Tr q S S' p p'){m:Md}(hm:q=true∨m.nobw=true){b:Nat}(hb:S.G m b):S'.G m b∧S'.w.heap[b]?=S.w.heap[b]?:=by
 rcases hb with hb|⟨rfl,hb⟩
 ·exact⟨.inl (h.F b hb),h.sF b hb⟩
 ·have hq:q=true:=hm.resolve_right (by simp[Md.nobw])
  exact⟨(h.B hq b hb).imp id fun h=>⟨rfl,h⟩,h.sB hq b hb⟩
def Tr.fut{q:Bool}{S S' S'':St}{p p':Place}(h:Tr q S S' p p'){m:Md}(hm:q=true∨m.nobw=true)(hf:Fut m S' S''):Fut m S S'' where
 sh b hb:=hf.sh b (h.F b hb)
 bw b hmb hb:=by
  subst hmb
  have hq:q=true:=hm.resolve_right (by simp[Md.nobw])
  exact(h.B hq b hb).elim (fun h=>.inl (hf.sh b h)) fun h=>hf.bw b rfl h
 same b hb:=(hf.same b (h.G hm hb).1).trans (h.G hm hb).2
def zky{w w':World}{b:Nat}(h:w'.heap[b]?=w.heap[b]?)(o:Nat):blk w' b o=blk w b o:=funext fun i=>World.cell?_of_block (w:=w) (a:=⟨b,o+i,none⟩) h
def Rel.mono{q:Bool}:∀{t:Ty} {S S':St} {m:Md} {p p':Place} {x:t.den} {cs cs':Cs},Rel P t S m p x cs→(q=true∨m.nobw=true)→Tr q S S' p p'→(∀i,i<t.size→cs' i=cs i)→Rel P t S' m p' x cs':=by
 intro t
 have d1:∀{cs cs':Cs},zla cs→(∀i,i<1→cs' i=cs i)→zla cs':=fun h hc=>by
  obtain⟨u,h1,h2⟩:=h;exact⟨u,(hc 0 Nat.one_pos).trans h1,h2⟩
 induction t with
 |int k=>
  intro S S' m p p' x cs cs' h hm hT hc
  have h0:=hc 0 Nat.one_pos
  cases m<;>first | exact d1 h hc | exact⟨h0.trans h.1,h.2⟩
 |bool=>
  intro S S' m p p' x cs cs' h hm hT hc
  have h0:=hc 0 Nat.one_pos
  cases m<;>first | exact d1 h hc | exact h0.trans h
 |str=>
  intro S S' m p p' x cs cs' h hm hT hc
  have h0:=hc 0 Nat.one_pos
  cases m<;>first|exact d1 h hc|(obtain⟨s,h1,h2⟩:=h;exact⟨s,h0.trans h1,h2⟩)
 |unit=>intro S S' m p p' x cs cs' h hm hT hc;trivial
 |pair a b iha ihb=>
  intro S S' m p p' x cs cs' h hm hT hc
  simp only[Ty.size]at hc
  exact⟨iha h.1 (hm.imp id Md.nobw_l) (hT.px 0) fun i hi=>hc i (by omega),ihb h.2 (hm.imp id Md.nobw_r) (hT.px 1) fun i hi=>hc _ (by omega)⟩
 |arr n t ih=>
  intro S S' m p p' x cs cs' h hm hT hc
  simp only[Ty.size]at hc
  obtain⟨h1,h2⟩:=h
  refine⟨h1,fun i hi=>ih (h2 i hi) hm (hT.px i) fun j hj=>hc _ ?_⟩
  have:(i+1)*t.size≤n*t.size:=xav _ (by omega)
  grind
 |slice t ih=>
  intro S S' m p p' x cs cs' h hm hT hc
  obtain⟨hl,hsz,h⟩:=h
  refine⟨hl,hsz,?_⟩
  have h0:=hc 0 Nat.one_pos
  have shbw:∀{m:Md},(q=true∨m.nobw=true)→(∃a len cap,cs 0=some (.slice a len cap)∧len=x.length∧len≤cap∧((x=[]∧cap=0)∨∃b o,a=some ⟨b,o,none⟩∧(x≠ []→S.G m b)∧∀(i:Nat) (h:i<x.length),Rel P t S m (Go.X.px p i) x[i] (blk S.w b (o+i*t.size)))) →
    ∃a len cap,cs' 0=some (.slice a len cap)∧len=x.length∧len≤cap∧((x=[]∧cap=0)∨∃b o,a=some ⟨b,o,none⟩∧(x≠ []→S'.G m b)∧∀(i:Nat) (h:i<x.length),Rel P t S' m (Go.X.px p' i) x[i] (blk S'.w b (o+i*t.size))):=fun hm h=>by
   obtain⟨a,len,cap,h1,h2,h3,h4⟩:=h
   refine⟨a,len,cap,h0.trans h1,h2,h3,h4.imp id fun⟨b,o,h5,h6,h7⟩=>⟨b,o,h5,fun hne=>(hT.G hm (h6 hne)).1,fun i hi=>?_⟩⟩
   have hb:=(hT.G hm (h6 (by rintro rfl;simp at hi))).2
   exact ih (h7 i hi) hm (hT.px i) fun j _=>by rw[zky hb]
  cases m with
  |dead=>exact d1 h hc
  |own e m=>
   obtain⟨h1,h2⟩:=h
   have hv:=hT.hv []
   rw[zct,zct]at hv
   refine⟨by rw[h0,h1,hv],?_⟩
   rw[hv]
   refine h2.imp id fun⟨g,cap,cur,h3,h4,h5,h6,h7,h8,h9⟩=>?_
   have ho:=hT.own g [] (by rw[zct];exact h4)
   rw[zct]at ho
   exact⟨g,cap,cur,h3,ho.1,ho.2.trans h5,h6,h7,h8,fun i hi=>ih (h9 i hi) hm (hT.px i) fun _ _=>rfl⟩
  |pr=>exact h.elim
  |sh=>exact shbw hm h
  |bw=>exact shbw hm h
 |ptr t ih=>
  intro S S' m p p' x cs cs' h hm hT hc
  have h0:=hc 0 Nat.one_pos
  have shbw:∀{m:Md},(q=true∨m.nobw=true)→(∃b o,cs 0=some (.pointer (some ⟨b,o,none⟩))∧(t.size≠0→S.G m b)∧Rel P t S m (Go.X.px p 0) x (blk S.w b o)) →
    ∃b o,cs' 0=some (.pointer (some ⟨b,o,none⟩))∧(t.size≠0→S'.G m b)∧Rel P t S' m (Go.X.px p' 0) x (blk S'.w b o):=fun hm h=>by
   obtain⟨b,o,h1,h2,h3⟩:=h
   refine⟨b,o,h0.trans h1,fun hne=>(hT.G hm (h2 hne)).1,ih h3 hm (hT.px 0) fun j hj=>?_⟩
   rw[zky (hT.G hm (h2 (by omega))).2]
  cases m with
  |dead=>exact d1 h hc
  |own e m=>
   obtain⟨h1,g,cur,e,h2,h3,h4,h5,h6⟩:=h
   have hv:=hT.hv []
   rw[zct,zct]at hv
   have ho:=hT.own g [] (by rw[zct];exact h3)
   rw[zct]at ho
   exact⟨by rw[h0,h1,hv],g,cur,e,hv.trans h2,ho.1,ho.2.trans h4,h5,ih h6 hm (hT.px 0) fun _ _=>rfl⟩
  |pr=>exact h.elim
  |sh=>exact shbw hm h
  |bw=>exact shbw hm h
 |fn1 a r iha ihr=>
  intro S S' m p p' x cs cs' h hm hT hc
  have h0:=hc 0 Nat.one_pos
  cases m with
  |dead=>exact d1 h hc
  |own=>exact h.elim
  |pr=>exact h.elim
  |sh=>
   obtain⟨f,caps,h1,h2,h3⟩:=h
   exact⟨f,caps,h0.trans h1,h2,fun S'' y z hf hw hg v hv hagg=>h3 S'' y z (hT.fut hm hf) hw hg v hv hagg⟩
  |bw=>
   obtain⟨f,caps,h1,h2,h3⟩:=h
   exact⟨f,caps,h0.trans h1,h2,fun S'' y z hf hw hg v hv hagg=>h3 S'' y z (hT.fut hm hf) hw hg v hv hagg⟩
 |fn2 a b r iha ihb ihr=>
  intro S S' m p p' x cs cs' h hm hT hc
  have h0:=hc 0 Nat.one_pos
  cases m with
  |dead=>exact d1 h hc
  |own=>exact h.elim
  |pr=>exact h.elim
  |sh=>
   obtain⟨f,caps,h1,h2,h3⟩:=h
   exact⟨f,caps,h0.trans h1,h2,fun S'' y1 y2 z hf hw hg v v' hv hagg hv' hagg'=>h3 S'' y1 y2 z (hT.fut hm hf) hw hg v v' hv hagg hv' hagg'⟩
  |bw=>
   obtain⟨f,caps,h1,h2,h3⟩:=h
   exact⟨f,caps,h0.trans h1,h2,fun S'' y1 y2 z hf hw hg v v' hv hagg hv' hagg'=>h3 S'' y1 y2 z (hT.fut hm hf) hw hg v v' hv hagg hv' hagg'⟩
 |alt tid a b iha ihb=>
  intro S S' m p p' x cs cs' h hm hT hc
  have h0:=hc 0 Nat.one_pos
  cases m<;>first | exact d1 h hc | (cases x with
   |inl y=>
    obtain⟨v,h1,h2,h3⟩:=h
    exact⟨v,h0.trans h1,iha h2 hm (hT.px 0) fun _ _=>rfl,h3⟩
   |inr z=>exact⟨h.1,ihb h.2 hm (hT.px 1) fun i hi=>hc i (by have:=h.1;simp only[Ty.size];omega)⟩)
 |nilI=>
  intro S S' m p p' x cs cs' h hm hT hc
  have h0:=hc 0 Nat.one_pos
  cases m<;>first | exact d1 h hc | exact h0.trans h
end
def leM:Ty→Md→Md→Bool
 | .unit,_,_=>true
 | .pair a b,m,m'=>leM a m.l m'.l&&leM b m.r m'.r
 | .arr _ t,m,m'=>leM t m m'
 | .slice t,m,m'=>match m,m' with
  |_,.dead=>true
  | .sh,.sh=>true
  | .bw,.bw=>true
  | .sh,.bw=>leM t .sh .bw
  | .own e k,.own e' k'=>e == e'&&leM t k k'
  |_,_=>false
 | .ptr t,m,m'=>match m,m' with
  |_,.dead=>true
  | .sh,.sh=>true
  | .bw,.bw=>true
  | .sh,.bw=>leM t .sh .bw
  | .own _ k,.own _ k'=>leM t k k'
  |_,_=>false
 | .fn1 _ _,m,m'=>match m,m' with
  |_,.dead=>true
  | .sh,.sh=>true
  | .bw,.bw=>true
  | .sh,.bw=>true
  |_,_=>false
 | .fn2 _ _ _,m,m'=>match m,m' with
  |_,.dead=>true
  | .sh,.sh=>true
  | .bw,.bw=>true
  | .sh,.bw=>true
  |_,_=>false
 | .alt _ a b,m,m'=>match m,m' with
  |_,.dead=>true
  | .dead,_=>false
  |m,m'=>leM a m m'&&leM b m m'
 |_,m,m'=>match m,m' with
  |_,.dead=>true
  | .dead,_=>false
  |_,_=>true
def live:Ty→Md→Bool
 | .unit,_=>true
 | .pair a b,m=>live a m.l&&live b m.r
 | .arr _ t,m=>live t m
 | .slice t,m=>match m with
  | .dead=>false
  | .pr _ _=>false
  | .own _ k=>live t k
  |_=>true
 | .ptr t,m=>match m with
  | .dead=>false
  | .pr _ _=>false
  | .own _ k=>live t k
  |_=>true
 | .alt _ a b,m=>match m with
  | .dead=>false
  |m=>live a m&&live b m
 |_,m=>match m with
  | .dead=>false
  |_=>true
section
variable {P:Program}
def Rel.alt_inl{tid:TypeId}{a b:Ty}{S:St}{m:Md}{p:Place}{y:a.den}{cs:Cs}(h:m≠ .dead):Rel P (.alt tid a b) S m p (.inl y) cs=(∃v,cs 0=some (.iface tid v)∧Rel P a S m (px p 0) y (zab a v)∧zgg a v):=by
 cases m<;>first | exact absurd rfl h | rfl
def Rel.alt_inr{tid:TypeId}{a b:Ty}{S:St}{m:Md}{p:Place}{z:b.den}{cs:Cs}(h:m≠ .dead):Rel P (.alt tid a b) S m p (.inr z) cs=(b.size=1∧Rel P b S m (px p 1) z cs):=by
 cases m<;>first | exact absurd rfl h | rfl
def zdd{M:Md}(hM:M=.sh∨M=.bw):∀t:Ty,live t M=true:=by
 intro t
 induction t with
 |pair a b iha ihb=>rcases hM with rfl | rfl<;>(simp only[live,Md.l,Md.r,iha,ihb];rfl)
 |arr n t ih=>exact ih
 |alt tid a b iha ihb=>rcases hM with rfl | rfl<;>(simp only[live,iha,ihb];rfl)
 |_=>rcases hM with rfl | rfl<;>rfl
def fut_bw{S S':St}(h:Fut .bw S S'):Fut .sh S S':=⟨h.sh,fun _ h=>(by cases h),fun b hb=>h.same b (.inl (hb.resolve_right fun h=>by cases h.1))⟩
def Rel.weaken:∀{t:Ty} {S:St} {m m':Md} {p:Place} {x:t.den} {cs:Cs},Rel P t S m p x cs→leM t m m'=true→Rel P t S m' p x cs:=by
 intro t
 induction t with
 |unit=>intro S m m' p x cs h hl;trivial
 |pair a b iha ihb=>
  intro S m m' p x cs h hl
  simp only[leM,xan]at hl
  exact⟨iha h.1 hl.1,ihb h.2 hl.2⟩
 |arr n t ih=>
  intro S m m' p x cs h hl
  exact⟨h.1,fun i hi=>ih (h.2 i hi) hl⟩
 |slice t ih=>
  intro S m m' p x cs h hl
  have hd:=h.cells 0 Nat.one_pos
  obtain⟨h1,h2,h3⟩:=h
  refine⟨h1,h2,?_⟩
  cases m' with
  |dead=>exact hd
  |pr=>cases m<;>simp[leM]at hl
  |sh=>cases m<;>first | (simp[leM]at hl;done) | exact h3
  |bw=>
   cases m<;>first | (simp[leM]at hl;done) | exact h3 | skip
   obtain⟨a,len,cap,h4,h5,h6,h7⟩:=h3
   exact⟨a,len,cap,h4,h5,h6,h7.imp id fun⟨b,o,h8,h9,h10⟩=>⟨b,o,h8,fun hne=>.inl ((h9 hne).resolve_right fun h=>by cases h.1),fun i hi=>ih (h10 i hi) hl⟩⟩
  |own e k'=>
   cases m<;>first | (simp[leM]at hl;done) | skip
   simp only[leM,xan,beq_iff_eq]at hl
   obtain⟨he,hl⟩:=hl
   subst he
   exact⟨h3.1,h3.2.imp id fun⟨g,cap,cur,h4,h5,h6,h7,h8,h9,h10⟩=>⟨g,cap,cur,h4,h5,h6,h7,h8,h9,fun i hi=>ih (h10 i hi) hl⟩⟩
 |ptr t ih=>
  intro S m m' p x cs h hl
  have hd:=h.cells 0 Nat.one_pos
  cases m' with
  |dead=>exact hd
  |pr=>cases m<;>simp[leM]at hl
  |sh=>cases m<;>first | (simp[leM]at hl;done) | exact h
  |bw=>
   cases m<;>first | (simp[leM]at hl;done) | exact h | skip
   obtain⟨b,o,h4,h5,h6⟩:=h
   exact⟨b,o,h4,fun hne=>.inl ((h5 hne).resolve_right fun h=>by cases h.1),ih h6 hl⟩
  |own e k'=>
   cases m<;>first | (simp[leM]at hl;done) | skip
   obtain⟨h1,g,cur,e,h4,h5,h6,h7,h8⟩:=h
   exact⟨h1,g,cur,e,h4,h5,h6,h7,ih h8 hl⟩
 |fn1 a r iha ihr=>
  intro S m m' p x cs h hl
  have hd:=h.cells 0 Nat.one_pos
  cases m' with
  |dead=>exact hd
  |pr=>cases m<;>simp[leM]at hl
  |own=>cases m<;>simp[leM]at hl
  |sh=>cases m<;>first | (simp[leM]at hl;done) | exact h
  |bw=>
   cases m<;>first | (simp[leM]at hl;done) | exact h | skip
   obtain⟨f,caps,h1,h2,h3⟩:=h
   exact⟨f,caps,h1,h2,fun S' x y hf hw hg v hv hagg=>h3 S' x y (fut_bw hf) hw hg v hv hagg⟩
 |fn2 a b r iha ihb ihr=>
  intro S m m' p x cs h hl
  have hd:=h.cells 0 Nat.one_pos
  cases m' with
  |dead=>exact hd
  |pr=>cases m<;>simp[leM]at hl
  |own=>cases m<;>simp[leM]at hl
  |sh=>cases m<;>first | (simp[leM]at hl;done) | exact h
  |bw=>
   cases m<;>first | (simp[leM]at hl;done) | exact h | skip
   obtain⟨f,caps,h1,h2,h3⟩:=h
   exact⟨f,caps,h1,h2,fun S' x y z hf hw hg v v' hv hagg hv' hagg'=>h3 S' x y z (fut_bw hf) hw hg v v' hv hagg hv' hagg'⟩
 |alt tid a b iha ihb=>
  intro S m m' p x cs h hl
  have hd:=h.cells 0 Nat.one_pos
  by_cases hm':m'=.dead
  ·subst hm';exact hd
  ·have hm:m≠ .dead:=by rintro rfl;cases m'<;>simp[leM]at hl hm'
   have hl':leM a m m'=true∧leM b m m'=true:=by cases m<;>cases m'<;>simp[leM]at hl hm hm'⊢ <;>exact hl
   cases x with
   |inl y=>
    rw[Rel.alt_inl hm]at h
    rw[Rel.alt_inl hm']
    grind
   |inr z=>
    rw[Rel.alt_inr hm]at h
    rw[Rel.alt_inr hm']
    grind
 |int k=>
  intro S m m' p x cs h hl
  have hd:=h.cells 0 Nat.one_pos
  cases m'<;>first | exact hd | (cases m<;>first | (simp[leM]at hl;done) | exact h)
 |bool=>
  intro S m m' p x cs h hl
  have hd:=h.cells 0 Nat.one_pos
  cases m'<;>first | exact hd | (cases m<;>first | (simp[leM]at hl;done) | exact h)
 |str=>
  intro S m m' p x cs h hl
  have hd:=h.cells 0 Nat.one_pos
  cases m'<;>first | exact hd | (cases m<;>first | (simp[leM]at hl;done) | exact h)
 |nilI=>
  intro S m m' p x cs h hl
  have hd:=h.cells 0 Nat.one_pos
  cases m'<;>first | exact hd | (cases m<;>first | (simp[leM]at hl;done) | exact h)
structure Shr(q:Bool)(M:Md)(S S':St)(p:Place):Prop where
 F:∀b,S.F b→S'.F b∧S'.w.heap[b]?=S.w.heap[b]?
 B:q=true→∀b,S.B b→S'.G M b∧S'.w.heap[b]?=S.w.heap[b]?
 own:∀b r,S.own b=some (pa p r)→S'.G M b∧S'.w.heap[b]?=S.w.heap[b]?
def Shr.px{q:Bool}{M:Md}{S S':St}{p:Place}(h:Shr q M S S' p)(i:Nat):Shr q M S S' (px p i):=⟨h.F,h.B,fun b r hb=>h.own b (i::r) (by rw[←zcc];exact hb)⟩
def Shr.G{q:Bool}{M:Md}{S S':St}{p:Place}(h:Shr q M S S' p){m:Md}(hm:q=true∨m.nobw=true){b:Nat}(hb:S.G m b):S'.G M b∧S'.w.heap[b]?=S.w.heap[b]?:=by
 rcases hb with hb|⟨rfl,hb⟩
 ·exact⟨.inl (h.F b hb).1,(h.F b hb).2⟩
 ·exact h.B (hm.resolve_right (by simp[Md.nobw])) b hb
def Shr.fut{q:Bool}{M:Md}{S S' S'':St}{p:Place}(h:Shr q M S S' p){m:Md}(hm:q=true∨m.nobw=true)(hf:Fut M S' S''):Fut m S S'' where
 sh b hb:=hf.sh b (h.F b hb).1
 bw b hmb hb:=by
  subst hmb
  rcases(h.B (hm.resolve_right (by simp[Md.nobw])) b hb).1 with h1|⟨h1,h2⟩
  ·exact .inl (hf.sh b h1)
  ·exact hf.bw b h1 h2
 same b hb:=(hf.same b (h.G hm hb).1).trans (h.G hm hb).2
def Rel.share{q:Bool}{M:Md}(hM:M=.sh∨M=.bw):∀{t:Ty} {S S':St} {m:Md} {p p':Place} {x:t.den} {cs:Cs},Rel P t S m p x cs→(q=true∨m.nobw=true)→live t m=true→Shr q M S S' p→Rel P t S' M p' x cs:=by
 intro t
 have hl:M.l=M∧M.r=M:=by rcases hM with rfl|rfl<;>exact⟨rfl,rfl⟩
 induction t with
 |unit=>intro S S' m p p' x cs h hm hv hS;trivial
 |pair a b iha ihb=>
  intro S S' m p p' x cs h hm hv hS
  simp only[live,xan]at hv
  refine⟨?_,?_⟩
  ·rw[hl.1];exact iha h.1 (hm.imp id Md.nobw_l) hv.1 (hS.px 0)
  ·rw[hl.2];exact ihb h.2 (hm.imp id Md.nobw_r) hv.2 (hS.px 1)
 |arr n t ih=>
  intro S S' m p p' x cs h hm hv hS
  exact⟨h.1,fun i hi=>ih (h.2 i hi) hm hv (hS.px i)⟩
 |slice t ih=>
  intro S S' m p p' x cs h hm hv hS
  obtain⟨h1,h2,h3⟩:=h
  refine⟨h1,h2,?_⟩
  have goal:∃a len cap,cs 0=some (.slice a len cap)∧len=x.length∧len≤cap∧((x=[]∧cap=0)∨∃b o,a=some ⟨b,o,none⟩∧(x≠ []→S'.G M b)∧∀(i:Nat) (h:i<x.length),Rel P t S' M (Go.X.px p' i) x[i] (blk S'.w b (o+i*t.size))):=by
   have shbw:∀{m:Md},live t m=true→(q=true∨m.nobw=true)→(∃a len cap,cs 0=some (.slice a len cap)∧len=x.length∧len≤cap∧((x=[]∧cap=0)∨∃b o,a=some ⟨b,o,none⟩∧(x≠ []→S.G m b)∧∀(i:Nat) (h:i<x.length),Rel P t S m (Go.X.px p i) x[i] (blk S.w b (o+i*t.size)))) →
     ∃a len cap,cs 0=some (.slice a len cap)∧len=x.length∧len≤cap∧((x=[]∧cap=0)∨∃b o,a=some ⟨b,o,none⟩∧(x≠ []→S'.G M b)∧∀(i:Nat) (h:i<x.length),Rel P t S' M (Go.X.px p' i) x[i] (blk S'.w b (o+i*t.size))):=fun hlv hm ⟨a,len,cap,h1,h2,h3,h4⟩=>
    ⟨a,len,cap,h1,h2,h3,h4.imp id fun⟨b,o,h5,h6,h7⟩=>⟨b,o,h5,fun hne=>(hS.G hm (h6 hne)).1,fun i hi=>by
     rw[zky (hS.G hm (h6 (by rintro rfl;simp at hi))).2]
     exact ih (h7 i hi) hm hlv (hS.px i)⟩⟩
   cases m with
   |dead=>cases hv
   |pr=>exact h3.elim
   |sh=>exact shbw (zdd (.inl rfl) t) hm h3
   |bw=>exact shbw (zdd (.inr rfl) t) hm h3
   |own e k=>
    obtain⟨h3,h4⟩:=h3
    rcases h4 with⟨h4,h5⟩|⟨g,cap,cur,h4,h5,h6,h7,h8,h9,h10⟩
    ·grind
    ·have hg:=hS.own g [] (by rw[zct];exact h5)
     refine⟨_,_,_,by rw[h3,h4],rfl,h7,.inr ⟨g,0,rfl,fun _=>hg.1,fun i hi=>?_⟩⟩
     have hb:blk S'.w g (0+i*t.size)=fun j=>cur[i*t.size+j]?:=funext fun j=>by
      show S'.w.cell? ⟨g,0+i*t.size+j,none⟩=_
      rw[xdc,cell_of_row S'.w g _ cur e (0,0) (hg.2.trans h6)]
     rw[hb]
     exact ih (h10 i hi) hm hv (hS.px i)
  grind
 |ptr t ih=>
  intro S S' m p p' x cs h hm hv hS
  have goal:∃b o,cs 0=some (.pointer (some ⟨b,o,none⟩))∧(t.size≠0→S'.G M b)∧Rel P t S' M (Go.X.px p' 0) x (blk S'.w b o):=by
   have shbw:∀{m:Md},live t m=true→(q=true∨m.nobw=true)→(∃b o,cs 0=some (.pointer (some ⟨b,o,none⟩))∧(t.size≠0→S.G m b)∧Rel P t S m (Go.X.px p 0) x (blk S.w b o)) →
     ∃b o,cs 0=some (.pointer (some ⟨b,o,none⟩))∧(t.size≠0→S'.G M b)∧Rel P t S' M (Go.X.px p' 0) x (blk S'.w b o):=fun hlv hm ⟨b,o,h1,h2,h3⟩=>by
    have h4:=ih (p':=Go.X.px p' 0) h3 hm hlv (hS.px 0)
    refine⟨b,o,h1,fun hne=>(hS.G hm (h2 hne)).1,?_⟩
    by_cases h0:t.size=0
    ·exact h4.mono (q:=true) (.inl rfl) ⟨fun _ h=>h,fun _ _=>rfl,fun _ _ h=>.inr h,fun _ _ _=>rfl,fun _=>rfl,fun _ _ h=>⟨h,rfl⟩⟩ fun i hi=>by omega
    ·rw[zky (hS.G hm (h2 h0)).2];exact h4
   cases m with
   |dead=>cases hv
   |pr=>exact h.elim
   |sh=>exact shbw (zdd (.inl rfl) t) hm h
   |bw=>exact shbw (zdd (.inr rfl) t) hm h
   |own e k=>
    obtain⟨h3,g,cur,e,h4,h5,h6,h7,h8⟩:=h
    have hg:=hS.own g [] (by rw[zct];exact h5)
    refine⟨g,0,by rw[h3,h4],fun _=>hg.1,?_⟩
    have hb:blk S'.w g 0=fun j=>cur[j]?:=funext fun j=>by
     show S'.w.cell? ⟨g,0+j,none⟩=_
     rw[xdc,cell_of_row S'.w g _ cur e (0,0) (hg.2.trans h6)]
    rw[hb]
    exact ih h8 hm hv (hS.px 0)
  rcases hM with rfl|rfl<;>exact goal
 |int k=>intro S S' m p p' x cs h hm hv hS;rcases hM with rfl | rfl<;>cases m<;>first | exact h | (cases hv;done)
 |bool=>intro S S' m p p' x cs h hm hv hS;rcases hM with rfl | rfl<;>cases m<;>first | exact h | (cases hv;done)
 |str=>intro S S' m p p' x cs h hm hv hS;rcases hM with rfl | rfl<;>cases m<;>first | exact h | (cases hv;done)
 |nilI=>intro S S' m p p' x cs h hm hv hS;rcases hM with rfl | rfl<;>cases m<;>first | exact h | (cases hv;done)
 |fn1 a r iha ihr=>
  intro S S' m p p' x cs h hm hv hS
  have key:∀{m:Md},(q=true∨m.nobw=true)→Rel P (.fn1 a r) S m p x cs→m=.sh∨m=.bw→Rel P (.fn1 a r) S' M p' x cs:=fun{m} hm h hmm=>by
   have h':∃f caps,cs 0=some (.func (.func f) #[] caps)∧zcf P f∧∀(S':St) (y:a.den) (z:r.den),Fut m S S'→S'.WF→x y=some z→∀v,Rel P a S' .bw (0,[]) y (zab a v)→zgg a v →
    Calls P f (#[v]++caps) S'.w fun e w''=>∃u,e=.returned u∧Rel P r {S' with w:=w''} .sh (0,[]) z (zab r u)∧zgg r u∧Ext S'.w w'':=by rcases hmm with rfl|rfl<;>exact h
   obtain⟨f,caps,h1,h2,h3⟩:=h'
   have:∃f caps,cs 0=some (.func (.func f) #[] caps)∧zcf P f∧∀(S'':St) (y:a.den) (z:r.den),Fut M S' S''→S''.WF→x y=some z→∀v,Rel P a S'' .bw (0,[]) y (zab a v)→zgg a v →
    Calls P f (#[v]++caps) S''.w fun e w''=>∃u,e=.returned u∧Rel P r {S'' with w:=w''} .sh (0,[]) z (zab r u)∧zgg r u∧Ext S''.w w'':=
    ⟨f,caps,h1,h2,fun S'' y z hf hw hg v hv hagg=>h3 S'' y z (hS.fut hm hf) hw hg v hv hagg⟩
   rcases hM with rfl|rfl<;>exact this
  cases m with
  |dead=>cases hv
  |own=>exact h.elim
  |pr=>exact h.elim
  |sh=>exact key hm h (.inl rfl)
  |bw=>exact key hm h (.inr rfl)
 |fn2 a b r iha ihb ihr=>
  intro S S' m p p' x cs h hm hv hS
  have key:∀{m:Md},(q=true∨m.nobw=true)→Rel P (.fn2 a b r) S m p x cs→m=.sh∨m=.bw→Rel P (.fn2 a b r) S' M p' x cs:=fun{m} hm h hmm=>by
   have h':∃f caps,cs 0=some (.func (.func f) #[] caps)∧zcf P f∧∀(S':St) (y:a.den) (y':b.den) (z:r.den),Fut m S S'→S'.WF→x y y'=some z→∀v v',Rel P a S' .bw (0,[]) y (zab a v)→zgg a v →
    Rel P b S' .bw (0,[]) y' (zab b v')→zgg b v'→Calls P f (#[v,v']++caps) S'.w fun e w''=>∃u,e=.returned u∧Rel P r {S' with w:=w''} .sh (0,[]) z (zab r u)∧zgg r u∧Ext S'.w w'':=by rcases hmm with rfl|rfl<;>exact h
   obtain⟨f,caps,h1,h2,h3⟩:=h'
   have:∃f caps,cs 0=some (.func (.func f) #[] caps)∧zcf P f∧∀(S'':St) (y:a.den) (y':b.den) (z:r.den),Fut M S' S''→S''.WF→x y y'=some z→∀v v',Rel P a S'' .bw (0,[]) y (zab a v)→zgg a v →
    Rel P b S'' .bw (0,[]) y' (zab b v')→zgg b v'→Calls P f (#[v,v']++caps) S''.w fun e w''=>∃u,e=.returned u∧Rel P r {S'' with w:=w''} .sh (0,[]) z (zab r u)∧zgg r u∧Ext S''.w w'':=
    ⟨f,caps,h1,h2,fun S'' y y' z hf hw hg v v' hv hagg hv' hagg'=>h3 S'' y y' z (hS.fut hm hf) hw hg v v' hv hagg hv' hagg'⟩
   rcases hM with rfl|rfl<;>exact this
  cases m with
  |dead=>cases hv
  |own=>exact h.elim
  |pr=>exact h.elim
  |sh=>exact key hm h (.inl rfl)
  |bw=>exact key hm h (.inr rfl)
 |alt tid a b iha ihb=>
  intro S S' m p p' x cs h hm hv hS
  have hmd:m≠ .dead:=by rintro rfl;cases hv
  have hMd:M≠ .dead:=by rcases hM with rfl|rfl<;>simp
  have hv':live a m=true∧live b m=true:=by cases m<;>first | (simp only[live,xan]at hv;exact hv) | (cases hv;done)
  cases x with
  |inl y=>
   rw[Rel.alt_inl hmd]at h
   rw[Rel.alt_inl hMd]
   obtain⟨v,h1,h2,h3⟩:=h
   exact⟨v,h1,iha h2 hm hv'.1 (hS.px 0),h3⟩
  |inr z=>
   rw[Rel.alt_inr hmd]at h
   rw[Rel.alt_inr hMd]
   exact⟨h.1,ihb h.2 hm hv'.2 (hS.px 1)⟩
def Fut.G{M:Md}(hM:M=.sh∨M=.bw){S S':St}(h:Fut M S S'){b:Nat}(hb:S.G M b):S'.G M b:=by
 rcases hb with hb|⟨rfl,hb⟩
 ·exact .inl (h.sh b hb)
 ·exact(h.bw b rfl hb).imp id fun h=>⟨rfl,h⟩
def Fut.trans{M:Md}(hM:M=.sh∨M=.bw){S S' S'':St}(h:Fut M S S')(k:Fut M S' S''):Fut M S S'' where
 sh b hb:=k.sh b (h.sh b hb)
 bw b hm hb:=(h.bw b hm hb).elim (fun h=>.inl (k.sh b h)) fun h=>k.bw b hm h
 same b hb:=(k.same b (h.G hM hb)).trans (h.same b hb)
def Rel.fut{M:Md}(hM:M=.sh∨M=.bw):∀{t:Ty} {S S':St} {p p':Place} {x:t.den} {cs cs':Cs},Rel P t S M p x cs→Fut M S S'→(∀i,i<t.size→cs' i=cs i)→Rel P t S' M p' x cs':=by
 intro t
 have hl:M.l=M∧M.r=M:=by rcases hM with rfl|rfl<;>exact⟨rfl,rfl⟩
 induction t with
 |int k=>intro S S' p p' x cs cs' h hf hc;have h0:=hc 0 Nat.one_pos;rcases hM with rfl | rfl<;>exact⟨h0.trans h.1,h.2⟩
 |bool=>intro S S' p p' x cs cs' h hf hc;have h0:=hc 0 Nat.one_pos;rcases hM with rfl | rfl<;>exact h0.trans h
 |str=>intro S S' p p' x cs cs' h hf hc;have h0:=hc 0 Nat.one_pos;rcases hM with rfl | rfl<;>(obtain⟨s,h1,h2⟩:=h;exact⟨s,h0.trans h1,h2⟩)
 |unit=>intro S S' p p' x cs cs' h hf hc;trivial
 |nilI=>intro S S' p p' x cs cs' h hf hc;have h0:=hc 0 Nat.one_pos;rcases hM with rfl | rfl<;>exact h0.trans h
 |pair a b iha ihb=>
  intro S S' p p' x cs cs' h hf hc
  simp only[Ty.size]at hc
  obtain⟨h1,h2⟩:=h
  rw[hl.1]at h1
  rw[hl.2]at h2
  refine⟨?_,?_⟩
  ·grind
  ·grind
 |arr n t ih=>
  intro S S' p p' x cs cs' h hf hc
  simp only[Ty.size]at hc
  refine⟨h.1,fun i hi=>ih (h.2 i hi) hf fun j hj=>hc _ ?_⟩
  have:=h.1
  have:(i+1)*t.size≤n*t.size:=xav _ (by omega)
  grind
 |slice t ih=>
  intro S S' p p' x cs cs' h hf hc
  have h0:=hc 0 Nat.one_pos
  obtain⟨h1,h2,h3⟩:=h
  refine⟨h1,h2,?_⟩
  have h3':∃a len cap,cs 0=some (.slice a len cap)∧len=x.length∧len≤cap∧((x=[]∧cap=0)∨∃b o,a=some ⟨b,o,none⟩∧(x≠ []→S.G M b)∧∀(i:Nat) (h:i<x.length),Rel P t S M (Go.X.px p i) x[i] (blk S.w b (o+i*t.size))):=by rcases hM with rfl|rfl<;>exact h3
  obtain⟨a,len,cap,h4,h5,h6,h7⟩:=h3'
  have goal:∃a len cap,cs' 0=some (.slice a len cap)∧len=x.length∧len≤cap∧((x=[]∧cap=0)∨∃b o,a=some ⟨b,o,none⟩∧(x≠ []→S'.G M b)∧∀(i:Nat) (h:i<x.length),Rel P t S' M (Go.X.px p' i) x[i] (blk S'.w b (o+i*t.size))):=
   ⟨a,len,cap,h0.trans h4,h5,h6,h7.imp id fun⟨b,o,h8,h9,h10⟩=>⟨b,o,h8,fun hne=>hf.G hM (h9 hne),fun i hi=>ih (h10 i hi) hf fun j _=>by rw[zky (hf.same b (h9 (by rintro rfl;simp at hi)))]⟩⟩
  grind
 |ptr t ih=>
  intro S S' p p' x cs cs' h hf hc
  have h0:=hc 0 Nat.one_pos
  have h':∃b o,cs 0=some (.pointer (some ⟨b,o,none⟩))∧(t.size≠0→S.G M b)∧Rel P t S M (Go.X.px p 0) x (blk S.w b o):=by rcases hM with rfl|rfl<;>exact h
  obtain⟨b,o,h1,h2,h3⟩:=h'
  have goal:∃b o,cs' 0=some (.pointer (some ⟨b,o,none⟩))∧(t.size≠0→S'.G M b)∧Rel P t S' M (Go.X.px p' 0) x (blk S'.w b o):=
   ⟨b,o,h0.trans h1,fun hne=>hf.G hM (h2 hne),ih h3 hf fun j hj=>by rw[zky (hf.same b (h2 (by omega)))]⟩
  rcases hM with rfl|rfl<;>exact goal
 |fn1 a r iha ihr=>
  intro S S' p p' x cs cs' h hf hc
  have h0:=hc 0 Nat.one_pos
  rcases hM with rfl|rfl<;>(obtain⟨f,caps,h1,h2,h3⟩:=h;exact⟨f,caps,h0.trans h1,h2,fun S'' y z hf' hw hg v hv hagg=>h3 S'' y z (hf.trans (by simp) hf') hw hg v hv hagg⟩)
 |fn2 a b r iha ihb ihr=>
  intro S S' p p' x cs cs' h hf hc
  have h0:=hc 0 Nat.one_pos
  rcases hM with rfl|rfl<;>(obtain⟨f,caps,h1,h2,h3⟩:=h;exact⟨f,caps,h0.trans h1,h2,fun S'' y y' z hf' hw hg v v' hv hagg hv' hagg'=>h3 S'' y y' z (hf.trans (by simp) hf') hw hg v v' hv hagg hv' hagg'⟩)
 |alt tid a b iha ihb=>
  intro S S' p p' x cs cs' h hf hc
  have h0:=hc 0 Nat.one_pos
  have hmd:M≠ .dead:=by rcases hM with rfl|rfl<;>simp
  cases x with
  |inl y=>
   rw[Rel.alt_inl hmd]at h ⊢
   grind
  |inr z=>
   rw[Rel.alt_inr hmd]at h ⊢
   grind
def WT:(t:Ty)→t.den→Prop
 | .int k,n=>k.wrap n=n
 | .str,x=>x.length≤maxL∧∀c∈x,0≤c∧c<256
 | .pair a b,x=>WT a x.1∧WT b x.2
 | .arr n t,xs=>xs.length=n∧∀x∈xs,WT t x
 | .slice t,xs=>xs.length≤maxL∧∀x∈xs,WT t x
 | .ptr t,x=>WT t x
 | .alt _ a b,x=>match x with
  | .inl y=>WT a y
  | .inr z=>WT b z
 |_,_=>True
def Rel.wt:∀{t:Ty} {S:St} {m:Md} {p:Place} {x:t.den} {cs:Cs},Rel P t S m p x cs→live t m=true→WT t x:=by
 intro t
 induction t with
 |int k=>intro S m p x cs h hv;cases m<;>first | exact h.2 | (cases hv;done)
 |bool=>intro S m p x cs h hv;trivial
 |unit=>intro S m p x cs h hv;trivial
 |nilI=>intro S m p x cs h hv;trivial
 |fn1=>intro S m p x cs h hv;trivial
 |fn2=>intro S m p x cs h hv;trivial
 |str=>
  intro S m p x cs h hv
  have:∃s:ByteArray,cs 0=some (.string s)∧s.data.toList.map (fun c=>(c.toNat:Int))=x∧x.length≤maxL:=by cases m<;>first | exact h | (cases hv;done)
  obtain⟨s,_,h1,h2⟩:=this
  refine⟨h2,fun c hc=>?_⟩
  rw[←h1,xdg]at hc
  obtain⟨d,_,rfl⟩:=hc
  have:=d.toNat_lt
  grind
 |pair a b iha ihb=>
  intro S m p x cs h hv
  simp only[live,xan]at hv
  exact⟨iha h.1 hv.1,ihb h.2 hv.2⟩
 |arr n t ih=>
  intro S m p x cs h hv
  refine⟨h.1,fun y hy=>?_⟩
  obtain⟨i,hi,rfl⟩:=xcm hy
  exact ih (h.2 i hi) hv
 |slice t ih=>
  intro S m p x cs h hv
  obtain⟨h1,h2,h3⟩:=h
  refine⟨h1,fun y hy=>?_⟩
  obtain⟨i,hi,rfl⟩:=xcm hy
  cases m with
  |dead=>cases hv
  |pr=>cases hv
  |own e k=>
   rcases h3.2 with⟨_,h4⟩|⟨g,cap,cur,_,_,_,_,_,_,h4⟩
   ·subst h4;simp at hi
   ·exact ih (h4 i hi) hv
  |sh=>
   obtain⟨a,len,cap,_,h5,h6,h7⟩:=h3
   rcases h7 with⟨_,h8⟩|⟨b,o,_,_,h8⟩
   ·omega
   ·exact ih (h8 i hi) (zdd (.inl rfl) t)
  |bw=>
   obtain⟨a,len,cap,_,h5,h6,h7⟩:=h3
   rcases h7 with⟨_,h8⟩|⟨b,o,_,_,h8⟩
   ·omega
   ·exact ih (h8 i hi) (zdd (.inr rfl) t)
 |ptr t ih=>
  intro S m p x cs h hv
  cases m with
  |dead=>cases hv
  |pr=>cases hv
  |own e k=>obtain⟨_,g,cur,_,_,_,_,_,h4⟩:=h;exact ih h4 hv
  |sh=>obtain⟨b,o,_,_,h4⟩:=h;exact ih h4 (zdd (.inl rfl) t)
  |bw=>obtain⟨b,o,_,_,h4⟩:=h;exact ih h4 (zdd (.inr rfl) t)
 |alt tid a b iha ihb=>
  intro S m p x cs h hv
  have hmd:m≠ .dead:=by rintro rfl;cases hv
  have hv':live a m=true∧live b m=true:=by cases m<;>first | (simp only[live,xan]at hv;exact hv) | (cases hv;done)
  cases x with
  |inl y=>rw[Rel.alt_inl hmd]at h;obtain⟨v,_,h2,_⟩:=h;exact iha h2 hv'.1
  |inr z=>rw[Rel.alt_inr hmd]at h;exact ihb h.2 hv'.2
end
structure TV where
 t:Ty
 x:t.den
def TV.to(y:TV)(t:Ty):Option t.den:=if h:y.t=t then some (h▸y.x)else none
def TV.to_some{y:TV}{t:Ty}{x:t.den}(h:y.to t=some x):y=⟨t,x⟩:=by
 obtain⟨s,y⟩:=y
 unfold TV.to at h
 grind
def getP:(π:List Nat)→(t:Ty)→t.den→Option TV
 | [],t,x=>some ⟨t,x⟩
 |i::π,.pair a b,x=>match i with
  | 0=>getP π a x.1
  | 1=>getP π b x.2
  |_=>none
 |i::π,.arr _ t,xs=>getP π t (xs.getD i t.dflt)
 |i::π,.slice t,xs=>getP π t (xs.getD i t.dflt)
 |i::π,.ptr t,x=>match i with
  | 0=>getP π t x
  |_=>none
 |_,_,_=>none
def setP:(π:List Nat)→(t:Ty)→t.den→TV→Option t.den
 | [],t,_,y=>y.to t
 |i::π,.pair a b,x,y=>match i with
  | 0=>(setP π a x.1 y).map fun z=>(z,x.2)
  | 1=>(setP π b x.2 y).map fun z=>(x.1,z)
  |_=>none
 |i::π,.arr _ t,xs,y=>(setP π t (xs.getD i t.dflt) y).map fun z=>xs.set i z
 |i::π,.slice t,xs,y=>(setP π t (xs.getD i t.dflt) y).map fun z=>xs.set i z
 |i::π,.ptr t,x,y=>match i with
  | 0=>setP π t x y
  |_=>none
 |_,_,_,_=>none
def zbe:(π:List Nat)→Ty→Md→Option Md
 | [],_,m=>some m
 |i::π,.pair a b,m=>match i with
  | 0=>zbe π a m.l
  | 1=>zbe π b m.r
  |_=>none
 |_::π,.arr _ t,m=>zbe π t m
 |_::π,.slice t,.own _ k=>zbe π t k
 |i::π,.ptr t,.own _ k=>match i with
  | 0=>zbe π t k
  |_=>none
 |_,_,_=>none
def setM:(π:List Nat)→Ty→Md→Md→Option Md
 | [],_,_,m'=>some m'
 |i::π,.pair a b,m,m'=>match i with
  | 0=>(setM π a m.l m').map fun k=>.pr k m.r
  | 1=>(setM π b m.r m').map fun k=>.pr m.l k
  |_=>none
 |_::π,.arr _ t,m,m'=>(setM π t m m').bind fun k=>if leM t k m then some m else none
 |_::π,.slice t,.own e k,m'=>(setM π t k m').bind fun j=>if leM t j k then some (.own e k)else none
 |i::π,.ptr t,.own e k,m'=>match i with
  | 0=>(setM π t k m').map fun j=>.own e j
  |_=>none
 |_,_,_,_=>none
def locP:(π:List Nat)→Ty→Option (Option (List Nat)×Nat)
 | [],_=>some (none,0)
 |i::π,.pair a b=>match i with
  | 0=>(locP π a).map fun l=>(l.1.map (0::·),l.2)
  | 1=>(locP π b).map fun l=>match l with | (none,o)=>(none,a.size+o) | (some q,o)=>(some (1::q),o)
  |_=>none
 |i::π,.arr _ t=>(locP π t).map fun l=>match l with | (none,o)=>(none,i*t.size+o) | (some q,o)=>(some (i::q),o)
 |i::π,.slice t=>(locP π t).map fun l=>match l with | (none,o)=>(some [],i*t.size+o) | (some q,o)=>(some (i::q),o)
 |i::π,.ptr t=>match i with
  | 0=>(locP π t).map fun l=>match l with | (none,o)=>(some [],o) | (some q,o)=>(some (0::q),o)
  |_=>none
 |_,_=>none
def okP(S:St):(π:List Nat)→Ty→Place→Prop
 | [],_,_=>True
 |i::π,.pair a b,p=>match i with
  | 0=>okP S π a (px p 0)
  | 1=>okP S π b (px p 1)
  |_=>False
 |i::π,.arr n t,p=>i<n∧okP S π t (px p i)
 |i::π,.slice t,p=>(∃b len cap,S.hv p=.slice (some ⟨b,0,none⟩) len cap∧i<len)∧okP S π t (px p i)
 |i::π,.ptr t,p=>match i with
  | 0=>okP S π t (px p 0)
  |_=>False
 |_,_,_=>False
def hvB:Value→Option Nat
 | .pointer (some ⟨b,0,none⟩)=>some b
 | .slice (some ⟨b,0,none⟩) _ _=>some b
 |_=>none
section
variable {P:Program}
def zec{α:Type}{xs:List α}{i:Nat}(h:i<xs.length)(d:α):xs.getD i d=xs[i]:=by simp[xae,h]
def Rel.at{S:St}:∀{π:List Nat} {t:Ty} {m k:Md} {p:Place} {x:t.den} {cs:Cs},Rel P t S m p x cs→zbe π t m=some k→okP S π t p →
  ∃(s:Ty) (y:s.den) (l:Option (List Nat)×Nat) (cs':Cs),getP π t x=some ⟨s,y⟩∧locP π t=some l∧Rel P s S k (pa p π) y cs' ∧
   match l with
   |(none,o)=>cs'=fun i=>cs (o+i)
   |(some q,o)=>∃b,hvB (S.hv (pa p q))=some b∧S.own b=some (pa p q)∧cs'=blk S.w b o∧∃cur e,S.w.heap[b]?=some (.cells cur e (0,0))
 | [],t,m,k,p,x,cs,h,hm,_=>by
  simp only[zbe,xat]at hm
  subst hm
  exact⟨t,x,(none,0),cs,rfl,rfl,by rw[zct];exact h,by simp⟩
 |i::π,.pair a b,m,k,p,x,cs,h,hm,ho=>by
  match i with
  | 0=>
   simp only[zbe]at hm
   obtain⟨s,y,l,cs',h1,h2,h3,h4⟩:=Rel.at h.1 hm ho
   refine⟨s,y,(l.1.map (0::·),l.2),cs',by simpa[getP]using h1,by simp[locP,h2],by rw[←zcc];exact h3,?_⟩
   obtain⟨q,o⟩:=l
   cases q with
   |none=>exact h4
   |some q=>simp only[zcc]at h4;exact h4
  | 1=>
   simp only[zbe]at hm
   obtain⟨s,y,l,cs',h1,h2,h3,h4⟩:=Rel.at h.2 hm ho
   obtain⟨q,o⟩:=l
   cases q with
   |none=>exact⟨s,y,(none,a.size+o),cs',by simpa[getP]using h1,by simp[locP,h2],by rw[←zcc];exact h3,by rw[h4];funext i;rw[xdm]⟩
   |some q=>exact⟨s,y,(some (1::q),o),cs',by simpa[getP]using h1,by simp[locP,h2],by rw[←zcc];exact h3,by simpa only[zcc]using h4⟩
  |i+2=>simp[zbe]at hm
 |i::π,.arr n t,m,k,p,x,cs,h,hm,ho=>by
  have hm':zbe π t m=some k:=by cases i<;>(try rename_i j;cases j)<;>exact hm
  have ho':i<n∧okP S π t (px p i):=by cases i<;>(try rename_i j;cases j)<;>exact ho
  have hi:i<x.length:=by rw[h.1];exact ho'.1
  obtain⟨s,y,l,cs',h1,h2,h3,h4⟩:=Rel.at (h.2 i hi) hm' ho'.2
  have hg:getP (i::π) (.arr n t) x=getP π t x[i]:=by
   have:getP (i::π) (.arr n t) x=getP π t (x.getD i t.dflt):=by cases i<;>(try rename_i j;cases j)<;>rfl
   rw[this,zec hi]
  have hl:locP (i::π) (.arr n t)=(locP π t).map fun l=>match l with | (none,o)=>(none,i*t.size+o) | (some q,o)=>(some (i::q),o):=by cases i<;>(try rename_i j;cases j)<;>rfl
  obtain⟨q,o⟩:=l
  cases q with
  |none=>exact⟨s,y,(none,i*t.size+o),cs',by rw[hg];exact h1,by rw[hl,h2];rfl,by rw[←zcc];exact h3,by rw[h4];funext i;rw[xdm]⟩
  |some q=>exact⟨s,y,(some (i::q),o),cs',by rw[hg];exact h1,by rw[hl,h2];rfl,by rw[←zcc];exact h3,by simpa only[zcc]using h4⟩
 |i::π,.slice t,m,k,p,x,cs,h,hm,ho=>by
  have ho':(∃b len cap,S.hv p=.slice (some ⟨b,0,none⟩) len cap∧i<len)∧okP S π t (px p i):=by cases i<;>(try rename_i j;cases j)<;>exact ho
  have hm0:∃e k',m=.own e k'∧zbe π t k'=some k:=by
   cases m<;>first | (cases i<;>(try rename_i j;cases j)<;>simp[zbe]at hm;done) | skip
   rename_i e k'
   exact⟨e,k',rfl,by cases i<;>(try rename_i j;cases j)<;>exact hm⟩
  obtain⟨e,k',rfl,hm'⟩:=hm0
  obtain⟨hml,hsz,h1,h2⟩:=h
  obtain⟨⟨b,len,cap,hb,hi⟩,ho'⟩:=ho'
  rcases h2 with⟨h2,_⟩|⟨g,cap',cur,h2,h3,h4,h5,h6,h7,h8⟩
  ·rw[h2]at hb;cases hb
  rw[h2]at hb
  cases hb
  obtain⟨s,y,l,cs',h9,h10,h11,h12⟩:=Rel.at (h8 i hi) hm' ho'
  have hg:getP (i::π) (.slice t) x=getP π t x[i]:=by
   have:getP (i::π) (.slice t) x=getP π t (x.getD i t.dflt):=by cases i<;>(try rename_i j;cases j)<;>rfl
   rw[this,zec hi]
  have hl:locP (i::π) (.slice t)=(locP π t).map fun l=>match l with | (none,o)=>(some [],i*t.size+o) | (some q,o)=>(some (i::q),o):=by cases i<;>(try rename_i j;cases j)<;>rfl
  obtain⟨q,o⟩:=l
  cases q with
  |none=>
   refine⟨s,y,(some [],i*t.size+o),cs',by rw[hg];exact h9,by rw[hl,h10];rfl,by rw[←zcc];exact h11,b,by rw[zct,h2];rfl,by rw[zct];exact h3,?_,cur,e,h4⟩
   rw[h12]
   funext j
   show _=S.w.cell? ⟨b,i*t.size+o+j,none⟩
   rw[cell_of_row S.w b _ cur e (0,0) h4,xdm]
  |some q=>exact⟨s,y,(some (i::q),o),cs',by rw[hg];exact h9,by rw[hl,h10];rfl,by rw[←zcc];exact h11,by simpa only[zcc]using h12⟩
 |i::π,.ptr t,m,k,p,x,cs,h,hm,ho=>by
  match i with
  |i+1=>cases m<;>simp[zbe]at hm
  | 0=>
   cases m<;>first | (simp[zbe]at hm;done) | skip
   rename_i e0 k'
   simp only[zbe]at hm
   obtain⟨h1,g,cur,e,h2,h3,h4,h5,h6⟩:=h
   obtain⟨s,y,l,cs',h9,h10,h11,h12⟩:=Rel.at h6 hm ho
   obtain⟨q,o⟩:=l
   cases q with
   |none=>
    refine⟨s,y,(some [],o),cs',by simpa[getP]using h9,by simp[locP,h10],by rw[←zcc];exact h11,g,by rw[zct,h2];rfl,by rw[zct];exact h3,?_,cur,e,h4⟩
    rw[h12]
    funext j
    show _=S.w.cell? ⟨g,o+j,none⟩
    rw[cell_of_row S.w g _ cur e (0,0) h4]
   |some q=>exact⟨s,y,(some (0::q),o),cs',by simpa[getP]using h9,by simp[locP,h10],by rw[←zcc];exact h11,by simpa only[zcc]using h12⟩
 |_::_,.int _,_,_,_,_,_,_,hm,_=>by simp[zbe]at hm
 |_::_,.bool,_,_,_,_,_,_,hm,_=>by simp[zbe]at hm
 |_::_,.str,_,_,_,_,_,_,hm,_=>by simp[zbe]at hm
 |_::_,.unit,_,_,_,_,_,_,hm,_=>by simp[zbe]at hm
 |_::_,.fn1 _ _,_,_,_,_,_,_,hm,_=>by simp[zbe]at hm
 |_::_,.fn2 _ _ _,_,_,_,_,_,_,hm,_=>by simp[zbe]at hm
 |_::_,.alt _ _ _,_,_,_,_,_,_,hm,_=>by simp[zbe]at hm
 |_::_,.nilI,_,_,_,_,_,_,hm,_=>by simp[zbe]at hm
end
def zkw(i:Nat)(π:List Nat)(n:Nat)(t:Ty)(xs:List t.den):getP (i::π) (.arr n t) xs=getP π t (xs.getD i t.dflt):=by cases i<;>(try rename_i j;cases j)<;>rfl
def zof(i:Nat)(π:List Nat)(t:Ty)(xs:List t.den):getP (i::π) (.slice t) xs=getP π t (xs.getD i t.dflt):=by cases i<;>(try rename_i j;cases j)<;>rfl
def zpt(i:Nat)(π:List Nat)(n:Nat)(t:Ty)(xs:List t.den)(y:TV):setP (i::π) (.arr n t) xs y=(setP π t (xs.getD i t.dflt) y).map fun z=>xs.set i z:=by cases i<;>(try rename_i j;cases j)<;>rfl
def ztv(i:Nat)(π:List Nat)(t:Ty)(xs:List t.den)(y:TV):setP (i::π) (.slice t) xs y=(setP π t (xs.getD i t.dflt) y).map fun z=>xs.set i z:=by cases i<;>(try rename_i j;cases j)<;>rfl
def modeP_arr(i:Nat)(π:List Nat)(n:Nat)(t:Ty)(m:Md):zbe (i::π) (.arr n t) m=zbe π t m:=by cases i<;>(try rename_i j;cases j)<;>rfl
def modeP_slice(i:Nat)(π:List Nat)(t:Ty)(e:TypeId)(k:Md):zbe (i::π) (.slice t) (.own e k)=zbe π t k:=by cases i<;>(try rename_i j;cases j)<;>rfl
def zvp(i:Nat)(π:List Nat)(n:Nat)(t:Ty)(m m':Md):setM (i::π) (.arr n t) m m'=(setM π t m m').bind fun k=>if leM t k m then some m else none:=by cases i<;>(try rename_i j;cases j)<;>rfl
def ztw(i:Nat)(π:List Nat)(t:Ty)(e:TypeId)(k m':Md):setM (i::π) (.slice t) (.own e k) m'=(setM π t k m').bind fun j=>if leM t j k then some (.own e k)else none:=by cases i<;>(try rename_i j;cases j)<;>rfl
def zej(i:Nat)(π:List Nat)(n:Nat)(t:Ty):locP (i::π) (.arr n t)=(locP π t).map fun l=>match l with | (none,o)=>(none,i*t.size+o) | (some q,o)=>(some (i::q),o):=by cases i<;>(try rename_i j;cases j)<;>rfl
def zeb(i:Nat)(π:List Nat)(t:Ty):locP (i::π) (.slice t)=(locP π t).map fun l=>match l with | (none,o)=>(some [],i*t.size+o) | (some q,o)=>(some (i::q),o):=by cases i<;>(try rename_i j;cases j)<;>rfl
def zew{S:St}(i:Nat)(π:List Nat)(n:Nat)(t:Ty)(p:Place):okP S (i::π) (.arr n t) p=(i<n∧okP S π t (px p i)):=by cases i<;>(try rename_i j;cases j)<;>rfl
def zfp{S:St}(i:Nat)(π:List Nat)(t:Ty)(p:Place):okP S (i::π) (.slice t) p=((∃b len cap,S.hv p=.slice (some ⟨b,0,none⟩) len cap∧i<len)∧okP S π t (px p i)):=by cases i<;>(try rename_i j;cases j)<;>rfl
def zld{i:Nat}{π:List Nat}{t:Ty}{m m' k:Md}(h:setM (i::π) (.slice t) m k=some m'):∃e j,m=.own e j:=by
 cases m<;>first | exact⟨_,_,rfl⟩ | (cases i<;>(try rename_i j;cases j)<;>cases h)
structure Fr(S S':St)(p:Place)(π:List Nat)(b0:Option Nat):Prop where
 F:∀b,S.F b→S'.F b
 sF:∀b,S.F b→S'.w.heap[b]?=S.w.heap[b]?
 B:∀b,S.B b→S'.F b∨S'.B b
 sB:∀b,S.B b→S'.w.heap[b]?=S.w.heap[b]?
 hv:∀r,¬π <+: r→S'.hv (pa p r)=S.hv (pa p r)
 own:∀b r,¬π <+: r→S.own b=some (pa p r)→S'.own b=some (pa p r)∧(some b≠b0→S'.w.heap[b]?=S.w.heap[b]?)
def Fr.sub{S S':St}{p:Place}{i:Nat}{π:List Nat}{b0:Option Nat}(h:Fr S S' p (i::π) b0):Fr S S' (px p i) π b0 where
 F:=h.F
 sF:=h.sF
 B:=h.B
 sB:=h.sB
 hv r hr:=by rw[zcc];exact h.hv _ fun hp=>hr (xif.1 hp).2
 own b r hr hb:=by rw[zcc]at hb ⊢;exact h.own b _ (fun hp=>hr (xif.1 hp).2) hb
def Fr.none_of{S S':St}{p:Place}{π:List Nat}{b0:Nat}(h:Fr S S' p π (some b0))(hb:∀r,S.own b0≠some (pa p r)):Fr S S' p π none where
 F:=h.F
 sF:=h.sF
 B:=h.B
 sB:=h.sB
 hv:=h.hv
 own b r hr hbo:=⟨(h.own b r hr hbo).1,fun _=>(h.own b r hr hbo).2 fun he=>hb r (by cases he;exact hbo)⟩
def zpa{p:Place}{q r:List Nat}(h:pa p q=pa p r):q=r:=by simpa[pa]using h
def Fr.side{S S':St}{p:Place}{i j:Nat}{π:List Nat}{b0:Option Nat}(h:Fr S S' p (i::π) b0)(hij:j≠i)(hb:∀b r,b0=some b→S.own b≠some (pa p (j::r))):Tr true S S' (px p j) (px p j) where
 F:=h.F
 sF:=h.sF
 B _:=h.B
 sB _:=h.sB
 hv r:=by rw[zcc];exact h.hv _ fun hp=>hij (xif.1 hp).1.symm
 own b r hbo:=by
  rw[zcc]at hbo ⊢
  have:=h.own b _ (fun hp=>hij (xif.1 hp).1.symm) hbo
  grind
section
variable {P:Program}
def zpe{S:St}{s:Ty}{y:s.den}:∀{π:List Nat} {t:Ty} {p:Place} {x x':t.den} {o:Nat},locP π t=some (none,o)→setP π t x ⟨s,y⟩=some x'→okP S π t p→o+s.size≤t.size
 | [],t,p,x,x',o,hl,hs,_=>by
  simp only[locP,xat,xba,xgt]at hl
  have:=TV.to_some hs
  cases this
  omega
 |i::π,.pair a b,p,x,x',o,hl,hs,ho=>by
  match i with
  | 0=>
   simp only[locP,xad]at hl
   obtain⟨⟨q,o'⟩,h1,h2⟩:=hl
   simp only[xba,xgq]at h2
   obtain⟨rfl,rfl⟩:=h2
   simp only[setP,xad]at hs
   obtain⟨z,h3,h4⟩:=hs
   have:=zpe h1 h3 ho
   simp only[Ty.size]
   omega
  | 1=>
   simp only[locP,xad]at hl
   obtain⟨⟨q,o'⟩,h1,h2⟩:=hl
   cases q with
   |some q=>simp at h2
   |none=>
    simp only[xba,xgt]at h2
    subst h2
    simp only[setP,xad]at hs
    obtain⟨z,h3,h4⟩:=hs
    have:=zpe h1 h3 ho
    simp only[Ty.size]
    omega
  |i+2=>simp[locP]at hl
 |i::π,.arr n t,p,x,x',o,hl,hs,ho=>by
  rw[zej]at hl
  rw[zew]at ho
  rw[zpt]at hs
  simp only[xad]at hl hs
  obtain⟨⟨q,o'⟩,h1,h2⟩:=hl
  cases q with
  |some q=>simp at h2
  |none=>
   simp only[xba,xgt]at h2
   subst h2
   obtain⟨z,h3,h4⟩:=hs
   have:=zpe h1 h3 ho.2
   have hm:(i+1)*t.size≤n*t.size:=xav _ ho.1
   rw[xcl]at hm
   simp only[Ty.size]
   omega
 |i::π,.slice t,p,x,x',o,hl,hs,ho=>by
  rw[zeb]at hl
  simp only[xad]at hl
  obtain⟨⟨q,o'⟩,h1,h2⟩:=hl
  cases q<;>simp at h2
 |i::π,.ptr t,p,x,x',o,hl,hs,ho=>by
  match i with
  | 0=>
   simp only[locP,xad]at hl
   obtain⟨⟨q,o'⟩,h1,h2⟩:=hl
   cases q<;>simp at h2
  |i+1=>simp[locP]at hl
 |_::_,.int _,_,_,_,_,hl,_,_=>by simp[locP]at hl
 |_::_,.bool,_,_,_,_,hl,_,_=>by simp[locP]at hl
 |_::_,.str,_,_,_,_,hl,_,_=>by simp[locP]at hl
 |_::_,.unit,_,_,_,_,hl,_,_=>by simp[locP]at hl
 |_::_,.fn1 _ _,_,_,_,_,hl,_,_=>by simp[locP]at hl
 |_::_,.fn2 _ _ _,_,_,_,_,hl,_,_=>by simp[locP]at hl
 |_::_,.alt _ _ _,_,_,_,_,hl,_,_=>by simp[locP]at hl
 |_::_,.nilI,_,_,_,_,hl,_,_=>by simp[locP]at hl
def Rel.updA{S S':St}{s:Ty}{y:s.den}{k:Md}:∀{π:List Nat} {t:Ty} {m m':Md} {p:Place} {x x':t.den} {cs cs':Cs} {o:Nat},Rel P t S m p x cs→locP π t=some (none,o)→setM π t m k=some m' →
  setP π t x ⟨s,y⟩=some x'→okP S π t p→Fr S S' p π none→(∀i,i<t.size→i<o∨o+s.size≤i→cs' i=cs i)→Rel P s S' k (pa p π) y (fun i=>cs' (o+i))→Rel P t S' m' p x' cs'
 | [],t,m,m',p,x,x',cs,cs',o,h,hl,hm,hs,ho,hF,hc,hy=>by
  simp only[locP,xat,xba,xgt]at hl
  simp only[setM,xat]at hm
  subst hl hm
  have:=TV.to_some hs
  cases this
  rw[zct]at hy
  simpa using hy
 |i::π,.pair a b,m,m',p,x,x',cs,cs',o,h,hl,hm,hs,ho,hF,hc,hy=>by
  match i with
  | 0=>
   simp only[locP,xad]at hl
   obtain⟨⟨q,o'⟩,h1,h2⟩:=hl
   simp only[xba,xgq]at h2
   obtain⟨rfl,rfl⟩:=h2
   simp only[setP,xad]at hs
   obtain⟨z,h3,rfl⟩:=hs
   simp only[setM,xad]at hm
   obtain⟨k',h4,rfl⟩:=hm
   have he:=zpe h1 h3 ho
   rw[←zcc]at hy
   refine⟨Rel.updA h.1 h1 h4 h3 ho hF.sub (fun i hi hio=>hc i (by simp only[Ty.size];omega) hio) hy,?_⟩
   exact h.2.mono (.inl rfl) (hF.side (by omega) (by simp)) fun i hi=>hc _ (by simp only[Ty.size];omega) (.inr (by omega))
  | 1=>
   simp only[locP,xad]at hl
   obtain⟨⟨q,o'⟩,h1,h2⟩:=hl
   cases q with
   |some q=>simp at h2
   |none=>
    simp only[xba,xgt]at h2
    subst h2
    simp only[setP,xad]at hs
    obtain⟨z,h3,rfl⟩:=hs
    simp only[setM,xad]at hm
    obtain⟨k',h4,rfl⟩:=hm
    rw[←zcc]at hy
    refine⟨h.1.mono (.inl rfl) (hF.side (by omega) (by simp)) fun i hi=>hc _ (by simp only[Ty.size];omega) (.inl (by omega)),?_⟩
    refine Rel.updA h.2 h1 h4 h3 ho hF.sub (fun i hi hio=>hc _ (by simp only[Ty.size];omega) (by omega)) ?_
    have:(fun i=>cs' (a.size+(o'+i)))=fun i=>cs' (a.size+o'+i):=funext fun i=>by rw[xdm]
    rw[this]
    exact hy
  |i+2=>simp[locP]at hl
 |i::π,.arr n t,m,m',p,x,x',cs,cs',o,h,hl,hm,hs,ho,hF,hc,hy=>by
  rw[zej]at hl
  rw[zew]at ho
  rw[zpt]at hs
  rw[zvp]at hm
  simp only[xad]at hl hs
  obtain⟨⟨q,o'⟩,h1,h2⟩:=hl
  cases q with
  |some q=>simp at h2
  |none=>
   simp only[xba,xgt]at h2
   subst h2
   obtain⟨z,h3,rfl⟩:=hs
   simp only[xcb]at hm
   obtain⟨k',h4,h5⟩:=hm
   split at h5
   case isFalse=>cases h5
   rename_i hle
   cases h5
   have hi:i<x.length:=by rw[h.1];exact ho.1
   rw[zec hi]at h3
   have he:=zpe h1 h3 ho.2
   rw[←zcc]at hy
   have hmul:∀j,j<n→(j+1)*t.size≤n*t.size:=fun j hj=>xav _ hj
   refine⟨by rw[xcd];exact h.1,fun j hj=>?_⟩
   have hj':j<x.length:=by rwa[xcd]at hj
   by_cases hji:j=i
   ·subst hji
    have e1:(x.set j z)[j]'(by rw[xcd];exact hj')=z:=xie _
    rw[e1]
    refine(Rel.updA (h.2 j hj') h1 h4 h3 ho.2 hF.sub (fun i hi hio=>hc _ ?_ (by omega)) ?_).weaken hle
    ·have:=hmul j ho.1;rw[xcl]at this;simp only[Ty.size];omega
    ·have:(fun i=>cs' (j*t.size+(o'+i)))=fun i=>cs' (j*t.size+o'+i):=funext fun i=>by rw[xdm]
     rw[this]
     exact hy
   ·have e1:(x.set i z)[j]'(by rw[xcd];exact hj')=x[j]:=xiq (Ne.symm hji) _
    rw[e1]
    refine(h.2 j hj').mono (.inl rfl) (hF.side hji (by simp)) fun l hl=>hc _ ?_ ?_
    ·have:=hmul j (by rw[←h.1];exact hj');rw[xcl]at this;simp only[Ty.size];omega
    ·rcases xcy j i with hlt|hge
     ·have:(j+1)*t.size≤i*t.size:=xav _ hlt
      rw[xcl]at this
      exact .inl (by omega)
     ·have:(i+1)*t.size≤j*t.size:=xav _ (by omega)
      rw[xcl]at this
      exact .inr (by omega)
 |i::π,.slice t,m,m',p,x,x',cs,cs',o,h,hl,hm,hs,ho,hF,hc,hy=>by
  rw[zeb]at hl
  simp only[xad]at hl
  obtain⟨⟨q,o'⟩,h1,h2⟩:=hl
  cases q<;>simp at h2
 |i::π,.ptr t,m,m',p,x,x',cs,cs',o,h,hl,hm,hs,ho,hF,hc,hy=>by
  match i with
  | 0=>
   simp only[locP,xad]at hl
   obtain⟨⟨q,o'⟩,h1,h2⟩:=hl
   cases q<;>simp at h2
  |i+1=>simp[locP]at hl
 |_::_,.int _,_,_,_,_,_,_,_,_,_,hl,_,_,_,_,_,_=>by simp[locP]at hl
 |_::_,.bool,_,_,_,_,_,_,_,_,_,hl,_,_,_,_,_,_=>by simp[locP]at hl
 |_::_,.str,_,_,_,_,_,_,_,_,_,hl,_,_,_,_,_,_=>by simp[locP]at hl
 |_::_,.unit,_,_,_,_,_,_,_,_,_,hl,_,_,_,_,_,_=>by simp[locP]at hl
 |_::_,.fn1 _ _,_,_,_,_,_,_,_,_,_,hl,_,_,_,_,_,_=>by simp[locP]at hl
 |_::_,.fn2 _ _ _,_,_,_,_,_,_,_,_,_,hl,_,_,_,_,_,_=>by simp[locP]at hl
 |_::_,.alt _ _ _,_,_,_,_,_,_,_,_,_,hl,_,_,_,_,_,_=>by simp[locP]at hl
 |_::_,.nilI,_,_,_,_,_,_,_,_,_,hl,_,_,_,_,_,_=>by simp[locP]at hl
end
section
variable {P:Program}
def zfj{i:Nat}{π:List Nat}:¬(i::π) <+: []:=fun h=>by cases List.prefix_nil.1 h
def zko{p:Place}{i:Nat}{r:List Nat}:p≠pa p (i::r):=fun h=>by
 have:=zpa (p:=p) (q:=[]) (r:=i::r) (by rw[zct];exact h)
 cases this
def Rel.updB{S S':St}{s:Ty}{y:s.den}{k:Md}{b o0:Nat}{cur cur':Array Value}{e:TypeId}(hb:S.w.heap[b]?=some (.cells cur e (0,0)))(hb':S'.w.heap[b]?=some (.cells cur' e (0,0)))(hsz:cur'.size=cur.size) :
  ∀{π:List Nat} {t:Ty} {m m':Md} {p:Place} {x x':t.den} {cs cs':Cs} {q:List Nat} {o:Nat},o=o0→(∀i,i<o∨o+s.size≤i→cur'[i]?=cur[i]?)→Rel P t S m p x cs→locP π t=some (some q,o)→setM π t m k=some m' →
  setP π t x ⟨s,y⟩=some x'→okP S π t p→hvB (S.hv (pa p q))=some b→S.own b=some (pa p q)→Fr S S' p π (some b)→(∀i,i<t.size→cs' i=cs i)→Rel P s S' k (pa p π) y (fun i=>cur'[o+i]?)→Rel P t S' m' p x' cs'
 | [],t,m,m',p,x,x',cs,cs',q,o,_,_,h,hl,hm,hs,ho,hh,hw,hF,hc,hy=>by simp[locP]at hl
 |i::π,.pair a c,m,m',p,x,x',cs,cs',q,o,ho0,hcur,h,hl,hm,hs,ho,hh,hw,hF,hc,hy=>by
  match i with
  | 0=>
   simp only[locP,xad]at hl
   obtain⟨⟨q',o'⟩,h1,h2⟩:=hl
   simp only[xba,xad]at h2
   obtain⟨⟨q'',rfl,rfl⟩,rfl⟩:=h2
   simp only[setP,xad]at hs
   obtain⟨z,h3,rfl⟩:=hs
   simp only[setM,xad]at hm
   obtain⟨k',h4,rfl⟩:=hm
   rw[←zcc]at hy hh hw
   refine⟨Rel.updB hb hb' hsz ho0 hcur h.1 h1 h4 h3 ho hh hw hF.sub (fun i hi=>hc i (by simp only[Ty.size];omega)) hy,?_⟩
   rw[zcc]at hw
   exact h.2.mono (.inl rfl) (hF.side (by omega) fun b' r he hbo=>by cases he;rw[hw]at hbo;cases zpa (xbo hbo)) fun i hi=>hc _ (by simp only[Ty.size];omega)
  | 1=>
   simp only[locP,xad]at hl
   obtain⟨⟨q',o'⟩,h1,h2⟩:=hl
   cases q' with
   |none=>simp at h2
   |some q'=>
    simp only[xba,xat]at h2
    obtain⟨rfl,rfl⟩:=h2
    simp only[setP,xad]at hs
    obtain⟨z,h3,rfl⟩:=hs
    simp only[setM,xad]at hm
    obtain⟨k',h4,rfl⟩:=hm
    rw[←zcc]at hy hh hw
    refine⟨?_,Rel.updB hb hb' hsz ho0 hcur h.2 h1 h4 h3 ho hh hw hF.sub (fun i hi=>hc _ (by simp only[Ty.size];omega)) hy⟩
    rw[zcc]at hw
    exact h.1.mono (.inl rfl) (hF.side (by omega) fun b' r he hbo=>by cases he;rw[hw]at hbo;cases zpa (xbo hbo)) fun i hi=>hc _ (by simp only[Ty.size];omega)
  |i+2=>simp[locP]at hl
 |i::π,.arr n t,m,m',p,x,x',cs,cs',q,o,ho0,hcur,h,hl,hm,hs,ho,hh,hw,hF,hc,hy=>by
  rw[zej]at hl
  rw[zew]at ho
  rw[zpt]at hs
  rw[zvp]at hm
  simp only[xad]at hl hs
  obtain⟨⟨q',o'⟩,h1,h2⟩:=hl
  cases q' with
  |none=>simp at h2
  |some q'=>
   simp only[xba,xat]at h2
   obtain⟨rfl,rfl⟩:=h2
   obtain⟨z,h3,rfl⟩:=hs
   simp only[xcb]at hm
   obtain⟨k',h4,h5⟩:=hm
   split at h5
   case isFalse=>cases h5
   rename_i hle
   cases h5
   have hi:i<x.length:=by rw[h.1];exact ho.1
   rw[zec hi]at h3
   have hmul:∀j,j<n→(j+1)*t.size≤n*t.size:=fun j hj=>xav _ hj
   refine⟨by rw[xcd];exact h.1,fun j hj=>?_⟩
   have hj':j<x.length:=by rwa[xcd]at hj
   have hcell:∀l,l<t.size→cs' (j*t.size+l)=cs (j*t.size+l):=fun l hl=>hc _ (by have:=hmul j (by rw[←h.1];exact hj');rw[xcl]at this;simp only[Ty.size];omega)
   by_cases hji:j=i
   ·subst hji
    have e1:(x.set j z)[j]'(by rw[xcd];exact hj')=z:=xie _
    rw[e1]
    rw[←zcc]at hy hh hw
    exact(Rel.updB hb hb' hsz ho0 hcur (h.2 j hj') h1 h4 h3 ho.2 hh hw hF.sub hcell hy).weaken hle
   ·have e1:(x.set i z)[j]'(by rw[xcd];exact hj')=x[j]:=xiq (Ne.symm hji) _
    rw[e1]
    exact(h.2 j hj').mono (.inl rfl) (hF.side hji fun b' r he hbo=>by cases he;rw[hw]at hbo;have:=zpa (xbo hbo);cases this;exact hji rfl) hcell
 |i::π,.slice t,m,m',p,x,x',cs,cs',q,o,ho0,hcur,h,hl,hm,hs,ho,hh,hw,hF,hc,hy=>by
  obtain⟨e0,j0,rfl⟩:=zld hm
  rw[zeb]at hl
  rw[zfp]at ho
  rw[ztv]at hs
  rw[ztw]at hm
  simp only[xad]at hl hs
  obtain⟨z,h3,rfl⟩:=hs
  simp only[xcb]at hm
  obtain⟨k',h4,h5⟩:=hm
  split at h5
  case isFalse=>cases h5
  rename_i hle
  cases h5
  obtain⟨hml,hpos,hc0,hcase⟩:=h
  obtain⟨⟨g,len,cap,hhv,hi⟩,ho⟩:=ho
  have hvp:=hF.hv [] zfj
  rw[zct]at hvp
  rcases hcase with⟨h6,_⟩|⟨g',cap',cur0,h6,h7,h8,h9,h10,h11,h12⟩
  ·rw[h6]at hhv;cases hhv
  rw[h6]at hhv
  cases hhv
  rw[zec hi]at h3
  have hmul:∀j,j<x.length→(j+1)*t.size≤cap*t.size:=fun j hj=>xav _ (xbb hj h9)
  have hog:=hF.own g [] zfj (by rw[zct];exact h7)
  rw[zct]at hog
  obtain⟨⟨q',o'⟩,h1,h2⟩:=hl
  refine⟨by rw[xcd];exact hml,hpos,by rw[hc 0 Nat.one_pos,hc0,hvp],.inr ?_⟩
  cases q' with
  |none=>
   simp only[xba,xat]at h2
   obtain⟨rfl,rfl⟩:=h2
   rw[zct,h6]at hh
   cases hh
   rw[h8]at hb
   cases hb
   have hn:=hF.sub.none_of (fun r hr=>by rw[h7,zcc]at hr;exact zko (xbo hr))
   have he:=zpe (S:=S) h1 h3 ho
   refine⟨b,cap,cur',by rw[hvp,h6,xcd],hog.1,hb',by rw[xcd];exact h9,h10,hsz.trans h11,fun j hj=>?_⟩
   have hj':j<x.length:=by rwa[xcd]at hj
   by_cases hji:j=i
   ·subst hji
    have e1:(x.set j z)[j]'(by rw[xcd];exact hj')=z:=xie _
    rw[e1]
    refine(Rel.updA (h12 j hj') h1 h4 h3 ho hn (fun l hl hlo=>hcur _ (by omega)) ?_).weaken hle
    rw[zcc]
    have:(fun i=>cur'[j*t.size+(o'+i)]?)=fun i=>cur'[j*t.size+o'+i]?:=funext fun i=>by rw[xdm]
    rw[this]
    exact hy
   ·have e1:(x.set i z)[j]'(by rw[xcd];exact hj')=x[j]:=xiq (Ne.symm hji) _
    rw[e1]
    refine(h12 j hj').mono (.inl rfl) (hF.side hji fun b' r he hbo=>by cases he;rw[hw]at hbo;cases zpa (xbo hbo)) fun l hl=>hcur _ ?_
    rcases xcy j i with hlt|hge
    ·have:(j+1)*t.size≤i*t.size:=xav _ hlt
     rw[xcl]at this
     exact .inl (by omega)
    ·have:(i+1)*t.size≤j*t.size:=xav _ (by omega)
     rw[xcl]at this
     exact .inr (by omega)
  |some q'=>
   simp only[xba,xat]at h2
   obtain⟨rfl,rfl⟩:=h2
   have hgb:some g≠some b:=fun he=>by cases he;rw[h7]at hw;exact zko (xbo hw)
   refine⟨g,cap,cur0,by rw[hvp,h6,xcd],hog.1,(hog.2 hgb).trans h8,by rw[xcd];exact h9,h10,h11,fun j hj=>?_⟩
   have hj':j<x.length:=by rwa[xcd]at hj
   by_cases hji:j=i
   ·subst hji
    have e1:(x.set j z)[j]'(by rw[xcd];exact hj')=z:=xie _
    rw[e1]
    rw[←zcc]at hy hh hw
    exact(Rel.updB hb hb' hsz ho0 hcur (h12 j hj') h1 h4 h3 ho hh hw hF.sub (fun _ _=>rfl) hy).weaken hle
   ·have e1:(x.set i z)[j]'(by rw[xcd];exact hj')=x[j]:=xiq (Ne.symm hji) _
    rw[e1]
    exact(h12 j hj').mono (.inl rfl) (hF.side hji fun b' r he hbo=>by cases he;rw[hw]at hbo;have:=zpa (xbo hbo);cases this;exact hji rfl) fun _ _=>rfl
 |i::π,.ptr t,m,m',p,x,x',cs,cs',q,o,ho0,hcur,h,hl,hm,hs,ho,hh,hw,hF,hc,hy=>by
  match i with
  |i+1=>simp[locP]at hl
  | 0=>
   cases m<;>first | (simp[setM]at hm;done) | skip
   rename_i e0 j0
   simp only[setM,xad]at hm
   obtain⟨k',h4,rfl⟩:=hm
   simp only[locP,xad]at hl
   obtain⟨⟨q',o'⟩,h1,h2⟩:=hl
   simp only[setP]at hs
   obtain⟨hc0,g,cur0,e1,h6,h7,h8,h9,h10⟩:=h
   have hvp:=hF.hv [] zfj
   rw[zct]at hvp
   have hog:=hF.own g [] zfj (by rw[zct];exact h7)
   rw[zct]at hog
   refine⟨by rw[hc 0 Nat.one_pos,hc0,hvp],?_⟩
   cases q' with
   |none=>
    simp only[xba,xat]at h2
    obtain⟨rfl,rfl⟩:=h2
    rw[zct,h6]at hh
    cases hh
    rw[h8]at hb
    cases hb
    have hn:=hF.sub.none_of (fun r hr=>by rw[h7,zcc]at hr;exact zko (xbo hr))
    exact⟨b,cur',e,hvp.trans h6,hog.1,hb',hsz.trans h9,Rel.updA h10 h1 h4 hs ho hn (fun l hl hlo=>hcur _ hlo) (by rw[zcc];exact hy)⟩
   |some q'=>
    simp only[xba,xat]at h2
    obtain⟨rfl,rfl⟩:=h2
    have hgb:some g≠some b:=fun he=>by cases he;rw[h7]at hw;exact zko (xbo hw)
    rw[←zcc]at hy hh hw
    exact⟨g,cur0,e1,hvp.trans h6,hog.1,(hog.2 hgb).trans h8,h9,Rel.updB hb hb' hsz ho0 hcur h10 h1 h4 hs ho hh hw hF.sub (fun _ _=>rfl) hy⟩
 |_::_,.int _,_,_,_,_,_,_,_,_,_,_,_,_,hl,_,_,_,_,_,_,_,_=>by simp[locP]at hl
 |_::_,.bool,_,_,_,_,_,_,_,_,_,_,_,_,hl,_,_,_,_,_,_,_,_=>by simp[locP]at hl
 |_::_,.str,_,_,_,_,_,_,_,_,_,_,_,_,hl,_,_,_,_,_,_,_,_=>by simp[locP]at hl
 |_::_,.unit,_,_,_,_,_,_,_,_,_,_,_,_,hl,_,_,_,_,_,_,_,_=>by simp[locP]at hl
 |_::_,.fn1 _ _,_,_,_,_,_,_,_,_,_,_,_,_,hl,_,_,_,_,_,_,_,_=>by simp[locP]at hl
 |_::_,.fn2 _ _ _,_,_,_,_,_,_,_,_,_,_,_,_,hl,_,_,_,_,_,_,_,_=>by simp[locP]at hl
 |_::_,.alt _ _ _,_,_,_,_,_,_,_,_,_,_,_,_,hl,_,_,_,_,_,_,_,_=>by simp[locP]at hl
 |_::_,.nilI,_,_,_,_,_,_,_,_,_,_,_,_,hl,_,_,_,_,_,_,_,_=>by simp[locP]at hl
end
def zhx:List Nat→Ty→Bool
 | [],_=>false
 |i::π,.pair a b=>match i with
  | 0=>zhx π a
  | 1=>zhx π b
  |_=>false
 |_::π,.arr _ t=>zhx π t
 |_::_,.slice _=>true
 |_::_,.ptr _=>true
 |_,_=>false
def zix:List Nat→Ty→Bool
 |_::π,.slice t=>zhx π t
 |i::π,.ptr t=>match i with
  | 0=>zhx π t
  |_=>true
 |_,_=>true
def zut(i:Nat)(π:List Nat)(n:Nat)(t:Ty):zhx (i::π) (.arr n t)=zhx π t:=by cases i<;>(try rename_i j;cases j)<;>rfl
def zph(i:Nat)(π:List Nat)(t:Ty):zhx (i::π) (.slice t)=true:=by cases i<;>(try rename_i j;cases j)<;>rfl
def zus(i:Nat)(π:List Nat)(t:Ty):zhx (i::π) (.ptr t)=true:=by cases i<;>(try rename_i j;cases j)<;>rfl
def zgt{S S':St}:∀{π:List Nat} {t:Ty} {p:Place},zhx π t=false→okP S π t p→okP S' π t p
 | [],_,_,_,_=>trivial
 |i::π,.pair a b,p,h,ho=>by
  match i with
  | 0=>exact zgt (π:=π) (t:=a) h ho
  | 1=>exact zgt (π:=π) (t:=b) h ho
  |i+2=>exact ho.elim
 |i::π,.arr n t,p,h,ho=>by
  rw[zut]at h
  rw[zew]at ho ⊢
  exact⟨ho.1,zgt h ho.2⟩
 |i::π,.slice t,p,h,ho=>by rw[zph]at h;cases h
 |i::π,.ptr t,p,h,ho=>by rw[zus]at h;cases h
 |_::_,.int _,_,_,ho=>by simp[okP]at ho
 |_::_,.bool,_,_,ho=>by simp[okP]at ho
 |_::_,.str,_,_,ho=>by simp[okP]at ho
 |_::_,.unit,_,_,ho=>by simp[okP]at ho
 |_::_,.fn1 _ _,_,_,ho=>by simp[okP]at ho
 |_::_,.fn2 _ _ _,_,_,ho=>by simp[okP]at ho
 |_::_,.alt _ _ _,_,_,ho=>by simp[okP]at ho
 |_::_,.nilI,_,_,ho=>by simp[okP]at ho
def zgu{S S':St}:∀{π:List Nat} {t:Ty} {p:Place},(∀q,S'.hv (pa p q)=S.hv (pa p q))→okP S π t p→okP S' π t p
 | [],_,_,_,_=>trivial
 |i::π,.pair a b,p,h,ho=>by
  match i with
  | 0=>exact zgu (π:=π) (t:=a) (p:=px p 0) (fun q=>by rw[zcc];exact h _) ho
  | 1=>exact zgu (π:=π) (t:=b) (p:=px p 1) (fun q=>by rw[zcc];exact h _) ho
  |i+2=>exact ho.elim
 |i::π,.arr n t,p,h,ho=>by
  rw[zew]at ho ⊢
  exact⟨ho.1,zgu (fun q=>by rw[zcc];exact h _) ho.2⟩
 |i::π,.slice t,p,h,ho=>by
  rw[zfp]at ho ⊢
  have h0:=h []
  rw[zct]at h0
  exact⟨by rw[h0];exact ho.1,zgu (fun q=>by rw[zcc];exact h _) ho.2⟩
 |i::π,.ptr t,p,h,ho=>by
  match i with
  | 0=>exact zgu (π:=π) (t:=t) (p:=px p 0) (fun q=>by rw[zcc];exact h _) ho
  |i+1=>simp[okP]at ho
 |_::_,.int _,_,_,ho=>by simp[okP]at ho
 |_::_,.bool,_,_,ho=>by simp[okP]at ho
 |_::_,.str,_,_,ho=>by simp[okP]at ho
 |_::_,.unit,_,_,ho=>by simp[okP]at ho
 |_::_,.fn1 _ _,_,_,ho=>by simp[okP]at ho
 |_::_,.fn2 _ _ _,_,_,ho=>by simp[okP]at ho
 |_::_,.alt _ _ _,_,_,ho=>by simp[okP]at ho
 |_::_,.nilI,_,_,ho=>by simp[okP]at ho
def zfq:∀{π:List Nat} {t:Ty} {q:List Nat} {o:Nat},zhx π t=false→locP π t≠some (some q,o)
 | [],_,_,_,_,hl=>by simp[locP]at hl
 |i::π,.pair a b,q,o,h,hl=>by
  match i with
  | 0=>
   simp only[locP,xad]at hl
   obtain⟨⟨q',o'⟩,h1,h2⟩:=hl
   cases q' with
   |none=>simp at h2
   |some q'=>exact zfq (π:=π) (t:=a) h h1
  | 1=>
   simp only[locP,xad]at hl
   obtain⟨⟨q',o'⟩,h1,h2⟩:=hl
   cases q' with
   |none=>simp at h2
   |some q'=>exact zfq (π:=π) (t:=b) h h1
  |i+2=>simp[locP]at hl
 |i::π,.arr n t,q,o,h,hl=>by
  rw[zut]at h
  rw[zej]at hl
  simp only[xad]at hl
  obtain⟨⟨q',o'⟩,h1,h2⟩:=hl
  cases q' with
  |none=>simp at h2
  |some q'=>exact zfq h h1
 |i::π,.slice t,_,_,h,_=>by rw[zph]at h;cases h
 |i::π,.ptr t,_,_,h,_=>by rw[zus]at h;cases h
 |_::_,.int _,_,_,_,hl=>by simp[locP]at hl
 |_::_,.bool,_,_,_,hl=>by simp[locP]at hl
 |_::_,.str,_,_,_,hl=>by simp[locP]at hl
 |_::_,.unit,_,_,_,hl=>by simp[locP]at hl
 |_::_,.fn1 _ _,_,_,_,hl=>by simp[locP]at hl
 |_::_,.fn2 _ _ _,_,_,_,hl=>by simp[locP]at hl
 |_::_,.alt _ _ _,_,_,_,hl=>by simp[locP]at hl
 |_::_,.nilI,_,_,_,hl=>by simp[locP]at hl
def locP_shallow{π:List Nat}{t:Ty}{q:List Nat}{o:Nat}(h:zix π t=false)(hl:locP π t=some (some q,o)):q=[]:=by
 cases π with
 |nil=>simp[zix]at h
 |cons i π=>
  cases t with
  |slice t=>
   have h':zhx π t=false:=by cases i<;>(try rename_i j;cases j)<;>exact h
   rw[zeb]at hl
   simp only[xad]at hl
   obtain⟨⟨q',o'⟩,h1,h2⟩:=hl
   cases q' with
   |none=>simp at h2;exact h2.1
   |some q'=>exact absurd h1 (zfq h')
  |ptr t=>
   match i with
   | 0=>
    simp only[locP,xad]at hl
    obtain⟨⟨q',o'⟩,h1,h2⟩:=hl
    cases q' with
    |none=>simp at h2;exact h2.1
    |some q'=>exact absurd h1 (zfq (t:=t) (by simpa[zix]using h))
   |i+1=>simp[locP]at hl
  |_=>simp[zix]at h
def okP_shallow{S S':St}{π:List Nat}{t:Ty}{p:Place}(h:zix π t=false)(hv:S'.hv p=S.hv p)(ho:okP S π t p):okP S' π t p:=by
 cases π with
 |nil=>simp[zix]at h
 |cons i π=>
  cases t with
  |slice t=>
   have h':zhx π t=false:=by cases i<;>(try rename_i j;cases j)<;>exact h
   rw[zfp]at ho ⊢
   exact⟨by rw[hv];exact ho.1,zgt h' ho.2⟩
  |ptr t=>
   match i with
   | 0=>exact zgt (π:=π) (t:=t) (by simpa[zix]using h) ho
   |i+1=>simp[okP]at ho
  |_=>simp[zix]at h
structure TM where
 t:Ty
 m:Md
 x:t.den
inductive Cap where
 |ref (r:Nat) (π:List Nat) (s:Nat)
 |val (e:TM)
inductive Ent where
 |v (t:Ty) (m:Md) (x:t.den)
 |ref (r:Nat) (π:List Nat) (s:Nat)
 |view (r:Nat) (π:List Nat) (s:Nat)
 |tail (r:Nat) (s:Nat) (lo:Nat)
 |tup (es:List TM)
 |clo (f:Nat) (caps:List Cap)
 |mth (nm:String) (e:TM)
 |skip
 |dead
 deriving Inhabited
structure Slot where
 e:Ent
 g:Nat
 h:Nat
abbrev Env:=Nat→Slot
def SR(P:Program)(t:Ty)(S:St)(m:Md)(p:Place)(x:t.den)(v:Value):Prop:=Rel P t S m p x (zab t v)∧zgg t v
def gen(c:Slot)(t:Ty)(π:List Nat)(s:Nat):Prop:=if zix π t then c.h=s else c.g=s
def RefOK(S:St)(σ:Env)(r:Nat)(π:List Nat)(s:Nat)(v:Value):Prop:=
 s≤(σ r).h∧∀t m x,(σ r).e=.v t m x→gen (σ r) t π s→∃q o b,locP π t=some (some q,o)∧okP S π t (r,[])∧hvB (S.hv (r,q))=some b∧v=.pointer (some ⟨b,o,none⟩)
def ViewOK(S:St)(σ:Env)(r:Nat)(π:List Nat)(s:Nat)(v:Value):Prop:=
 s≤(σ r).h∧∀t m x,(σ r).e=.v t m x→(σ r).h=s→okP S π t (r,[])∧v=S.hv (r,π)
def TailV(hv:Value)(lo sz:Nat)(v:Value):Prop:=
 (∃A A' c c',v=.slice A 0 c∧hv=.slice A' lo c')∨∃g n c c',hv=.slice (some ⟨g,0,none⟩) n c∧lo<n∧v=.slice (some ⟨g,lo*sz,none⟩) (n-lo) c'
def TailOK(S:St)(σ:Env)(r:Nat)(s lo:Nat)(v:Value):Prop:=
 s≤(σ r).h∧∀t m x,(σ r).e=.v t m x→(σ r).h=s→∃u,t=.slice u∧TailV (S.hv (r,[])) lo u.size v
def CapOK(P:Program)(S:St)(σ:Env)(v:Value):Cap→Prop
 | .ref r π s=>RefOK S σ r π s v
 | .val e=>SR P e.t S .bw (0,[]) e.x v
def SlotOK(P:Program)(S:St)(σ:Env)(tm:Nat→Value)(t:Nat):Prop:=
 match(σ t).e with
 | .v ty m x=>SR P ty S m (t,[]) x (tm t)
 | .ref r π s=>RefOK S σ r π s (tm t)
 | .view r π s=>ViewOK S σ r π s (tm t)
 | .tail r s lo=>TailOK S σ r s lo (tm t)
 | .tup es=>∃vs,tm t=.tuple vs∧vs.size=es.length∧∀(k:Nat) (e:TM),es[k]?=some e→∃u,vs[k]?=some u∧SR P e.t S e.m (t,[k]) e.x u
 | .clo f caps=>∃ps:List Value,tm t=.func (.func f) #[] ps.toArray∧ps.length=caps.length∧∀(k:Nat) (c:Cap),caps[k]?=some c→∃u,ps[k]?=some u∧CapOK P S σ u c
 | .mth nm e=>∃u,tm t=.func (.method nm) #[u] #[]∧SR P e.t S .bw (0,[]) e.x u
 | .skip=>tm t=.tuple #[]
 | .dead=>True
structure Ctx where
 w0:World
 F0:Nat→Prop
 B:Nat→Prop
 O:Nat→Prop
 N:Nat
 K:Nat→Option Value
structure InvOf(P:Program)(c:Ctx)(σ:Env)(a:Act)(S:St):Prop where
 defers:a.defers=[]
 size:a.tmps.size=c.N
 slots:∀t,SlotOK P S σ (tmv a) t
 gens:∀t,(σ t).g≤(σ t).h
 lent:S.B=c.B
 shared:∀b,S.F b→S.own b=none∧b<S.w.heap.size∧(c.F0 b∨c.w0.heap.size≤b∨c.O b)
 shared0:∀b,c.F0 b→S.F b
 borrowed:∀b,c.B b→S.own b=none∧b<c.w0.heap.size∧¬c.O b
 owned:∀b p,S.own b=some p→b<S.w.heap.size∧(c.w0.heap.size≤b∨c.O b)
 os:S.w.os=c.w0.os
 tape:S.w.tape=c.w0.tape
 output:S.w.output=c.w0.output
 grown:c.w0.heap.size≤S.w.heap.size
 kept:∀b,b<c.w0.heap.size→¬c.O b→S.w.heap[b]?=c.w0.heap[b]?
def Inv(P:Program)(c:Ctx)(σ:Env)(a:Act)(w:World):Prop:=∃S,S.w=w∧InvOf P c σ a S
def Chg(S S':St)(σ σ':Env)(r:Nat):Prop:=
 (σ' r).g≤(σ' r).h∧((σ r).h<(σ' r).g ∨
 ((σ' r).g=(σ r).g∧(∀t m x,(σ' r).e=.v t m x→∃m' x',(σ r).e=.v t m' x') ∧
  ((σ r).h<(σ' r).h∧S'.hv (r,[])=S.hv (r,[])∨(σ' r).h=(σ r).h∧∀q,S'.hv (r,q)=S.hv (r,q))))
def Chg.refl{S S':St}{σ σ':Env}{r:Nat}(hg:(σ r).g≤(σ r).h)(h:σ' r=σ r)(hv:∀q,S'.hv (r,q)=S.hv (r,q)):Chg S S' σ σ' r:=by
 unfold Chg
 grind
def Chg.le{S S':St}{σ σ':Env}{r:Nat}(h:Chg S S' σ σ' r):(σ r).h≤(σ' r).h:=by
 rcases h with⟨h0,h|⟨_,_,h|h⟩⟩<;>omega
def RefOK.keep{S S':St}{σ σ':Env}{r:Nat}{π:List Nat}{s:Nat}{v:Value}(h:RefOK S σ r π s v)(hc:Chg S S' σ σ' r):RefOK S' σ' r π s v:=by
 refine⟨xbb h.1 hc.le,fun t m x hx hg=>?_⟩
 have hs:=h.1
 rcases hc with⟨h0,h1|⟨h1,h2,h3⟩⟩
 ·unfold gen at hg;split at hg<;>omega
 ·obtain⟨m',x',hx'⟩:=h2 t m x hx
  by_cases hd:zix π t=true
  ·unfold gen at hg
   rw[if_pos hd]at hg
   rcases h3 with⟨h3,_⟩|⟨h3,h4⟩
   ·omega
   ·obtain⟨q,o,b,h5,h6,h7,h8⟩:=h.2 t m' x' hx' (by unfold gen;rw[if_pos hd,←h3];exact hg)
    exact⟨q,o,b,h5,zgu (fun q=>by simpa[pa]using h4 q) h6,by rw[h4];exact h7,h8⟩
  ·unfold gen at hg
   rw[if_neg hd]at hg
   obtain⟨q,o,b,h5,h6,h7,h8⟩:=h.2 t m' x' hx' (by unfold gen;rw[if_neg hd,←h1];exact hg)
   have hd':zix π t=false:=by simpa using hd
   have hq:=locP_shallow hd' h5
   subst hq
   have hv:S'.hv (r,[])=S.hv (r,[]):=h3.elim (·.2) fun h=>h.2 []
   exact⟨[],o,b,h5,okP_shallow hd' hv h6,by rw[hv];exact h7,h8⟩
def ViewOK.keep{S S':St}{σ σ':Env}{r:Nat}{π:List Nat}{s:Nat}{v:Value}(h:ViewOK S σ r π s v)(hc:Chg S S' σ σ' r):ViewOK S' σ' r π s v:=by
 refine⟨xbb h.1 hc.le,fun t m x hx hg=>?_⟩
 have hs:=h.1
 rcases hc with⟨h0,h1|⟨h1,h2,h3⟩⟩
 ·omega
 ·obtain⟨m',x',hx'⟩:=h2 t m x hx
  rcases h3 with⟨h3,_⟩|⟨h3,h4⟩
  ·omega
  ·obtain⟨h5,h6⟩:=h.2 t m' x' hx' (by rw[←h3];exact hg)
   exact⟨zgu (fun q=>by simpa[pa]using h4 q) h5,by rw[h4];exact h6⟩
def TailOK.keep{S S':St}{σ σ':Env}{r s lo:Nat}{v:Value}(h:TailOK S σ r s lo v)(hc:Chg S S' σ σ' r):TailOK S' σ' r s lo v:=by
 refine⟨xbb h.1 hc.le,fun t m x hx hg=>?_⟩
 have hs:=h.1
 rcases hc with⟨h0,h1|⟨h1,h2,h3⟩⟩
 ·omega
 ·obtain⟨m',x',hx'⟩:=h2 t m x hx
  rcases h3 with⟨h3,_⟩|⟨h3,h4⟩
  ·omega
  ·obtain⟨u,h5,h6⟩:=h.2 t m' x' hx' (by rw[←h3];exact hg)
   grind
section
variable {P:Program}
def SR.mono{q:Bool}{t:Ty}{S S':St}{m:Md}{p p':Place}{x:t.den}{v:Value}(h:SR P t S m p x v)(hm:q=true∨m.nobw=true)(hT:Tr q S S' p p'):SR P t S' m p' x v:=⟨h.1.mono hm hT fun _ _=>rfl,h.2⟩
def SlotOK.keep{S S':St}{σ σ':Env}{tm tm':Nat→Value}{t:Nat}(h:SlotOK P S σ tm t)(hx:(σ' t).e=(σ t).e)(ht:tm' t=tm t)(hc:∀r,Chg S S' σ σ' r)
  (hT:Tr true S S' (t,[]) (t,[])):SlotOK P S' σ' tm' t:=by
 unfold SlotOK at *
 rw[hx,ht]
 generalize(σ t).e=e at *
 cases e with
 |v ty m x=>exact h.mono (.inl rfl) hT
 |ref r π s=>exact RefOK.keep h (hc r)
 |view r π s=>exact ViewOK.keep h (hc r)
 |tail r s lo=>exact TailOK.keep h (hc r)
 |tup es=>
  obtain⟨vs,h1,h2,h3⟩:=h
  refine⟨vs,h1,h2,fun k e hk=>?_⟩
  obtain⟨u,h4,h5⟩:=h3 k e hk
  exact⟨u,h4,h5.mono (.inl rfl) (hT.px k)⟩
 |clo f caps=>
  obtain⟨ps,h1,h2,h3⟩:=h
  refine⟨ps,h1,h2,fun k c hk=>?_⟩
  obtain⟨u,h4,h5⟩:=h3 k c hk
  refine⟨u,h4,?_⟩
  cases c with
  |ref r π s=>exact RefOK.keep h5 (hc r)
  |val e=>
   exact⟨h5.1.fut (.inr rfl) ⟨hT.F,fun b _ hb=>hT.B rfl b hb,fun b hb=>(hT.G (.inl rfl) hb).2⟩ fun _ _=>rfl,h5.2⟩
 |mth nm e=>
  obtain⟨u,h1,h5⟩:=h
  exact⟨u,h1,h5.1.fut (.inr rfl) ⟨hT.F,fun b _ hb=>hT.B rfl b hb,fun b hb=>(hT.G (.inl rfl) hb).2⟩ fun _ _=>rfl,h5.2⟩
 |skip=>exact h
 |dead=>trivial
end
def bump(k:Nat)(c:Slot)(e:Ent):Slot:=
 match k with
 | 0=>⟨e,c.h+1,c.h+1⟩
 | 1=>⟨e,c.g,c.h+1⟩
 |_=>⟨e,c.g,c.h⟩
def set1(σ:Env)(t:Nat)(e:Ent)(k:Nat):Env:=fun u=>if u=t then bump k (σ t) e else σ u
def zah(σ:Env)(t:Nat)(e:Ent)(k:Nat):set1 σ t e k t=bump k (σ t) e:=by simp[set1]
def zan(σ:Env){t u:Nat}(e:Ent)(k:Nat)(h:u≠t):set1 σ t e k u=σ u:=by simp[set1,h]
def zpj(k:Nat)(c:Slot)(e:Ent):(bump k c e).e=e:=by unfold bump;split<;>rfl
def zbi(σ:Env)(t:Nat)(e:Ent)(k:Nat):(set1 σ t e k t).e=e:=by rw[zah,zpj]
section
variable {P:Program} {c:Ctx} {σ σ':Env} {a a':Act} {S S':St}
def InvOf.rebuild(h:InvOf P c σ a S)(D:Nat→Prop)(hd:a'.defers=[])(hsz:a'.tmps.size=c.N)
  (hkeep:∀t,¬D t→σ' t=σ t∧tmv a' t=tmv a t) (hchg:∀r,D r→Chg S S' σ σ' r) (hslots:∀t,D t→SlotOK P S' σ' (tmv a') t)
  (hF:∀b,S.F b→S'.F b) (hsF:∀b,S.F b→S'.w.heap[b]?=S.w.heap[b]?) (hB:S'.B=S.B) (hsB:∀b,S.B b→S'.w.heap[b]?=S.w.heap[b]?)
  (hhv:∀t,¬D t→∀q,S'.hv (t,q)=S.hv (t,q)) (hown:∀t,¬D t→∀b q,S.own b=some (t,q)→S'.own b=some (t,q)∧S'.w.heap[b]?=S.w.heap[b]?)
  (hsh:∀b,S'.F b→S'.own b=none∧b<S'.w.heap.size∧(c.F0 b∨c.w0.heap.size≤b∨c.O b)) (hbo:∀b,c.B b→S'.own b=none)
  (how:∀b p,S'.own b=some p→b<S'.w.heap.size∧(c.w0.heap.size≤b∨c.O b))
  (hos:S'.w.os=S.w.os) (htp:S'.w.tape=S.w.tape) (hout:S'.w.output=S.w.output) (hgr:S.w.heap.size≤S'.w.heap.size)
  (hk:∀b,b<c.w0.heap.size→¬c.O b→S'.w.heap[b]?=S.w.heap[b]?):InvOf P c σ' a' S':=by
 have hall:∀r,Chg S S' σ σ' r:=fun r=>by
  by_cases hr:D r
  ·exact hchg r hr
  ·exact .refl (h.gens r) (hkeep r hr).1 (hhv r hr)
 refine⟨hd,hsz,fun t=>?_,fun t=>(hall t).1,by rw[hB];exact h.lent,hsh,fun b hb=>hF b (h.shared0 b hb),fun b hb=>⟨hbo b hb,(h.borrowed b hb).2⟩,how,hos.trans h.os,htp.trans h.tape,hout.trans h.output,
  xbb h.grown hgr,fun b hb hO=>(hk b hb hO).trans (h.kept b hb hO)⟩
 by_cases ht:D t
 ·exact hslots t ht
 ·refine(h.slots t).keep (by rw[(hkeep t ht).1]) (hkeep t ht).2 hall ⟨hF,hsF,fun _ b hb=>.inr (by rw[hB];exact hb),fun _=>hsB,fun r=>?_,fun b r hb=>?_⟩
  ·simpa[pa]using hhv t ht r
  ·simpa[pa]using hown t ht b r (by simpa[pa]using hb)
def InvOf.wlt(h:InvOf P c σ a S){b:Nat}(hb:S.F b∨S.B b∨∃p,S.own b=some p):b<S.w.heap.size:=by
 rcases hb with hb|hb|⟨p,hb⟩
 ·exact(h.shared b hb).2.1
 ·rw[h.lent]at hb;exact xau (h.borrowed b hb).2.1 h.grown
 ·exact(h.owned b p hb).1
def InvOf.WF(h:InvOf P c σ a S):S.WF:=⟨fun b hb=>⟨(h.shared b hb).1,(h.shared b hb).2.1⟩,fun b hb=>⟨by rw[h.lent]at hb;exact(h.borrowed b hb).1,h.wlt (.inr (.inl hb))⟩,fun b p hb=>(h.owned b p hb).1⟩
def InvOf.put(h:InvOf P c σ a S)(hw:Ext S.w S'.w)(hF:S'.F=S.F)(hB:S'.B=S.B){d:Nat}(hd:d<c.N){e:Ent}{v:Value}
  (hhv:∀t,t≠d→∀q,S'.hv (t,q)=S.hv (t,q)) (ho:∀b,S'.own b=S.own b∨(S.own b=none∧S.w.heap.size≤b∧b<S'.w.heap.size))
  (hx:SlotOK P S' (set1 σ d e 0) (tmv (a.put (some d) v)) d):InvOf P c (set1 σ d e 0) (a.put (some d) v) S':=by
 have hold:∀b,b<S.w.heap.size→S'.own b=S.own b:=fun b hb=>(ho b).elim id fun h=>absurd h.2.1 (by omega)
 refine h.rebuild (fun t=>t=d) (by simpa[Act.put]using h.defers) (by simpa[Act.put]using h.size) (fun t ht=>⟨zan σ e 0 ht,zbj ht⟩)
  (fun r hr=>?_) (fun t ht=>by subst ht;exact hx) (fun b hb=>by rw[hF];exact hb) (fun b hb=>hw.block b (h.wlt (.inl hb))) hB (fun b hb=>hw.block b (h.wlt (.inr (.inl hb)))) hhv
  (fun t _ b q hb=>⟨(hold b (h.owned b _ hb).1).trans hb,hw.block b (h.owned b _ hb).1⟩) (fun b hb=>?_) (fun b hb=>?_) (fun b p hb=>?_) hw.os hw.tape hw.output hw.size
  (fun b hb _=>hw.block b (xau hb h.grown))
 ·subst hr
  refine⟨by rw[zah];exact xak _,.inl (by rw[zah];exact xct _)⟩
 ·rw[hF]at hb
  exact⟨(hold b (h.shared b hb).2.1).trans (h.shared b hb).1,xau (h.shared b hb).2.1 hw.size,(h.shared b hb).2.2⟩
 ·exact(hold b (xau (h.borrowed b hb).2.1 h.grown)).trans (h.borrowed b hb).1
 ·rcases ho b with he|⟨_,h1,h2⟩
  ·rw[he]at hb
   exact⟨xau (h.owned b p hb).1 hw.size,(h.owned b p hb).2⟩
  ·exact⟨h2,.inl (xbb h.grown h1)⟩
def InvOf.slot(h:InvOf P c σ a S){r:Nat}{t:Ty}{m:Md}{x:t.den}(hr:(σ r).e=.v t m x):SR P t S m (r,[]) x (tmv a r):=by
 have:=h.slots r
 unfold SlotOK at this
 rw[hr]at this
 exact this
def SlotOK.v{S:St}{σ:Env}{tm:Nat→Value}{r:Nat}{t:Ty}{m:Md}{x:t.den}(hr:(σ r).e=.v t m x)(h:SR P t S m (r,[]) x (tm r)):SlotOK P S σ tm r:=by
 unfold SlotOK
 rw[hr]
 exact h
def InvOf.putv(h:InvOf P c σ a S){d:Nat}(hd:d<c.N){t:Ty}{m:Md}{x:t.den}{v:Value}(hv:SR P t S m (d,[]) x v):InvOf P c (set1 σ d (.v t m x) 0) (a.put (some d) v) S:=
 h.put (.refl _) rfl rfl hd (fun _ _ _=>rfl) (fun _=>.inl rfl) (.v (zbi σ d _ 0) (by rw[zai (by rw[h.size];exact hd)];exact hv))
def InvOf.putref(h:InvOf P c σ a S){d r:Nat}{π:List Nat}{s:Nat}(hd:d<c.N){v:Value}(hv:RefOK S σ r π s v):InvOf P c (set1 σ d (.ref r π s) 0) (a.put (some d) v) S:=by
 refine h.put (.refl _) rfl rfl hd (fun _ _ _=>rfl) (fun _=>.inl rfl) ?_
 unfold SlotOK
 rw[zbi]
 show RefOK S _ r π s _
 rw[zai (by rw[h.size];exact hd)]
 refine hv.keep ?_
 by_cases hrd:r=d
 ·subst hrd
  exact⟨by rw[zah];exact xak _,.inl (by rw[zah];exact xct _)⟩
 ·exact .refl (h.gens r) (zan σ _ _ hrd) fun _=>rfl
def InvOf.putview(h:InvOf P c σ a S){d r:Nat}{π:List Nat}{s:Nat}(hd:d<c.N){v:Value}(hv:ViewOK S σ r π s v):InvOf P c (set1 σ d (.view r π s) 0) (a.put (some d) v) S:=by
 refine h.put (.refl _) rfl rfl hd (fun _ _ _=>rfl) (fun _=>.inl rfl) ?_
 unfold SlotOK
 rw[zbi]
 show ViewOK S _ r π s _
 rw[zai (by rw[h.size];exact hd)]
 refine hv.keep ?_
 by_cases hrd:r=d
 ·subst hrd
  exact⟨by rw[zah];exact xak _,.inl (by rw[zah];exact xct _)⟩
 ·exact .refl (h.gens r) (zan σ _ _ hrd) fun _=>rfl
def InvOf.puttail(h:InvOf P c σ a S){d r:Nat}{s lo:Nat}(hd:d<c.N){v:Value}(hv:TailOK S σ r s lo v):InvOf P c (set1 σ d (.tail r s lo) 0) (a.put (some d) v) S:=by
 refine h.put (.refl _) rfl rfl hd (fun _ _ _=>rfl) (fun _=>.inl rfl) ?_
 unfold SlotOK
 rw[zbi]
 show TailOK S _ r s lo _
 rw[zai (by rw[h.size];exact hd)]
 refine hv.keep ?_
 by_cases hrd:r=d
 ·subst hrd
  exact⟨by rw[zah];exact xak _,.inl (by rw[zah];exact xct _)⟩
 ·exact .refl (h.gens r) (zan σ _ _ hrd) fun _=>rfl
def Chg.bump{k:Nat}{r:Nat}{t:Ty}{m m':Md}{x x':t.den}(hg:(σ r).g≤(σ r).h)(hr:(σ r).e=.v t m x)(h':σ' r=Go.X.bump k (σ r) (.v t m' x'))
  (h1:k=1→S'.hv (r,[])=S.hv (r,[])) (h2:k≠0→k≠1→∀q,S'.hv (r,q)=S.hv (r,q)):Chg S S' σ σ' r:=by
 unfold Chg
 rw[h']
 have ht:∀(c:Slot),c.e=.v t m' x'→∀t' m2 x2,c.e=.v t' m2 x2→∃m' x',(σ r).e=.v t' m' x':=fun c hc t' m2 x2 h=>by
  grind
 match k,h1,h2 with
 | 0,_,_=>exact⟨xak _,.inl (xct _)⟩
 | 1,h1,_=>exact⟨Nat.le_succ_of_le hg,.inr ⟨rfl,ht _ rfl,.inl ⟨xct _,h1 rfl⟩⟩⟩
 |k+2,_,h2=>exact⟨hg,.inr ⟨rfl,ht _ rfl,.inr ⟨rfl,h2 (by omega) (by omega)⟩⟩⟩
end
def zmb{α:Type}{xs:List α}{i:Nat}{d:α}:xs.set i (xs.getD i d)=xs:=by
 apply xjl
 grind
def TV.to_self(t:Ty)(x:t.den):TV.to ⟨t,x⟩ t=some x:=by simp[TV.to]
def zfm:∀{π:List Nat} {t:Ty} {x:t.den} {y:TV},getP π t x=some y→setP π t x y=some x
 | [],t,x,y,h=>by simp only[getP,xat]at h;subst h;exact TV.to_self t x
 |i::π,.pair a b,x,y,h=>by
  match i with
  | 0=>simp only[getP]at h;simp only[setP,zfm h];rfl
  | 1=>simp only[getP]at h;simp only[setP,zfm h];rfl
  |i+2=>simp[getP]at h
 |i::π,.arr n t,x,y,h=>by
  rw[zkw]at h
  rw[zpt,zfm h]
  simp only[xcn,zmb]
 |i::π,.slice t,x,y,h=>by
  rw[zof]at h
  rw[ztv,zfm h]
  simp only[xcn,zmb]
 |i::π,.ptr t,x,y,h=>by
  match i with
  | 0=>simp only[getP]at h;simp only[setP];exact zfm (t:=t) h
  |i+1=>simp[getP]at h
 |_::_,.int _,_,_,h=>by simp[getP]at h
 |_::_,.bool,_,_,h=>by simp[getP]at h
 |_::_,.str,_,_,h=>by simp[getP]at h
 |_::_,.unit,_,_,h=>by simp[getP]at h
 |_::_,.fn1 _ _,_,_,h=>by simp[getP]at h
 |_::_,.fn2 _ _ _,_,_,h=>by simp[getP]at h
 |_::_,.alt _ _ _,_,_,h=>by simp[getP]at h
 |_::_,.nilI,_,_,h=>by simp[getP]at h
section
variable {P:Program} {c:Ctx} {σ σ':Env} {a a':Act} {S S':St}
def zlr{w:World}{b o:Nat}{cur:Array Value}{e:TypeId}(h:w.heap[b]?=some (.cells cur e (0,0))):blk w b o=fun i=>cur[o+i]?:=funext fun i=>by
 show w.cell? ⟨b,o+i,none⟩=_
 rw[cell_of_row w b _ cur e (0,0) h]
def Rel.updAt{s:Ty}{y:s.den}{k:Md}{π:List Nat}{t:Ty}{m m':Md}{p:Place}{x x':t.den}{cs:Cs}{l:Option (List Nat)×Nat}(h:Rel P t S m p x cs)(hl:locP π t=some l)(hm:setM π t m k=some m')
  (hs:setP π t x ⟨s,y⟩=some x') (ho:okP S π t p)
  (hc:match l with
   |(none,o)=>Fr S S' p π none∧Rel P s S' k (pa p π) y (fun i=>cs (o+i))
   |(some q,o)=>∃b cur cur' e,hvB (S.hv (pa p q))=some b∧S.own b=some (pa p q)∧S.w.heap[b]?=some (.cells cur e (0,0))∧S'.w.heap[b]?=some (.cells cur' e (0,0))∧cur'.size=cur.size ∧
     (∀i,i<o∨o+s.size≤i→cur'[i]?=cur[i]?)∧Fr S S' p π (some b)∧Rel P s S' k (pa p π) y (fun i=>cur'[o+i]?)):Rel P t S' m' p x' cs:=by
 obtain⟨q,o⟩:=l
 cases q with
 |none=>exact h.updA hl hm hs ho hc.1 (fun _ _ _=>rfl) hc.2
 |some q=>
  obtain⟨b,cur,cur',e,h1,h2,h3,h4,h5,h6,h7,h8⟩:=hc
  exact Rel.updB h3 h4 h5 rfl h6 h hl hm hs ho h1 h2 h7 (fun _ _=>rfl) h8
open Classical in
noncomputable def ztj (S:St) (p:Place):St:={S with F:=fun b=>S.F b∨∃ρ,S.own b=some (pa p ρ),own:=fun b=>if∃ρ,S.own b=some (pa p ρ)then none else S.own b}
def frz_own{S:St}{p:Place}{b:Nat}{q:Place}(h:S.own b=some q)(hn:∀ρ,q≠pa p ρ):(ztj S p).own b=some q:=by
 unfold ztj
 grind
def frz_none{S:St}{p:Place}{b:Nat}(h:S.own b=none):(ztj S p).own b=none:=by
 unfold ztj
 grind
def zmc{r:Nat}{π ρ:List Nat}{q:List Nat}(h:((r,q):Place)=pa (r,π) ρ):π <+: q:=by
 simp only[pa,xba,xgt]at h
 exact⟨ρ,h.symm⟩
def InvOf.freeze(h:InvOf P c σ a S){r:Nat}{t:Ty}{m m' k:Md}{x:t.den}{π:List Nat}{s:Ty}{y:s.den}(hr:(σ r).e=.v t m x)(hm:zbe π t m=some k)(hg:getP π t x=some ⟨s,y⟩)(ho:okP S π t (r,[]))
  (hn:k.nobw=true) (hv:live s k=true) (hs:setM π t m .sh=some m'):∃S',InvOf P c (set1 σ r (.v t m' x) 2) a S'∧S'.w=S.w:=by
 refine⟨ztj S (r,π),?_,rfl⟩
 have hsr:=h.slot hr
 obtain⟨s',y',l,cs',h1,h2,h3,h4⟩:=Rel.at hsr.1 hm ho
 rw[hg]at h1
 cases h1
 have hpa:∀ρ,pa (r,[]) ρ=(r,ρ):=fun ρ=>by simp[pa]
 rw[hpa]at h3
 have hsh:Rel P s (ztj S (r,π)) .sh (r,π) y cs':=Rel.share (q:=false) (.inl rfl) h3 (.inr hn) hv
  ⟨fun b hb=>⟨.inl hb,rfl⟩,fun h=>(by cases h),fun b ρ hb=>⟨.inl (.inr ⟨ρ,hb⟩),rfl⟩⟩
 have hfr:∀b0,Fr S (ztj S (r,π)) (r,[]) π b0:=fun b0=>⟨fun b hb=>.inl hb,fun _ _=>rfl,fun b hb=>.inr hb,fun _ _=>rfl,fun _ _=>rfl,fun b ρ hρ hb=>by
  rw[hpa]at hb ⊢
  exact⟨frz_own hb fun ρ' he=>hρ (zmc he),fun _=>rfl⟩⟩
 have hrel:Rel P t (ztj S (r,π)) m' (r,[]) x (zab t (tmv a r)):=by
  refine hsr.1.updAt h2 hs (zfm hg) ho ?_
  obtain⟨q,o⟩:=l
  cases q with
  |none=>
   grind
  |some q=>
   obtain⟨b,h5,h6,h7,cur,e,h8⟩:=h4
   refine⟨b,cur,cur,e,h5,h6,h8,h8,rfl,fun _ _=>rfl,hfr _,?_⟩
   rw[hpa,←zlr h8,←h7]
   exact hsh
 refine h.rebuild (fun t=>t=r) h.defers h.size (fun t ht=>⟨zan σ _ _ ht,rfl⟩) (fun t ht=>?_) (fun t ht=>?_) (fun b hb=>.inl hb) (fun _ _=>rfl) rfl (fun _ _=>rfl) (fun _ _ _=>rfl) (fun t ht b q hb=>⟨frz_own hb fun ρ he=>ht (by cases he;rfl),rfl⟩)
  (fun b hb=>?_) (fun b hb=>frz_none (h.borrowed b hb).1) (fun b p hp=>?_) rfl rfl rfl (xak _) (fun _ _ _=>rfl)
 ·subst ht
  exact .bump (h.gens t) hr (zah σ t _ 2) (fun h=>by cases h) fun _ _ _=>rfl
 ·subst ht
  exact .v (zbi σ t _ 2) ⟨hrel,hsr.2⟩
 ·rcases hb with hb|⟨ρ,hb⟩
  ·exact⟨frz_none (h.shared b hb).1,(h.shared b hb).2⟩
  ·refine⟨?_,(h.owned b _ hb).1,.inr (h.owned b _ hb).2⟩
   unfold ztj
   simp only
   rw[if_pos ⟨ρ,hb⟩]
 ·have:S.own b=some p:=by
   unfold ztj at hp
   simp_all
  exact h.owned b p this
end
def Md.noown:Md→Bool
 | .own _ _=>false
 | .pr a b=>a.noown&&b.noown
 |_=>true
def Md.noown_l{m:Md}(h:m.noown=true):m.l.noown=true:=by
 cases m<;>first | exact h | (simp only[Md.noown,xan]at h;exact h.1)
def Md.noown_r{m:Md}(h:m.noown=true):m.r.noown=true:=by
 cases m<;>first | exact h | (simp only[Md.noown,xan]at h;exact h.2)
def zwh:∀(t:Ty) (m:Md),leM t m .dead=true:=by
 intro t
 induction t with
 |pair a b iha ihb=>intro m;simp only[leM,Md.l,Md.r];simp[iha,ihb]
 |arr n t ih=>intro m;exact ih m
 |_=>intro m;cases m<;>rfl
section
variable {P:Program} {c:Ctx} {σ σ':Env} {a a':Act} {S S':St}
structure Fut2(S S':St):Prop where
 F:∀b,S.F b→S'.F b∧S'.w.heap[b]?=S.w.heap[b]?
 B:∀b,S.B b→(S'.F b∨S'.B b)∧S'.w.heap[b]?=S.w.heap[b]?
def Fut2.refl(S:St):Fut2 S S:=⟨fun _ h=>⟨h,rfl⟩,fun _ h=>⟨.inr h,rfl⟩⟩
def Fut2.sh(h:Fut2 S S')(m:Md):Fut m S S':=⟨fun b hb=>(h.F b hb).1,fun b _ hb=>(h.B b hb).1,fun b hb=>hb.elim (fun hb=>(h.F b hb).2) fun hb=>(h.B b hb.2).2⟩
def Rel.free:∀{t:Ty} {m:Md} {p p':Place} {x:t.den} {cs cs':Cs},Rel P t S m p x cs→m.noown=true→Fut2 S S'→(∀i,i<t.size→cs' i=cs i)→Rel P t S' m p' x cs':=by
 intro t
 have sb:∀{t:Ty} {m:Md} {p p':Place} {x:t.den} {cs cs':Cs},m=.sh∨m=.bw→Rel P t S m p x cs→Fut2 S S'→(∀i,i<t.size→cs' i=cs i)→Rel P t S' m p' x cs':=fun hm h hf hc=>h.fut hm (hf.sh _) hc
 have d1:∀{cs cs':Cs},zla cs→(∀i,i<1→cs' i=cs i)→zla cs':=fun h hc=>by
  obtain⟨u,h1,h2⟩:=h;exact⟨u,(hc 0 Nat.one_pos).trans h1,h2⟩
 induction t with
 |unit=>intro m p p' x cs cs' h hm hf hc;trivial
 |pair a b iha ihb=>
  intro m p p' x cs cs' h hm hf hc
  simp only[Ty.size]at hc
  exact⟨iha h.1 (Md.noown_l hm) hf fun i hi=>hc i (by omega),ihb h.2 (Md.noown_r hm) hf fun i hi=>hc _ (by omega)⟩
 |arr n t ih=>
  intro m p p' x cs cs' h hm hf hc
  simp only[Ty.size]at hc
  refine⟨h.1,fun i hi=>ih (h.2 i hi) hm hf fun j hj=>hc _ ?_⟩
  have:=h.1
  have:(i+1)*t.size≤n*t.size:=xav _ (by omega)
  grind
 |alt tid a b iha ihb=>
  intro m p p' x cs cs' h hm hf hc
  by_cases hmd:m=.dead
  ·subst hmd;exact d1 h hc
  ·cases x with
   |inl y=>
    rw[Rel.alt_inl hmd]at h ⊢
    obtain⟨v,h1,h2,h3⟩:=h
    exact⟨v,(hc 0 Nat.one_pos).trans h1,iha h2 hm hf fun _ _=>rfl,h3⟩
   |inr z=>
    rw[Rel.alt_inr hmd]at h ⊢
    exact⟨h.1,ihb h.2 hm hf fun i hi=>hc i (by have:=h.1;simp only[Ty.size];omega)⟩
 |int k=>
  intro m p p' x cs cs' h hm hf hc
  have h0:=hc 0 Nat.one_pos
  cases m<;>first | exact d1 h hc | exact⟨h0.trans h.1,h.2⟩
 |bool=>
  intro m p p' x cs cs' h hm hf hc
  have h0:=hc 0 Nat.one_pos
  cases m<;>first | exact d1 h hc | exact h0.trans h
 |str=>
  intro m p p' x cs cs' h hm hf hc
  have h0:=hc 0 Nat.one_pos
  cases m<;>first|exact d1 h hc|(obtain⟨s,h1,h2⟩:=h;exact⟨s,h0.trans h1,h2⟩)
 |nilI=>
  intro m p p' x cs cs' h hm hf hc
  have h0:=hc 0 Nat.one_pos
  cases m<;>first | exact d1 h hc | exact h0.trans h
 |slice t ih=>
  intro m p p' x cs cs' h hm hf hc
  cases m with
  |sh=>exact sb (.inl rfl) h hf hc
  |bw=>exact sb (.inr rfl) h hf hc
  |own=>cases hm
  |pr=>exact h.2.2.elim
  |dead=>exact⟨h.1,h.2.1,d1 h.2.2 hc⟩
 |ptr t ih=>
  intro m p p' x cs cs' h hm hf hc
  cases m with
  |sh=>exact sb (.inl rfl) h hf hc
  |bw=>exact sb (.inr rfl) h hf hc
  |own=>cases hm
  |pr=>exact h.elim
  |dead=>exact d1 h hc
 |fn1 a r iha ihr=>
  intro m p p' x cs cs' h hm hf hc
  cases m with
  |sh=>exact sb (.inl rfl) h hf hc
  |bw=>exact sb (.inr rfl) h hf hc
  |own=>cases hm
  |pr=>exact h.elim
  |dead=>exact d1 h hc
 |fn2 a b r iha ihb ihr=>
  intro m p p' x cs cs' h hm hf hc
  cases m with
  |sh=>exact sb (.inl rfl) h hf hc
  |bw=>exact sb (.inr rfl) h hf hc
  |own=>cases hm
  |pr=>exact h.elim
  |dead=>exact d1 h hc
def Rel.dead_any:∀{t:Ty} {p p':Place} {x:t.den} {cs cs':Cs},Rel P t S .dead p x cs→(∀i,i<t.size→cs' i=cs i)→Rel P t S' .dead p' x cs':=by
 intro t
 have d1:∀{cs cs':Cs},zla cs→(∀i,i<1→cs' i=cs i)→zla cs':=fun h hc=>by
  obtain⟨u,h1,h2⟩:=h;exact⟨u,(hc 0 Nat.one_pos).trans h1,h2⟩
 induction t with
 |unit=>intro p p' x cs cs' h hc;trivial
 |pair a b iha ihb=>
  intro p p' x cs cs' h hc
  simp only[Ty.size]at hc
  exact⟨iha h.1 fun i hi=>hc i (by omega),ihb h.2 fun i hi=>hc _ (by omega)⟩
 |arr n t ih=>
  intro p p' x cs cs' h hc
  simp only[Ty.size]at hc
  refine⟨h.1,fun i hi=>ih (h.2 i hi) fun j hj=>hc _ ?_⟩
  have:=h.1
  have:(i+1)*t.size≤n*t.size:=xav _ (by omega)
  grind
 |slice t ih=>intro p p' x cs cs' h hc;exact⟨h.1,h.2.1,d1 h.2.2 hc⟩
 |_=>intro p p' x cs cs' h hc;exact d1 h hc
def SR.free{t:Ty}{m:Md}{p p':Place}{x:t.den}{v:Value}(h:SR P t S m p x v)(hm:m.noown=true)(hf:Fut2 S S'):SR P t S' m p' x v:=⟨h.1.free hm hf fun _ _=>rfl,h.2⟩
open Classical in
noncomputable def mv (S:St) (p q:Place):St:={S with
 own:=fun b=>if h:∃ρ,S.own b=some (pa p ρ)then some (pa q (Classical.choose h))else S.own b
 hv:=fun z=>if h:∃ρ,z=pa q ρ then S.hv (pa p (Classical.choose h))else S.hv z}
def mv_own{p q:Place}{ρ:List Nat}{b:Nat}(h:S.own b=some (pa p ρ)):(mv S p q).own b=some (pa q ρ):=by
 have hex:∃ρ,S.own b=some (pa p ρ):=⟨ρ,h⟩
 unfold mv
 simp only
 rw[dif_pos hex]
 have:=zpa (xbo (h.symm.trans (xdy hex)))
 grind
def zdt{p q:Place}{b:Nat}{z:Place}(h:S.own b=some z)(hn:∀ρ,z≠pa p ρ):(mv S p q).own b=some z:=by
 unfold mv
 grind
def mv_none{p q:Place}{b:Nat}(h:S.own b=none):(mv S p q).own b=none:=by
 unfold mv
 grind
def mv_owned{p q:Place}{b:Nat}{z:Place}(h:(mv S p q).own b=some z):∃y,S.own b=some y:=by
 cases ho:S.own b with
 |none=>rw[mv_none ho]at h;cases h
 |some y=>exact⟨y,rfl⟩
def mv_hv{p q:Place}(ρ:List Nat):(mv S p q).hv (pa q ρ)=S.hv (pa p ρ):=by
 have hex:∃r,pa q ρ=pa q r:=⟨ρ,rfl⟩
 unfold mv
 simp only
 rw[dif_pos hex,←zpa (xdy hex)]
def zea{p q z:Place}(hn:∀ρ,z≠pa q ρ):(mv S p q).hv z=S.hv z:=by
 unfold mv
 grind
def mv_tr(S:St)(p q:Place):Tr true S (mv S p q) p q:=⟨fun _ h=>h,fun _ _=>rfl,fun _ _ h=>.inr h,fun _ _ _=>rfl,mv_hv,fun _ _ hb=>⟨mv_own hb,rfl⟩⟩
def zdr{r:Nat}{π ρ:List Nat}{z:Place}(h:z=pa (r,π) ρ):z.1=r:=by rw[h];rfl
def InvOf.mvOwned(h:InvOf P c σ a S){p q:Place}:(∀b,S.F b→(mv S p q).own b=none∧b<S.w.heap.size∧(c.F0 b∨c.w0.heap.size≤b∨c.O b))∧(∀b,c.B b→(mv S p q).own b=none) ∧
  (∀b z,(mv S p q).own b=some z→b<S.w.heap.size∧(c.w0.heap.size≤b∨c.O b)):=
 ⟨fun b hb=>⟨mv_none (h.shared b hb).1,(h.shared b hb).2⟩,fun b hb=>mv_none (h.borrowed b hb).1,fun b z hz=>by obtain⟨y,hy⟩:=mv_owned hz;exact h.owned b y hy⟩
def InvOf.moveAll(h:InvOf P c σ a S){s d:Nat}{t:Ty}{m:Md}{x:t.den}(hs:(σ s).e=.v t m x)(hne:s≠d)(hd:d<c.N) :
  InvOf P c (set1 (set1 σ s .dead 0) d (.v t m x) 0) (a.put (some d) (tmv a s)) (mv S (s,[]) (d,[])):=by
 have hsr:=h.slot hs
 obtain⟨q1,q2,q3⟩:=h.mvOwned (p:=(s,[])) (q:=(d,[]))
 refine h.rebuild (fun t=>t=s∨t=d) (by simpa[Act.put]using h.defers) (by simpa[Act.put]using h.size)
  (fun t ht=>⟨by rw[zan _ _ _ (fun e=>ht (.inr e)),zan _ _ _ (fun e=>ht (.inl e))],zbj fun e=>ht (.inr e)⟩) (fun r hr=>?_) (fun t ht=>?_) (fun _ h=>h) (fun _ _=>rfl) rfl (fun _ _=>rfl)
  (fun t ht q=>zea fun ρ he=>ht (.inr (zdr he))) (fun t ht b q hb=>⟨zdt hb fun ρ he=>ht (.inl (zdr he)),rfl⟩) q1 q2 q3 rfl rfl rfl (xak _) (fun _ _ _=>rfl)
 ·by_cases hrd:r=d
  ·subst hrd
   exact⟨by rw[zah];exact xak _,.inl (by rw[zah,zan _ _ _ (Ne.symm hne)];exact xct _)⟩
  ·have hrs:=hr.resolve_right hrd
   subst hrs
   exact⟨by rw[zan _ _ _ hrd,zah];exact xak _,.inl (by rw[zan _ _ _ hrd,zah];exact xct _)⟩
 ·by_cases htd:t=d
  ·subst htd
   refine .v (zbi _ _ _ 0) ?_
   rw[zai (by rw[h.size];exact hd)]
   exact hsr.mono (.inl rfl) (mv_tr S _ _)
  ·have hts:=ht.resolve_right htd
   subst hts
   unfold SlotOK
   rw[zan _ _ _ htd,zbi]
   trivial
def InvOf.moveTup(h:InvOf P c σ a S){s d:Nat}{es:List TM}(hs:(σ s).e=.tup es)(hne:s≠d)(hd:d<c.N) :
  InvOf P c (set1 (set1 σ s .dead 0) d (.tup es) 0) (a.put (some d) (tmv a s)) (mv S (s,[]) (d,[])):=by
 have hsr:=h.slots s
 unfold SlotOK at hsr
 rw[hs]at hsr
 obtain⟨q1,q2,q3⟩:=h.mvOwned (p:=(s,[])) (q:=(d,[]))
 refine h.rebuild (fun t=>t=s∨t=d) (by simpa[Act.put]using h.defers) (by simpa[Act.put]using h.size)
  (fun t ht=>⟨by rw[zan _ _ _ (fun e=>ht (.inr e)),zan _ _ _ (fun e=>ht (.inl e))],zbj fun e=>ht (.inr e)⟩) (fun r hr=>?_) (fun t ht=>?_) (fun _ h=>h) (fun _ _=>rfl) rfl (fun _ _=>rfl)
  (fun t ht q=>zea fun ρ he=>ht (.inr (zdr he))) (fun t ht b q hb=>⟨zdt hb fun ρ he=>ht (.inl (zdr he)),rfl⟩) q1 q2 q3 rfl rfl rfl (xak _) (fun _ _ _=>rfl)
 ·by_cases hrd:r=d
  ·subst hrd
   exact⟨by rw[zah];exact xak _,.inl (by rw[zah,zan _ _ _ (Ne.symm hne)];exact xct _)⟩
  ·have hrs:=hr.resolve_right hrd
   subst hrs
   exact⟨by rw[zan _ _ _ hrd,zah];exact xak _,.inl (by rw[zan _ _ _ hrd,zah];exact xct _)⟩
 ·by_cases htd:t=d
  ·subst htd
   unfold SlotOK
   rw[zbi,zai (by rw[h.size];exact hd)]
   obtain⟨vs,h1,h2,h3⟩:=hsr
   refine⟨vs,h1,h2,fun k e hk=>?_⟩
   obtain⟨u,h4,h5⟩:=h3 k e hk
   exact⟨u,h4,h5.mono (.inl rfl) ((mv_tr S _ _).px k)⟩
  ·have hts:=ht.resolve_right htd
   subst hts
   unfold SlotOK
   rw[zan _ _ _ htd,zbi]
   trivial
def zbh(r:Nat)(ρ:List Nat):pa (r,[]) ρ=(r,ρ):=by simp[pa]
def InvOf.takePart(h:InvOf P c σ a S){s d:Nat}{t u:Ty}{m m' k:Md}{x:t.den}{y:u.den}{π:List Nat}(hs:(σ s).e=.v t m x)(hne:s≠d)(hd:d<c.N)(hm:zbe π t m=some k)(hg:getP π t x=some ⟨u,y⟩)
  (ho:okP S π t (s,[])) (hset:setM π t m .dead=some m') {v:Value} (hv:∀cs l,locP π t=some l→(match l with
   |(none,o)=>cs=fun i=>zab t (tmv a s) (o+i)
   |(some q,o)=>∃b,hvB (S.hv (s,q))=some b∧cs=blk S.w b o)→∀i,i<u.size→zab u v i=cs i) (hagg:zgg u v) :
  InvOf P c (set1 (set1 σ s (.v t m' x) 2) d (.v u k y) 0) (a.put (some d) v) (mv S (s,π) (d,[])):=by
 have hsr:=h.slot hs
 obtain⟨q1,q2,q3⟩:=h.mvOwned (p:=(s,π)) (q:=(d,[]))
 obtain⟨u',y',l,cs',h1,h2,h3,h4⟩:=Rel.at hsr.1 hm ho
 rw[hg]at h1
 cases h1
 rw[zbh]at h3
 have hcell:∀i,i<u.size→zab u v i=cs' i:=hv cs' l h2 (by
  obtain⟨q,o⟩:=l
  cases q with
  |none=>exact h4
  |some q=>obtain⟨b,h5,h6,h7,_⟩:=h4;rw[zbh]at h5;exact⟨b,h5,h7⟩)
 have hfr:∀b0,Fr S (mv S (s,π) (d,[])) (s,[]) π b0:=fun b0=>⟨fun _ h=>h,fun _ _=>rfl,fun _ h=>.inr h,fun _ _=>rfl,fun r _=>zea fun ρ he=>hne (zdr he),fun b r hr hb=>⟨zdt hb fun ρ he=>by rw[zbh]at he;exact hr (zmc he),fun _=>rfl⟩⟩
 have hdead:Rel P u (mv S (s,π) (d,[])) .dead (s,π) y cs':=(h3.weaken (zwh u k)).dead_any fun _ _=>rfl
 have hrel:Rel P t (mv S (s,π) (d,[])) m' (s,[]) x (zab t (tmv a s)):=by
  refine hsr.1.updAt h2 hset (zfm hg) ho ?_
  obtain⟨q,o⟩:=l
  cases q with
  |none=>
   refine⟨hfr _,?_⟩
   rw[zbh]
   have h4':cs'=fun i=>zab t (tmv a s) (o+i):=h4
   rw[←h4']
   exact hdead
  |some q=>
   obtain⟨b,h5,h6,h7,cur,e,h8⟩:=h4
   refine⟨b,cur,cur,e,h5,h6,h8,h8,rfl,fun _ _=>rfl,hfr _,?_⟩
   rw[zbh,←zlr h8,←h7]
   exact hdead
 refine h.rebuild (fun t=>t=s∨t=d) (by simpa[Act.put]using h.defers) (by simpa[Act.put]using h.size)
  (fun t ht=>⟨by rw[zan _ _ _ (fun e=>ht (.inr e)),zan _ _ _ (fun e=>ht (.inl e))],zbj fun e=>ht (.inr e)⟩) (fun r hr=>?_) (fun t ht=>?_) (fun _ h=>h) (fun _ _=>rfl) rfl (fun _ _=>rfl)
  (fun t ht q=>zea fun ρ he=>ht (.inr (zdr he))) (fun t ht b q hb=>⟨zdt hb fun ρ he=>ht (.inl (zdr he)),rfl⟩) q1 q2 q3 rfl rfl rfl (xak _) (fun _ _ _=>rfl)
 ·by_cases hrd:r=d
  ·subst hrd
   exact⟨by rw[zah];exact xak _,.inl (by rw[zah,zan _ _ _ (Ne.symm hne)];exact xct _)⟩
  ·have hrs:=hr.resolve_right hrd
   subst hrs
   exact .bump (k:=2) (h.gens r) hs (by rw[zan _ _ _ hrd,zah]) (fun h=>by cases h) fun _ _ q=>zea fun ρ he=>hrd (zdr he)
 ·by_cases htd:t=d
  ·subst htd
   refine .v (zbi _ _ _ 0) ?_
   rw[zai (by rw[h.size];exact hd)]
   exact⟨h3.mono (.inl rfl) (mv_tr S _ _) hcell,hagg⟩
  ·have hts:=ht.resolve_right htd
   subst hts
   refine .v (by rw[zan _ _ _ htd,zbi]) ?_
   rw[zbj htd]
   exact⟨hrel,hsr.2⟩
def zbp{t:Ty}{m:Md}{p:Place}{x:t.den}{v:Value}(h:SR P t S m p x v):v.cells.size=t.size∧(∀i,i<t.size→v.cells[i]?=zab t v i)∧∀u∈v.cells.toList,u.oneCell'=true:=by
 have hc:=h.1.cells
 by_cases hag:t.agg=true
 ·obtain⟨cs,rfl,h2⟩:=h.2 hag
  have he:zab t (.agg cs)=fun i=>cs[i]?:=by unfold zab;rw[if_pos hag]
  rw[he]at hc ⊢
  refine⟨h2,fun _ _=>rfl,fun u hu=>?_⟩
  obtain⟨i,hi,rfl⟩:=xcm hu
  simp only[Value.cells,xcc]at hi
  obtain⟨u,h3,h4⟩:=hc i (by omega)
  have h5:cs[i]?=some u:=h3
  rw[xcg hi]at h5
  cases h5
  simpa[Value.cells]using h4
 ·have hs:t.size=1:=by cases t<;>first | rfl | exact absurd rfl hag
  have he:zab t v=fun i=>if i=0 then some v else none:=by unfold zab;rw[if_neg hag]
  rw[he,hs]at hc
  obtain⟨u,h1,h2⟩:=hc 0 Nat.one_pos
  simp at h1
  subst h1
  have hv:v.cells=#[v]:=by cases v<;>first | rfl | cases h2
  grind
def splice(cur:Array Value)(o:Nat)(vs:List Value):Array Value:=(cur.toList.take o++vs++cur.toList.drop (o+vs.length)).toArray
def zig{cur:Array Value}{o:Nat}{vs:List Value}(h:o+vs.length≤cur.size):(splice cur o vs).size=cur.size:=by
 unfold splice
 grind
def znq{cur:Array Value}{o:Nat}{vs:List Value}(h:o+vs.length≤cur.size){i:Nat}(hi:i<o∨o+vs.length≤i):(splice cur o vs)[i]?=cur[i]?:=by
 unfold splice
 grind
def zra{cur:Array Value}{o:Nat}{vs:List Value}(h:o+vs.length≤cur.size){i:Nat}(hi:i<vs.length):(splice cur o vs)[o+i]?=vs[i]?:=by
 unfold splice
 grind
def InvOf.overwrite(h:InvOf P c σ a S){S1:St}{r:Nat}{t u:Ty}{m m' k:Md}{x x':t.den}{y:u.den}{π q:List Nat}{o b:Nat}{cur:Array Value}{e:TypeId}(hr:(σ r).e=.v t m x)
  (hl:locP π t=some (some q,o)) (ho:okP S π t (r,[])) (hh:hvB (S.hv (r,q))=some b) (hw:S.own b=some (r,q)) (hb:S.w.heap[b]?=some (.cells cur e (0,0))) (hm:setM π t m k=some m') (hx:setP π t x ⟨u,y⟩=some x')
  {v:Value} {vs:List Value} (hvs:vs.length=u.size) (hfit:o+u.size≤cur.size) (hcell:∀i,i<u.size→vs[i]?=zab u v i)
  (hS1:S1.w=S.w.setRow b (splice cur o vs)) (hfr:Fr S S1 (r,[]) π (some b)) (hy:Rel P u S1 k (r,π) y (zab u v)):Rel P t S1 m' (r,[]) x' (zab t (tmv a r)):=by
 refine(h.slot hr).1.updAt hl hm hx ho ⟨b,cur,splice cur o vs,e,by rw[zbh];exact hh,by rw[zbh];exact hw,hb,by rw[hS1];exact setRow_heap S.w b cur _ e _ hb,zig (by omega),fun i hi=>znq (by omega) (by omega),hfr,?_⟩
 rw[zbh]
 refine hy.mono (q:=true) (.inl rfl) ⟨fun _ h=>h,fun _ _=>rfl,fun _ _ h=>.inr h,fun _ _ _=>rfl,fun _=>rfl,fun _ _ h=>⟨h,rfl⟩⟩ fun i hi=>?_
 rw[zra (by omega) (by omega),hcell i hi]
def InvOf.store(h:InvOf P c σ a S){r:Nat}{t u:Ty}{m m' k:Md}{x x':t.den}{y:u.den}{π q:List Nat}{o b:Nat}{cur:Array Value}{e:TypeId}(hr:(σ r).e=.v t m x)
  (hl:locP π t=some (some q,o)) (ho:okP S π t (r,[])) (hh:hvB (S.hv (r,q))=some b) (hw:S.own b=some (r,q)) (hb:S.w.heap[b]?=some (.cells cur e (0,0))) (hm:setM π t m k=some m') (hx:setP π t x ⟨u,y⟩=some x')
  {v:Value} {p:Place} (hfit:o+u.size≤cur.size) (hv:SR P u S k p y v) (hk:k.noown=true) :
  InvOf P c (set1 σ r (.v t m' x') 2) a {S with w:=S.w.setRow b (splice cur o v.cells.toList)}:=by
 obtain⟨hv1,hv2,_⟩:=zbp hv
 have hne:∀b',S.own b'=none→b'≠b:=fun b' hb' he=>by rw[he,hw]at hb';cases hb'
 have hrow:∀b',b'≠b→(S.w.setRow b (splice cur o v.cells.toList)).heap[b']?=S.w.heap[b']?:=fun b' hb'=>setRow_other S.w b b' _ hb'
 have hneF:∀b',S.F b'→b'≠b:=fun b' hb'=>hne b' (h.shared b' hb').1
 have hneB:∀b',S.B b'→b'≠b:=fun b' hb'=>hne b' (h.WF.borrowed b' hb').1
 have hf2:Fut2 S {S with w:=S.w.setRow b (splice cur o v.cells.toList)}:=⟨fun b' hb'=>⟨hb',hrow b' (hneF b' hb')⟩,fun b' hb'=>⟨.inr hb',hrow b' (hneB b' hb')⟩⟩
 have hrel:=h.overwrite (S1:={S with w:=S.w.setRow b (splice cur o v.cells.toList)}) hr hl ho hh hw hb hm hx (v:=v) (vs:=v.cells.toList) (by simpa using hv1) hfit (fun i hi=>by simpa using hv2 i hi) rfl
  ⟨fun _ h=>h,fun b' hb'=>hrow b' (hneF b' hb'),fun _ h=>.inr h,fun b' hb'=>hrow b' (hneB b' hb'),fun _ _=>rfl,fun b' r' _ hb'=>⟨hb',fun he=>hrow b' (fun hh=>he (by rw[hh]))⟩⟩ ((hv.free (p':=(r,π)) hk hf2).1)
 refine h.rebuild (fun t=>t=r) h.defers h.size (fun t ht=>⟨zan σ _ _ ht,rfl⟩) (fun t ht=>?_) (fun t ht=>?_) (fun _ h=>h) (fun b' hb'=>hrow b' (hneF b' hb')) rfl (fun b' hb'=>hrow b' (hneB b' hb')) (fun _ _ _=>rfl)
  (fun t ht b' q' hb'=>⟨hb',hrow b' (fun he=>by rw[he,hw]at hb';cases hb';exact ht rfl)⟩) (fun b' hb'=>⟨(h.shared b' hb').1,by simpa[World.setRow]using(h.shared b' hb').2.1,(h.shared b' hb').2.2⟩) (fun b' hb'=>(h.borrowed b' hb').1)
  (fun b' p' hp'=>⟨by simpa[World.setRow]using(h.owned b' p' hp').1,(h.owned b' p' hp').2⟩) rfl rfl rfl (by simp[World.setRow]) (fun b' hlt hO=>hrow b' fun he=>?_)
 ·subst ht
  exact .bump (h.gens t) hr (zah σ t _ 2) (fun h=>by cases h) fun _ _ _=>rfl
 ·subst ht
  exact .v (zbi σ t _ 2) ⟨hrel,(h.slot hr).2⟩
 ·subst he
  rcases(h.owned b' _ hw).2 with h1|h1
  ·omega
  ·exact hO h1
def InvOf.give(h:InvOf P c σ a S){r s:Nat}{t u:Ty}{m m' k:Md}{x x':t.den}{y:u.den}{π q:List Nat}{o b:Nat}{cur:Array Value}{e:TypeId}(hr:(σ r).e=.v t m x)(hs:(σ s).e=.v u k y)(hne:s≠r)
  (hl:locP π t=some (some q,o)) (ho:okP S π t (r,[])) (hq:π≠ []) (hh:hvB (S.hv (r,q))=some b) (hw:S.own b=some (r,q)) (hb:S.w.heap[b]?=some (.cells cur e (0,0))) (hm:setM π t m k=some m') (hx:setP π t x ⟨u,y⟩=some x')
  (hfit:o+u.size≤cur.size) :
  InvOf P c (set1 (set1 σ s .dead 0) r (.v t m' x') 1) a {mv S (s,[]) (r,π)with w:=S.w.setRow b (splice cur o (tmv a s).cells.toList)}:=by
 have hv:=h.slot hs
 obtain⟨hv1,hv2,_⟩:=zbp hv
 obtain⟨q1,q2,q3⟩:=h.mvOwned (p:=(s,[])) (q:=(r,π))
 have hne':∀b',S.own b'=none→b'≠b:=fun b' hb' he=>by rw[he,hw]at hb';cases hb'
 have hrow:∀b',b'≠b→(S.w.setRow b (splice cur o (tmv a s).cells.toList)).heap[b']?=S.w.heap[b']?:=fun b' hb'=>setRow_other S.w b b' _ hb'
 have hneF:∀b',S.F b'→b'≠b:=fun b' hb'=>hne' b' (h.shared b' hb').1
 have hneB:∀b',S.B b'→b'≠b:=fun b' hb'=>hne' b' (h.WF.borrowed b' hb').1
 have hbs:∀b' ρ,S.own b'=some (pa (s,[]) ρ)→b'≠b:=fun b' ρ hb' he=>by rw[he,hw]at hb';rw[zbh]at hb';cases hb';exact hne rfl
 have hT:Tr true S {mv S (s,[]) (r,π)with w:=S.w.setRow b (splice cur o (tmv a s).cells.toList)} (s,[]) (r,π):=
  ⟨fun _ h=>h,fun b' hb'=>hrow b' (hneF b' hb'),fun _ _ h=>.inr h,fun _ b' hb'=>hrow b' (hneB b' hb'),mv_hv,fun b' ρ hb'=>⟨mv_own hb',hrow b' (hbs b' ρ hb')⟩⟩
 have hrel:=h.overwrite (S1:={mv S (s,[]) (r,π)with w:=S.w.setRow b (splice cur o (tmv a s).cells.toList)}) hr hl ho hh hw hb hm hx (v:=tmv a s) (vs:=(tmv a s).cells.toList) (by simpa using hv1) hfit (fun i hi=>by simpa using hv2 i hi) rfl
  ⟨fun _ h=>h,fun b' hb'=>hrow b' (hneF b' hb'),fun _ h=>.inr h,fun b' hb'=>hrow b' (hneB b' hb'),fun ρ hρ=>zea fun ρ' he=>by rw[zbh]at he;exact hρ (zmc he),
   fun b' r' _ hb'=>⟨zdt hb' fun ρ he=>by rw[zbh,zbh]at he;cases he;exact hne rfl,fun he=>hrow b' (fun hh=>he (by rw[hh]))⟩⟩ (hv.1.mono (.inl rfl) hT fun _ _=>rfl)
 refine h.rebuild (fun t=>t=s∨t=r) h.defers h.size (fun t ht=>⟨by rw[zan _ _ _ (fun e=>ht (.inr e)),zan _ _ _ (fun e=>ht (.inl e))],rfl⟩) (fun t ht=>?_) (fun t ht=>?_) (fun _ h=>h) (fun b' hb'=>hrow b' (hneF b' hb')) rfl (fun b' hb'=>hrow b' (hneB b' hb'))
  (fun t ht q=>zea fun ρ he=>ht (.inr (zdr he))) (fun t ht b' q' hb'=>⟨zdt hb' fun ρ he=>ht (.inl (zdr he)),hrow b' (fun he=>by rw[he,hw]at hb';cases hb';exact ht (.inr rfl))⟩)
  (fun b' hb'=>⟨(q1 b' hb').1,by simpa[World.setRow]using(q1 b' hb').2.1,(q1 b' hb').2.2⟩) q2 (fun b' p' hp'=>⟨by simpa[World.setRow]using(q3 b' p' hp').1,(q3 b' p' hp').2⟩) rfl rfl rfl (by simp[World.setRow]) (fun b' hlt hO=>hrow b' fun he=>?_)
 ·by_cases htr:t=r
  ·subst htr
   refine .bump (k:=1) (h.gens t) hr (by rw[zah,zan _ _ _ (Ne.symm hne)]) (fun _=>zea fun ρ he=>?_) fun _ h=>absurd rfl h
   simp only[pa,xba,xgt]at he
   exact hq (xjy.1 he.symm).1
  ·have hts:=ht.resolve_right htr
   subst hts
   exact⟨by rw[zan _ _ _ htr,zah];exact xak _,.inl (by rw[zan _ _ _ htr,zah];exact xct _)⟩
 ·by_cases htr:t=r
  ·subst htr
   exact .v (zbi _ _ _ 1) ⟨hrel,(h.slot hr).2⟩
  ·have hts:=ht.resolve_right htr
   subst hts
   unfold SlotOK
   rw[zan _ _ _ htr,zbi]
   trivial
 ·subst he
  rcases(h.owned b' _ hw).2 with h1|h1
  ·omega
  ·exact hO h1
end
end Go.X
