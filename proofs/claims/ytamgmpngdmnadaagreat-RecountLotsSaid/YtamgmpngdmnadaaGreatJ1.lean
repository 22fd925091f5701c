/- A part of the proof. -/
import Derived.Below
import Derived.Laws.AppendOwn
import Derived.Laws.AppendOwnNone
import Derived.Laws.MakeOwn
import Derived.Laws.OwnMore
import Derived.IntWalk
import Derived.WalkSpells
import Derived.KernelRfl
import Derived.Laws.StructEq
set_option linter.defProp false
set_option linter.unusedSimpArgs false
set_option linter.unusedVariables false
namespace Go
abbrev xaa:=@Option.bind_some
abbrev xab:=@cond_true
abbrev xac:=@Option.map_eq_some_iff
abbrev xad:=@List.getD_eq_getElem?_getD
abbrev xae:=@decide_eq_true
abbrev xaf:=@cond_false
abbrev xag:=@Nat.le_refl
abbrev xah:=@decide_eq_false
abbrev xai:=@Bool.and_self
abbrev xaj:=@List.getElem?_eq_getElem
abbrev xak:=@decide_eq_true_eq
abbrev xal:=@Bool.and_eq_true
abbrev xam:=@Int.toNat_natCast
abbrev xan:=@List.mem_cons_of_mem
abbrev xao:=@List.length_map
abbrev xap:=@Bool.not_false
abbrev xaq:=@Option.some.injEq
abbrev xar:=@List.mem_cons
abbrev xat:=@Bool.not_true
abbrev xau:=@Nat.mul_le_mul_right
abbrev xav:=@Nat.lt_of_lt_of_le
abbrev xaw:=@Prod.mk.injEq
abbrev xax:=@List.length_take
abbrev xay:=@Nat.le_trans
abbrev xaz:=@List.take_length
abbrev xba:=@List.mem_singleton
abbrev xbb:=@Bool.false_eq_true
abbrev xbc:=@of_decide_eq_true
abbrev xbd:=@List.length_cons
abbrev xbe:=@Array.getElem?_toList
abbrev xbf:=@List.getElem_mem
abbrev xbg:=@List.take_of_length_le
abbrev xbh:=@decide_true
abbrev xbi:=@Option.some.inj
abbrev xbj:=@decide_eq_false_iff_not
abbrev xbk:=@Option.bind_eq_some_iff
abbrev xbl:=@List.all_eq_true
abbrev xbm:=@Array.getElem?_eq_some_iff
abbrev xbn:=@List.append_nil
abbrev xbo:=@List.length_append
abbrev xbp:=@List.mem_append
abbrev xbq:=@List.length_replicate
abbrev xbr:=@congrArg
abbrev xbt:=@Nat.mul_assoc
abbrev xbu:=@Bool.true_and
abbrev xbv:=@List.append_assoc
abbrev xbw:=@Nat.lt_succ_self
abbrev xbx:=@Nat.zero_le
abbrev xby:=@Bool.or_false
abbrev xbz:=@Bool.false_or
abbrev xca:=@List.mem_of_mem_take
abbrev xcb:=@Bool.or_true
abbrev xcc:=@List.map_append
abbrev xcd:=@List.length_set
abbrev xce:=@Nat.mul_comm
abbrev xcf:=@Array.getElem?_eq_getElem
abbrev xcg:=@if_false
abbrev xch:=@Option.map_some
abbrev xci:=@List.getElem?_map
abbrev xcj:=@Array.length_toList
abbrev xck:=@Nat.zero_add
abbrev xcl:=@Nat.pow_succ
abbrev xcm:=@List.mem_range
abbrev xcn:=@Bool.false_and
abbrev xco:=@Nat.add_mul
abbrev xcp:=@List.take_append_drop
abbrev xcq:=@List.take_zero
abbrev xcr:=@List.length_pos_iff
abbrev xct:=@Bool.or_eq_false_iff
abbrev xcu:=@Nat.mul_le_mul
abbrev xcv:=@Nat.mul_add
abbrev xcw:=@List.length_eq_one_iff
abbrev xcx:=@List.cons_append
abbrev xcy:=@Nat.mul_le_mul_left
abbrev xcz:=@List.mem_cons_self
abbrev xda:=@Int.ofNat_inj
abbrev xdb:=@List.flatMap_cons
abbrev xdc:=@decide_false
abbrev xdd:=@decide_eq_decide
abbrev xde:=@List.getElem?_append_right
abbrev xdf:=@Nat.eq_zero_or_pos
abbrev xdg:=@Bool.true_or
abbrev xdh:=@List.nodup_append
abbrev xdi:=@List.getElem_of_mem
abbrev xdj:=@List.not_mem_nil
abbrev xdk:=@Nat.add_assoc
abbrev xdl:=@Nat.add_zero
abbrev xdm:=@List.getElem?_eq_none
abbrev xdn:=@List.pairwise_cons
abbrev xdo:=@List.map_cons
abbrev xdp:=@List.nil_append
abbrev xdq:=@List.mem_append_left
abbrev xdr:=@List.pairwise_append
abbrev xdt:=@Int.tdiv_eq_ediv_of_nonneg
abbrev xdu:=@Nat.lt_of_le_of_lt
abbrev xdv:=@List.getElem?_take
abbrev xdw:=@Classical.choose_spec
abbrev xdx:=@List.mem_map
abbrev xdy:=@Nat.pow_le_pow_right
abbrev xdz:=@Nat.mod_eq_of_lt
abbrev xea:=@Nat.mul_one
abbrev xeb:=@Bool.eq_iff_iff
abbrev xec:=@List.length_eq_zero_iff
abbrev xed:=@Nat.div_le_self
abbrev xee:=@List.length_nil
abbrev xef:=@List.eq_nil_of_length_eq_zero
abbrev xeg:=@Bool.or_eq_true
abbrev xeh:=@List.size_toArray
abbrev xei:=@List.getElem?_eq_some_iff
abbrev xej:=@List.foldl_append
abbrev xek:=@List.filter_congr
abbrev xel:=@Nat.pow_lt_pow_right
abbrev xem:=@List.eq_of_mem_replicate
abbrev xen:=@Nat.sub_self
abbrev xeo:=@Nat.lt_or_ge
abbrev xep:=@List.mem_map_of_mem
abbrev xeq:=@List.length_drop
abbrev xer:=@List.filter_cons
abbrev xet:=@List.getElem?_cons_zero
abbrev xeu:=@List.mem_of_mem_drop
abbrev xev:=@of_decide_eq_false
abbrev xew:=@Nat.div_div_eq_div_mul
abbrev xex:=@List.pairwise_iff_getElem
abbrev xey:=@List.drop_eq_getElem_cons
abbrev xez:=@Nat.pow_add
abbrev xfa:=@List.map_nil
abbrev xfb:=@List.nodup_cons
abbrev xfc:=@List.getElem?_cons_succ
abbrev xfd:=@List.foldl_cons
abbrev xfe:=@Array.getD_eq_getD_getElem?
abbrev xff:=@Nat.eq_zero_of_not_pos
abbrev xfg:=@List.takeWhile_cons
abbrev xfh:=@List.getElem_set_ne
abbrev xfi:=@List.getD_cons_zero
abbrev xfj:=@List.flatMap_append
abbrev xfk:=@Option.isNone_iff_eq_none
abbrev xfl:=@List.getElem?_append_left
abbrev xfm:=@Nat.min_eq_left
abbrev xfn:=@List.set_append_right
abbrev xfo:=@List.getElem_set_self
abbrev xfp:=@List.ne_nil_of_mem
abbrev xfq:=@List.mem_zipIdx_iff_getElem?
abbrev xfr:=@Nat.zero_mul
abbrev xft:=@List.Perm.refl
abbrev xfu:=@Nat.mod_lt
abbrev xfv:=@Rat.div_def
abbrev xfw:=@List.mem_filter
abbrev xfx:=@List.map_congr_left
abbrev xfy:=@List.drop_eq_nil_of_le
abbrev xfz:=@Array.getElem?_eq_none
abbrev xga:=@Nat.div_lt_iff_lt_mul
abbrev xgb:=@List.filter_append
abbrev xgc:=@List.eq_nil_or_concat
abbrev xgd:=@List.cons_lt_cons_iff
abbrev xge:=@List.concat_eq_append
abbrev xgf:=@Decidable.byContradiction
abbrev xgg:=@Nat.div_lt_of_lt_mul
abbrev xgh:=@List.mem_of_getElem?
abbrev xgi:=@List.headD_cons
abbrev xgj:=@List.getElem_take
abbrev xgk:=@Nat.le_of_lt
abbrev xgl:=@true_and
abbrev xgm:=@List.pairwise_singleton
abbrev xgn:=@List.filter_eq_self
abbrev xgo:=@forall_eq_or_imp
abbrev xgp:=@Nat.div_eq_of_lt
abbrev xgq:=@List.mem_toArray
abbrev xgr:=@List.foldl_nil
abbrev xgt:=@Option.map_eq_none_iff
abbrev xgu:=@List.filter_eq_nil_iff
abbrev xgv:=@Nat.pos_of_ne_zero
abbrev xgw:=@Bool.not_eq_false'
abbrev xgx:=@Nat.mul_lt_mul_of_pos_right
abbrev xgy:=@Nat.div_add_mod
abbrev xgz:=@List.idxOf_lt_length_of_mem
abbrev xha:=@Int.natCast_mul
abbrev xhb:=@or_false
abbrev xhc:=@List.take_sublist
abbrev xhd:=@List.take_add_one
abbrev xhe:=@Decidable.not_not
abbrev xhf:=@Option.ne_none_iff_exists'
abbrev xhg:=@Rat.mkRat_self
abbrev xhh:=@List.mapM_cons
abbrev xhi:=@List.drop_zero
abbrev xhj:=@List.flatMap_nil
abbrev xhk:=@List.ext_getElem
abbrev xhl:=@Rat.le_refl
abbrev xhm:=@Option.bind_eq_bind
abbrev xhn:=@Nat.pow_pos
abbrev xho:=@Int.toNat_of_nonneg
abbrev xhp:=@Rat.not_lt
abbrev xhq:=@Nat.succ_mul
abbrev xhr:=@Nat.mul_right_comm
abbrev xht:=@Nat.mul_ne_zero
abbrev xhu:=@Nat.min_le_left
abbrev xhv:=@List.getElem?_replicate
abbrev xhw:=@Int.eq_ofNat_of_zero_le
abbrev xhx:=@List.ext_getElem?
abbrev xhy:=@Bool.not_eq_true'
abbrev xhz:=@Rat.le_of_lt
abbrev xia:=@Nat.add_comm
abbrev xib:=@List.perm_append_comm
abbrev xic:=@List.mem_append_right
abbrev xid:=@List.length_filter_le
abbrev xie:=@List.cons_prefix_cons
abbrev xif:=@List.length_tail
abbrev xig:=@Go.ChangeShapes.trodVars_none
abbrev xih:=@List.map_take
abbrev xii:=@Rat.not_le
abbrev xij:=@Array.ext'
abbrev xik:=@Option.pure_def
abbrev xil:=@Option.map_none
abbrev xim:=@List.sum_append
abbrev xin:=@List.getD_cons_succ
abbrev xio:=@List.cons.injEq
abbrev xip:=@List.exists_cons_of_ne_nil
abbrev xiq:=@Int.fdiv_eq_ediv_of_nonneg
abbrev xir:=@Nat.sub_zero
abbrev xit:=@Nat.one_lt_two_pow
abbrev xiu:=@Nat.mul_zero
abbrev xiv:=@List.mem_filterMap
abbrev xiw:=@List.getElem_idxOf
abbrev xix:=@List.getElem?_drop
abbrev xiy:=@List.filter_filter
abbrev xiz:=@Int.natAbs_natCast
abbrev xja:=@Int.le_of_lt
abbrev xjb:=@List.tail_cons
abbrev xjc:=@List.nodup_nil
abbrev xjd:=@List.mem_take_iff_getElem
abbrev xje:=@List.drop_drop
abbrev xjf:=@List.idxOf_lt_length_iff
abbrev xjg:=@List.getElem?_take_of_lt
abbrev xjh:=@Sum.inr.injEq
abbrev xji:=@Nat.one_mul
abbrev xjj:=@Nat.min_le_right
abbrev xjk:=@List.nodup_range
abbrev xjl:=@List.any_eq_true
abbrev xjm:=@List.getElem_replicate
abbrev xjn:=@List.getElem_cons_succ
abbrev xjo:=@List.append_eq_nil_iff
abbrev xjp:=@List.Perm.append_right
abbrev xjq:=@forall_eq
abbrev xjr:=@Rat.natCast_mul
abbrev xjt:=@Nat.pow_zero
abbrev xju:=@Nat.le_max_left
abbrev xjv:=@List.range_succ
abbrev xjw:=@BitVec.toNat_or
abbrev xjx:=@Nat.add_mul_div_left
abbrev xjy:=@List.range_eq_range'
abbrev xjz:=@List.getElem?_set_ne
abbrev xka:=@List.flatten_append
abbrev xkb:=@Int.mul_one
abbrev xkc:=@Array.toList_zipIdx
abbrev xkd:=@false_and
abbrev xke:=@decide_eq_true_iff
abbrev xkf:=@Rat.lt_irrefl
abbrev xkg:=@List.all_cons
abbrev xkh:=@Int.emod_lt_of_pos
abbrev xki:=@Array.foldl_toList
abbrev xkj:=@List.take_succ_eq_append_getElem
end Go
namespace Go.X
theorem zdt(p:Prop) [Decidable p](h:p:=by omega):decide p=true:=xae h
theorem zdf(p:Prop) [Decidable p](h:¬p:=by omega):decide p=false:=xah h
open Go Go.RowKit
inductive TyK where
 |int (k:IntKind) | bool | string | slice (e:TypeId) | array (len:Nat) (e:TypeId) | struct (offs:List (Nat×Nat)) | iface | other
structure TyI where
 k:TyK
 size:Nat
 bytes:Nat
 zero:Value
 fa:List (Option Bool)
 eqs:Bool
def tyK(P:Program):TypeDesc->Option TyK
 | .int k=>some (.int k)
 | .bool=>some .bool
 | .string=>some .string
 | .slice e=>some (.slice e)
 | .array l e=>some (.array l e)
 | .struct fs=>(fs.toList.mapM (λf=>(P.info? f.type).map λi=>(f.offset,i.size))).map .struct
 | .interface _=>some .iface
 |_=>some .other
def aggP(P:Program)(t:TypeId):Option Bool:=
 match P.underlying t with
 |some (.struct _) | some (.array _ _)=>some true
 |some _=>some false
 |none=>none
def faP(P:Program):TypeDesc->List (Option Bool)
 | .struct fs=>fs.toList.map λf=>aggP P f.type
 |_=>[]
def eqsP(P:Program)(t:TypeId):Bool:=
  match P.underlying t with
  | some (.struct fs) => !P.stoodInHeld t && (!P.eqGuardType P.depth t && fs.toList.all fun f => decide (f.name ≠ "_") && (match P.underlying f.type with | some (.int _) => true | _ => false))
  |_=>false
def ty(P:Program)(t:TypeId):Option TyI:=
 match P.info? t,P.underlying t with
 |some i,some d=>match i.zero,tyK P d with | some z,some k=>some ⟨k,i.size,i.bytes,z,faP P d,eqsP P t⟩ | _,_=>none
 |_,_=>none
def zbj{P:Program}{t:TypeId}{i:TyI}(h:ty P t=some i) :
  ∃j d,P.info? t=some j/\P.underlying t=some d/\j.zero=some i.zero/\j.size=i.size/\j.bytes=i.bytes/\tyK P d=some i.k:=by
 unfold ty at h;grind
def ty_fa{P:Program}{t:TypeId}{i:TyI}(h:ty P t=some i):∃d,P.underlying t=some d/\i.fa=faP P d/\i.eqs=eqsP P t:=by unfold ty at h;grind
def zfz{P:Program}{d:TypeDesc}{e:TypeId}(h:tyK P d=some (.slice e)):d=.slice e:=by cases d<;>simp[tyK]at h;exact xbr _ h
def zrv{P:Program}{d:TypeDesc}{l:Nat}{e:TypeId}(h:tyK P d=some (.array l e)):d=.array l e:=by cases d<;>simp[tyK]at h;simp[h]
def tyK_int{P:Program}{d:TypeDesc}{k:IntKind}(h:tyK P d=some (.int k)):d=.int k:=by cases d<;>simp[tyK]at h;simp[h]
def tyK_bool{P:Program}{d:TypeDesc}(h:tyK P d=some .bool):d=.bool:=by cases d<;>simp[tyK]at h;rfl
def zos{P:Program}{d:TypeDesc}(h:tyK P d=some .string):d=.string:=by cases d<;>simp[tyK]at h;rfl
def zil{P:Program}{d:TypeDesc}{l:List (Nat×Nat)}(h:tyK P d=some (.struct l)) :
  ∃fs,d=.struct fs/\fs.toList.mapM (λf=>(P.info? f.type).map λi=>(f.offset,i.size))=some l:=by
 cases d with
 |struct fs=>exact⟨fs,rfl,by simpa[tyK]using h⟩
 |_=>simp[tyK]at h
def TyI.agg(i:TyI):Bool:=match i.k with | .struct _ | .array _ _=>true | _=>false
def tmv(a:Act)(t:Nat):Value:=a.tmps.getD t undef
def zbf(a:Act)(t:Nat):a.eval (.tmp t)=tmv a t:=rfl
def zak{a:Act}{d:Nat}{v:Value}(h:d<a.tmps.size):tmv (a.put (some d) v) d=v:=by simp[tmv,Act.put,h]
def zbn{a:Act}{d t:Nat}{v:Value}(h:t≠d):tmv (a.put (some d) v) t=tmv a t:=by simp[tmv,Act.put,Ne.symm h]
structure Ext(w w':World):Prop where
 os:w'.os=w.os
 tape:w'.tape=w.tape
 output:w'.output=w.output
 size:w.heap.size<=w'.heap.size
 block:∀k,k<w.heap.size->w'.heap[k]?=w.heap[k]?
def Ext.refl(w:World):Ext w w:=⟨rfl,rfl,rfl,xag _,λ_ _=>rfl⟩
def Ext.alloc(w:World)(o:Obj):Ext w (w.alloc o):=⟨rfl,rfl,rfl,by simp,λk hk=>Go.heap_alloc_old w o hk⟩
def zlf{w w':World}{b o:Nat}{u:Value}(h:w'.heap[b]?=w.heap[b]?)(hc:w.cell? ⟨b,o,none⟩=some u):w'.cell? ⟨b,o,none⟩=some u:=
 (World.cell?_of_block (w:=w) (a:=⟨b,o,none⟩) h).trans hc
section
variable {P:Program} {w:World} {a:Act}
def zff(b o n:Nat):(⟨b,o,none⟩:Addr).add n=⟨b,o+n,none⟩:=by unfold Addr.add;grind
def zrb{α β:Type}(f:α->Option β):∀(l:List α) (r:List β),l.mapM f=some r->∀(k:Nat) (y:β),r[k]?=some y->∃x,l[k]?=some x/\f x=some y
 | [],r,h,k,y,hk=>by simp at h;subst h;simp at hk
 |x::l,r,h,k,y,hk=>by
  simp only[xhh,xhm,xik]at h;cases hx:f x with
  |none=>simp[hx]at h
  |some u=>
   cases hl:l.mapM f with
   |none=>simp[hx,hl]at h
   |some rest=>
    simp[hx,hl]at h;subst h;cases k with
    |zero=>simp at hk;subst hk;exact⟨x,rfl,hx⟩
    |succ k=>simp at hk;obtain⟨x',h1,h2⟩:=zrb f l rest hl k y hk;exact⟨x',by simpa using h1,h2⟩
def mapM_len{α β:Type}(f:α->Option β):∀(l:List α) (r:List β),l.mapM f=some r->r.length=l.length
 | [],r,h=>by simp at h;subst h;rfl
 |x::l,r,h=>by
  simp only[xhh,xhm,xik]at h;cases hx:f x with
  |none=>simp[hx]at h
  |some u=>
   cases hl:l.mapM f with
   |none=>simp[hx,hl]at h
   |some rest=>simp[hx,hl]at h;subst h;simp[mapM_len f l rest hl]
def zmf{s f off sz:Nat}{i:TyI}{offs:List (Nat×Nat)}(hty:ty P s=some i)(hk:i.k=.struct offs)(hf:offs[f]?=some (off,sz))(hsz:sz≠0)(b o:Nat)(w:World) :
  (Instr.fieldAt s (.pointer (some ⟨b,o,none⟩)) f).run P w=.ok (.pointer (some ⟨b,o+off,none⟩)) w:=by
 obtain⟨j,d,hi,hd,_,_,_,ha⟩:=zbj hty;obtain⟨fs,rfl,hm⟩:=zil (ha.trans (xbr some hk));obtain⟨fl,h1,h2⟩:=zrb _ _ _ hm f (off,sz) hf;cases hinf:P.info? fl.type with
 |none=>simp[hinf]at h2
 |some ti=>
  simp[hinf]at h2;obtain⟨h3,h4⟩:=h2;have h5:fs[f]?=some fl:=by rw[<-xbe];exact h1
  subst h3 h4;simp[Instr.fieldAt,run_underlying hd,h5,Instr.sureAddr,fieldPlace,sizeOf,typeInfo,hinf,hsz,zff]
def zme{t e:TypeId}{i te:TyI}(hty:ty P t=some i)(hk:i.k=.slice e)(hte:ty P e=some te)(b o len cap:Nat)(k:IntKind)(x:Int)(h0:0<=x)(h1:x<len)(w:World) :
  (Instr.indexAt t (.slice (some ⟨b,o,none⟩) len cap) (.int k x)).run P w=.ok (.pointer (some ⟨b,o+x.toNat*te.size,none⟩)) w:=by
 obtain⟨j,d,hi,hd,_,_,_,hb⟩:=zbj hty;have:=zfz (hb.trans (xbr some hk));subst this;obtain⟨j',d',ha,he,_,hc,_,hf⟩:=zbj hte;simp[Instr.indexAt,asIntOf,run_underlying hd,h0,h1,sizeOf,typeInfo,ha,hc,zff]
def zkp{t e len:Nat}{i te:TyI}(hty:ty P t=some i)(hk:i.k=.array len e)(hte:ty P e=some te)(b o:Nat)(k:IntKind)(x:Int)(h0:0<=x)(h1:x<len)(w:World) :
  (Instr.indexAt t (.pointer (some ⟨b,o,none⟩)) (.int k x)).run P w=.ok (.pointer (some ⟨b,o+x.toNat*te.size,none⟩)) w:=by
 obtain⟨j,d,hi,hd,_,_,_,hb⟩:=zbj hty;have:=zrv (hb.trans (xbr some hk));subst this;obtain⟨j',d',ha,he,_,hc,_,hf⟩:=zbj hte;simp[Instr.indexAt,asIntOf,run_underlying hd,Instr.sureAddr,h0,h1,sizeOf,typeInfo,ha,hc,zff]
def znw{t:TypeId}{i:TyI}(hty:ty P t=some i)(w:World):(isAgg t).run P w=.ok i.agg w:=by obtain⟨j,d,hi,hd,_,_,_,hk⟩:=zbj hty;unfold isAgg;rw[Sem.run_bind,run_underlying hd w];unfold TyI.agg;cases d<;>simp[tyK]at hk<;>first|(obtain⟨_,_,hk⟩:=hk;rw[<-hk];rfl)|(rw[<-hk];rfl)
def aggP_run{P:Program}{t:TypeId}{g:Bool}(h:aggP P t=some g)(w:World):(isAgg t).run P w=.ok g w:=by
 unfold aggP at h;unfold isAgg;cases hd:P.underlying t with
 |none=>simp[hd]at h
 |some d=>rw[Sem.run_bind,run_underlying hd w];rw[hd]at h;cases d<;>simp at h<;>subst h<;>rfl
def run_part{P:Program}{t:TypeId}{g:Bool}{ti:TypeInfo}(h:aggP P t=some g)(hi:P.info? t=some ti)(cs:Array Value)(off:Nat){v:Value}(hv:g=false->cs[off]?=some v)(w:World) :
  (part t cs off).run P w=.ok (if g then .agg (cs.extract off (off+ti.size))else v) w:=by
 unfold part;rw[Sem.run_bind,aggP_run h w];cases g with
 |true=>simp[sizeOf,typeInfo,hi]
 |false=>simp[hv rfl]
def run_field{P:Program}{s f off sz:Nat}{i:TyI}{offs:List (Nat×Nat)}{g:Bool}(hty:ty P s=some i)(hk:i.k=.struct offs)(hf:offs[f]?=some (off,sz))(hg:i.fa[f]?=some (some g))(cs:Array Value){v:Value}(hv:g=false->cs[off]?=some v)(w:World) :
  (Instr.field s (.agg cs) f).run P w=.ok (if g then .agg (cs.extract off (off+sz))else v) w:=by
 obtain⟨j,d,hi,hd,_,_,_,hc⟩:=zbj hty;obtain⟨d',ha,hb,_⟩:=ty_fa hty;rw[hd]at ha;cases ha;obtain⟨fs,rfl,hm⟩:=zil (hc.trans (xbr some hk));obtain⟨fl,h1,h2⟩:=zrb _ _ _ hm f (off,sz) hf;cases hinf:P.info? fl.type with
 |none=>simp[hinf]at h2
 |some ti=>
  simp[hinf]at h2;obtain⟨h3,h4⟩:=h2;have h5:fs[f]?=some fl:=by rw[<-xbe];exact h1
  subst h3 h4;have h6:aggP P fl.type=some g:=by rw[hb]at hg;simp only[faP,xci,h1,xch,xaq]at hg;exact hg
  have h7:=run_part h6 hinf cs fl.offset hv w;simp only[Instr.field,Sem.run_bind,run_underlying hd,Result.andThen_ok,h5,asAgg];simpa using h7
def run_index{P:Program}{t e len:Nat}{i te:TyI}(hty:ty P t=some i)(hk:i.k=.array len e)(hte:ty P e=some te)(k:IntKind)(x:Int)(h0:0<=x)(h1:x<len)(cs:Array Value){v:Value}(hv:te.agg=false->cs[x.toNat*te.size]?=some v)(w:World) :
  (Instr.index t (.agg cs) (.int k x)).run P w=.ok (if te.agg then .agg (cs.extract (x.toNat*te.size) (x.toNat*te.size+te.size))else v) w:=by
 obtain⟨j,d,hi,hd,_,_,_,hc⟩:=zbj hty;have:=zrv (hc.trans (xbr some hk));subst this;obtain⟨j',d',ha,he,_,hb,_,hf⟩:=zbj hte;have hp:(part e cs (x.toNat*te.size)).run P w=.ok (if te.agg then .agg (cs.extract (x.toNat*te.size) (x.toNat*te.size+te.size))else v) w:=by
  unfold part;rw[Sem.run_bind,znw hte w];cases hg:te.agg with
  |true=>simp[sizeOf,typeInfo,ha,hb]
  |false=>simp[hv hg]
 have hs:(sizeOf e).run P w=.ok te.size w:=by simp[sizeOf,typeInfo,ha,hb]
 simp only[Instr.index,asIntOf,Sem.run_bind,run_underlying hd,Result.andThen_ok,Sem.run_pure,h0,h1,and_self,if_true,hs,hp]
def zqf (d:Nat) (xs ys:Array Value) (w:World):∀ (fs:List Field) (us:List (IntKind × Int × Int)),fs.length=us.length ->
    (∀ (i : Nat) (f : Field) (u : IntKind × Int × Int), fs[i]? = some f → us[i]? = some u → f.name ≠ "_" ∧ (∃ k, P.underlying f.type = some (.int k)) ∧ xs[f.offset]? = some (.int u.1 u.2.1) ∧ ys[f.offset]? = some (.int u.1 u.2.2)) →
    (Op.eqFields (d+1) xs ys fs).run P w=.ok (us.all λu=>decide (u.2.1=u.2.2)) w
  | [],[],_,_=>rfl
  | [],_::_,h,_=>by simp at h
  |_::_,[],h,_=>by simp at h
  |f::fs,u::us,h,hall=>by
    obtain⟨h1,⟨k,h2⟩,h3,h4⟩:=hall 0 f u rfl rfl;have ih:=zqf d xs ys w fs us (by simpa using h) λi f u hf hu=>hall (i+1) f u (by simpa using hf) (by simpa using hu);have hag:(isAgg f.type).run P w=.ok false w:=aggP_run (by simp[aggP,h2]) w;have hpart:∀(cs:Array Value) (v:Value),cs[f.offset]?=some v->(part f.type cs f.offset).run P w=.ok v w:=λcs v hv=>by unfold part;rw[Sem.run_bind,hag];simp[hv]
    unfold Op.eqFields;rw[if_pos h1];simp only[Sem.run_bind,hpart _ _ h3,hpart _ _ h4,Result.andThen_ok,run_equalIn_int w d f.type u.1 k u.2.1 u.2.2 h2,xkg];by_cases he:u.2.1=u.2.2
    · have:(u.2.1 == u.2.2)=true:=by simpa using he
      rw[xae he];simp only[this,xat,xbb,xcg,xbu];exact ih
    · have:(u.2.1 == u.2.2)=false:=by simpa using he
      rw[xah he];simp only[this,xap,if_true,xcn];rfl
def run_eql_ints{t:TypeId}{i:TyI}(hty:ty P t=some i)(he:i.eqs=true){offs:List (Nat×Nat)}(hk:i.k=.struct offs)(xs ys:Array Value)(us:List (IntKind×Int×Int))(hl:offs.length=us.length)
  (hall:∀(i:Nat) (o:Nat×Nat) (u:IntKind×Int×Int),offs[i]?=some o->us[i]?=some u->xs[o.1]?=some (.int u.1 u.2.1)/\ys[o.1]?=some (.int u.1 u.2.2)) (a b:Operand) (w:World) :
  (do eqGuard .eql t a b (.agg xs) (.agg ys);binOp .eql t (.agg xs) (.agg ys):Sem Value).run P w=.ok (.bool (us.all λu=>decide (u.2.1=u.2.2))) w:=by
 obtain⟨j,d,hi,hd,_,_,_,hc⟩:=zbj hty;obtain⟨d',hg,_,hb⟩:=ty_fa hty;obtain⟨fs,rfl,hm⟩:=zil (hc.trans (xbr some hk));rw[hb]at he;unfold eqsP at he;rw[hd]at he;simp only[xal,xhy,xbl,xak]at he;obtain⟨h1,h2,h3⟩:=he;have ha:P.fieldsOf t=fs:=by unfold Program.fieldsOf;rw[hd]
 have hh:=mapM_len _ _ _ hm;rw[Sem.run_bind,run_eqGuard_agg w .eql t a b xs ys h2,Result.andThen_ok,run_eql_struct,show(10000:Nat)=9999+1 from rfl,run_equalIn_agg w 9999 t xs ys (by rw[ha];exact hd) h1,ha,
  show(9999:Nat)=9998+1 from rfl,zqf 9998 xs ys w fs.toList us (by omega) λi f u hf hu=>?_]
 ·rfl
 ·obtain⟨h4,h5⟩:=h3 f (xgh hf);obtain⟨o,ho⟩:∃o,offs[i]?=some o:=by have:=(xei.1 hf).1;simp_all
  obtain⟨fl,h6,h7⟩:=zrb _ _ _ hm i o ho;rw[hf]at h6;cases h6;obtain⟨h8,h9⟩:=hall i o u ho hu;cases hinf:P.info? f.type with
  |none=>simp[hinf]at h7
  |some ti=>grind
def run_storeAt{t:TypeId}{i:TyI}(hty:ty P t=some i){b o:Nat}{cs:Array Value}{E:TypeId}(hg:w.heap[b]?=some (.cells cs E (0,0))){v:Value}(hsz:v.cells.size=i.size)(hfit:o+i.size<=cs.size)
  (h1:∀u∈v.cells.toList,u.oneCell'=true) :
  (Instr.storeAt t (.pointer (some ⟨b,o,none⟩)) v).run P w=.ok () (w.setRow b (cs.toList.take o++v.cells.toList++cs.toList.drop (o+v.cells.toList.length)).toArray):=by
 obtain⟨j,d,hi,hd,_,hs,_,hk⟩:=zbj hty;have ha:=run_storeCells_at P b o E v.cells.toList 0 cs w hg (by simp;omega) h1;simp_all;simp only[Instr.storeAt,Instr.sureAddr,storeVar,sizeOf,typeInfo,Sem.run_bind,Sem.run_pure,Result.andThen_ok,run_program,hi,hs,hsz,ne_eq,not_true_eq_false,xcg,ha]
def zsi(t ty e:TypeId)(i:TypeInfo)(z:Value)(size bytes:Nat)(ht:P.underlying t=some (.slice e))(hi:P.info? e=some i)(hz:i.zero=some z)
  (hsize:i.size=size) (hby:i.bytes=bytes) (hzs:z.cells.size=size) (hsz:0<size) (v:Value) (n:Nat) (xs:List Value) (hown:w.ownsRow 0 e size v n xs)
  (ad:Addr) (m cp:Nat) (news:List Value) (hl:news.length=m*size) (hnews:∀j u,news[j]?=some u->w.cell? (ad.add j)=some u) (h1:∀u∈news,u.oneCell'=true)
  (h63:n+m<=maxLen) (hbytes:(n+m)*bytes<=140737488355328) :
  ∃v' w',(Builtin.append_ #[t,t] ty #[v,.slice (some ad) m cp]).run P w=.ok v' w'/\w'.ownsRow 0 e size v' (n+m) (xs++news)/\w.grownBy w' v.ownBlock /\
   (∀b,v'.ownBlock=some b->v.ownBlock=some b\/(b=w.heap.size/\b<w'.heap.size)):=by
 obtain⟨v',w',hr,ho,hg,he⟩:=run_append_own (P:=P) w 0 t ty e i z size bytes ht hi hz hsize hby hzs hsz v n xs hown ad m cp news hl hnews h1 h63 hbytes (xbx _);refine⟨v',w',hr,ho,hg,λb hb=>?_⟩;have hc:n+m<=9223372036854775807:=by simp only[maxLen]at h63;omega
 subst hsize hby;rcases hown.2 with⟨rfl,rfl⟩|⟨g,cap,cur,rfl,hbg,hgg,hnc,hcm,hcs,htake⟩
 ·by_cases hm:m=0;·grind
  ·have h2:=run_append_nil (P:=P) w t ty e i z ht hi hz ad m cp news hl hnews (by omega) (by omega) (by simp only[xck]at hbytes;omega);rw[h2]at hr;cases hr;simp only[Value.ownBlock]at hb;cases hb;exact .inr ⟨rfl,by simp⟩
 ·by_cases hroom:n+m<=cap
  ·have hd:n*i.size+news.length<=cur.size:=by rw[hl,hcs,<-xco];exact xau _ hroom
   have h2:=run_append_room (P:=P) w t ty e i ht hi g n cap cur hgg ad m cp news hl hnews h1 hroom hd;rw[h2]at hr;cases hr;exact .inl hb
  ·have ha:∀j u,xs[j]?=some u->w.cell? ((⟨g,0,none⟩:Addr).add j)=some u:=hown.cells (g:=g) rfl;have h2:=run_append_grow (P:=P) w t ty e i z ht hi hz ⟨g,0,none⟩ n cap xs hown.1 ha ad m cp news hl hnews (by omega) (by omega) (growslice_fits (by omega) hbytes);rw[h2]at hr;cases hr;simp only[Value.ownBlock]at hb;cases hb;exact .inr ⟨rfl,by simp⟩
def run_append_zeros(t u ty e:TypeId)(i:TypeInfo)(z:Value)(size bytes:Nat)(ku:IntKind)(ht:P.underlying t=some (.slice e))(hu:P.underlying u=some (.int ku))(hi:P.info? e=some i)(hz:i.zero=some z)
  (hsize:i.size=size) (hby:i.bytes=bytes) (hzs:z.cells.size=size) (hsz:0<size) (v:Value) (n:Nat) (xs:List Value) (hown:w.ownsRow 0 e size v n xs)
  (k:IntKind) (m:Nat) (h1:∀u∈(Builtin.zeroCells z.cells m).toList,u.oneCell'=true)
  (h63:n+m<=maxLen) (hbytes:(n+m)*bytes<=140737488355328) :
  ∃v' w',(Builtin.append_ #[t,u] ty #[v,.int k (m:Int)]).run P w=.ok v' w'/\w'.ownsRow 0 e size v' (n+m) (xs++(Builtin.zeroCells z.cells m).toList)/\w.grownBy w' v.ownBlock /\
   (∀b,v'.ownBlock=some b->v.ownBlock=some b\/(b=w.heap.size/\b<w'.heap.size)):=by
 subst hsize;subst hby;have hy:n+m<=9223372036854775807:=by simp only[maxLen]at h63;omega
 have hs:IntKind.i64.wrap (m:Int)=(m:Int):=IntWalk.i64_in _ ⟨by omega,by omega⟩;have h7:¬((m:Int)<0):=by omega
 have hw:¬(281474976710656<(m:Int)*(i.bytes:Int)):=by have h2:m*i.bytes<=(n+m)*i.bytes:=xau _ (by omega);have h3:((m*i.bytes:Nat):Int)=(m:Int)*(i.bytes:Int):=xha m i.bytes;omega
 have h5:(Builtin.zeroCells z.cells m).size=m*i.size:=by rw[size_zeroCells,hzs]
 have hc:(xs++(Builtin.zeroCells z.cells m).toList).length=(n+m)*i.size:=by rw[xbo,hown.1,xcj,h5,xco]
 have hd:m*i.size=0->Builtin.zeroCells z.cells m=#[]:=λh0=>Array.eq_empty_of_size_eq_zero (by rw[h5];exact h0);have ha:i.size≠0:=by omega
 have grown:∀(old:Nat),old<n+m->∀(row:Option Nat),
   (w.drew.alloc (.cells (xs.toArray++Builtin.zeroCells z.cells m++Builtin.zeroCells z.cells (grownCap w (n+m) old e-(n+m))) e)).ownsRow 0 e i.size
    (.slice (some ⟨w.heap.size,0,none⟩) (n+m) (grownCap w (n+m) old e)) (n+m) (xs++(Builtin.zeroCells z.cells m).toList) /\
   w.grownBy (w.drew.alloc (.cells (xs.toArray++Builtin.zeroCells z.cells m++Builtin.zeroCells z.cells (grownCap w (n+m) old e-(n+m))) e)) row:=by
  intro old ho row;have h8:=grownCap_ge w (n+m) old e;have h4:grownCap w (n+m) old e<=maxLen:=grownCap_le_maxLen w (n+m) old e h63;refine⟨⟨hc,.inr ⟨w.heap.size,_,_,rfl,xbx _,heap_alloc_new w.drew _,h8,h4,?_,?_⟩⟩,⟨rfl,rfl,rfl,by simp,λk hk _=>heap_alloc_old w.drew _ hk⟩⟩;·simp only[Array.size_append,xeh,size_zeroCells,hzs,hown.1,<-xco];congr 1;omega
  ·simp only[Array.toList_append,xbv];rw[<-xbv,<-hc];exact List.take_left
 have newb:∀(old:Nat) (b:Nat),Value.ownBlock (.slice (some ⟨w.heap.size,0,none⟩) (n+m) (grownCap w (n+m) old e))=some b->b=w.heap.size /\
   b<(w.drew.alloc (.cells (xs.toArray++Builtin.zeroCells z.cells m++Builtin.zeroCells z.cells (grownCap w (n+m) old e-(n+m))) e)).heap.size:=λold b hb=>by
  have:w.heap.size=b:=by simpa[Value.ownBlock]using hb
  subst this;exact⟨rfl,by simp⟩
 rcases hown.2 with⟨rfl,rfl⟩|⟨g,cap,cur,rfl,hbg,hg,hnc,h4,hcs,htake⟩
 ·have hx:xs=[]:=xef (by simpa using hown.1);subst hx;by_cases hm:m=0
  ·subst hm;refine⟨.slice none 0 0,w,?_,?_,⟨rfl,rfl,rfl,xag _,λ_ _ _=>rfl⟩,λb hb=>.inl hb⟩;·simp[Builtin.append_,run_underlying ht,run_underlying hu,sizeOf,typeInfo,hi,asInt,asIntOf,IntKind.wrap_i64]
   ·rw[hd (by simp)];exact World.ownsRow_nil w 0 e i.size
  ·have hf:¬(9223372036854775807<(m:Int)):=by omega
   have hh:¬(281474976710656<Builtin.nextslicecap m 0*i.bytes):=by rw[nextslicecap_zero (by omega)];simp only[xck]at hbytes;omega
   have hj:=grown 0 (by omega) (Value.ownBlock (.slice none 0 0));have hq:=newb 0;simp only[xck,xdp,Array.empty_append]at hj hq ⊢;refine⟨_,_,?_,hj.1,hj.2,λb hb=>.inr (hq b hb)⟩;simp[Builtin.append_,run_underlying ht,run_underlying hu,sizeOf,typeInfo,zeroValue,hi,hz,asInt,asIntOf,hs,h7,hw,hm,ha,hf,hh,Question.forced,Builtin.firstCells,newRow,grownCap];exact λh=>absurd h (xht hm ha)
 ·by_cases hroom:n+m<=cap
  ·have hl:n*i.size+(Builtin.zeroCells z.cells m).toList.length<=cur.size:=by rw[xcj,h5,hcs,<-xco];exact xau _ hroom
   have hv:=run_storeCells_at P g (n*i.size) e (Builtin.zeroCells z.cells m).toList 0 cur w hg (by simpa using hl) h1;simp only[xdl]at hv;have hr:(Builtin.append_ #[t,u] ty #[.slice (some ⟨g,0,none⟩) n cap,.int k (m:Int)]).run P w =
     .ok (.slice (some ⟨g,0,none⟩) (n+m) cap) (w.setRow g (cur.toList.take (n*i.size)++(Builtin.zeroCells z.cells m).toList++cur.toList.drop (n*i.size+(Builtin.zeroCells z.cells m).toList.length)).toArray):=by
    by_cases hm:m=0
    ·subst hm;have he:=hd (xfr _);have ja:IntKind.i64.wrap 0=0:=hs;rw[he]at hv ⊢;simp[Builtin.append_,run_underlying ht,run_underlying hu,sizeOf,typeInfo,hi,asInt,asIntOf,ja,hnc,Addr.add_lit];have h6:(storeCells ⟨g,n*i.size,none⟩ []).run P w=.ok () (w.setRow g cur):=by simpa using hv
     rw[h6];rfl
    ·simp[Builtin.append_,run_underlying ht,run_underlying hu,sizeOf,typeInfo,zeroValue,hi,hz,asInt,asIntOf,hs,h7,hw,hm,ha,hroom,Addr.add_lit,hv];exact λh=>absurd h (xht hm ha)
   refine⟨_,_,hr,⟨hc,.inr ⟨g,cap,_,rfl,hbg,setRow_heap w g cur _ e _ hg,hroom,h4,?_,?_⟩⟩,⟨rfl,rfl,rfl,by simp,λk _ hk=>setRow_other w g k _ (λe=>hk (by simp[Value.ownBlock,e]))⟩,λb hb=>.inl hb⟩;·simp only[xeh,xbo,xax,xeq,xcj]at hl ⊢;omega
   ·rw[htake,<-hc];exact List.take_left
  ·have hm:m≠0:=by omega
   have hp:∀j u,xs[j]?=some u->w.cell? ((⟨g,0,none⟩:Addr).add j)=some u:=hown.cells (g:=g) rfl;have hn:¬(n+m<=cap):=by omega
   have hf:¬(9223372036854775807<((n:Int)+(m:Int))):=by omega
   have hh:¬(281474976710656<Builtin.nextslicecap (n+m) cap*i.bytes):=by have:=growslice_fits (need:=n+m) (old:=cap) (by omega) hbytes;omega
   have h9:=run_firstCells_some (P:=P) w.drew i.size n ⟨g,0,none⟩ n cap xs hown.1 (by simpa using hp);have hj:=grown cap (by omega) (Value.ownBlock (.slice (some ⟨g,0,none⟩) n cap));have hq:=newb cap;refine⟨_,_,?_,hj.1,hj.2,λb hb=>.inr (hq b hb)⟩;simp[Builtin.append_,run_underlying ht,run_underlying hu,sizeOf,typeInfo,zeroValue,hi,hz,asInt,asIntOf,hs,h7,hw,hm,ha,hn,hf,hh,Question.forced,h9,newRow,grownCap];exact λh=>absurd h (xht hm ha)
def Does(P:Program)(o:Oper)(a:Act)(w:World)(K:Act->World->Prop):Prop:=
 ∃w',(∃v,(execOp a.eval o).run P w=.ok (.value v) w'/\K (a.put o.dst v) w')\/((execOp a.eval o).run P w=.ok .skip w'/\K (a.put o.dst undef) w')
def Does.wp{o:Oper}{K:Act->World->Prop}{Q:Exit->Act->World->Prop}(h:Does P o a w K):o.wp P a w K Q:=by
 unfold Oper.wp;obtain⟨w',⟨v,h1,h2⟩|⟨h1,h2⟩⟩:=h;·rw[h1];exact h2
 ·rw[h1];exact h2
end
def znz(off:Nat):∀(l:List Value) (j:Nat) (cs:Array Value),off+j+l.length<=cs.size ->
  ((l.zipIdx j).foldl (λcs (x:Value×Nat)=>cs.setIfInBounds (off+x.2) x.1) cs).toList=cs.toList.take (off+j)++l++cs.toList.drop (off+j+l.length)
 | [],j,cs,_=>by simp
 |v::l,j,cs,h=>by
  have h':off+(j+1)+l.length<=(cs.setIfInBounds (off+j) v).size:=by simp at h ⊢;omega
  have ih:=znz off l (j+1) (cs.setIfInBounds (off+j) v) h';simp only[List.zipIdx_cons,xfd,ih];have e:=list_seg_step cs.toList (off+j) v l (by simp at h ⊢;omega);simpa[Array.toList_setIfInBounds,xdk]using e
def wrap_in(n:Int)(h:-9223372036854775808<=n/\n<=9223372036854775807):IntKind.i64.wrap n=n:=IntWalk.i64_in n h
end Go.X
namespace Go.X
open Go Go.RowKit
inductive Ty where
 |int (k:IntKind) | bool | str | unit
 |pair (a b:Ty) | arr (n:Nat) (t:Ty) | slice (t:Ty) | ptr (t:Ty)
 |fn1 (a r:Ty) | fn2 (a b r:Ty)
 |alt (tid:TypeId) (a b:Ty) | nilI
 deriving DecidableEq
@[reducible] def Ty.den:Ty->Type
 | .int _=>Int
 | .bool=>Bool
 | .str=>List Int
 | .unit=>Unit
 | .pair a b=>a.den×b.den
 | .arr _ t=>List t.den
 | .slice t=>List t.den
 | .ptr t=>t.den
 | .fn1 a r=>a.den->Option r.den
 | .fn2 a b r=>a.den->b.den->Option r.den
 | .alt _ a b=>a.den⊕b.den
 | .nilI=>Unit
def Ty.dflt:(t:Ty)->t.den
 | .int _=>(0:Int)
 | .bool=>false
 | .str=>([]:List Int)
 | .unit=>()
 | .pair a b=>(a.dflt,b.dflt)
 | .arr n t=>List.replicate n t.dflt
 | .slice _=>[]
 | .ptr t=>t.dflt
 | .fn1 _ _=>λ_=>none
 | .fn2 _ _ _=>λ_ _=>none
 | .alt _ _ b=>.inr b.dflt
 | .nilI=>()
def Ty.size:Ty->Nat
 | .unit=>0
 | .pair a b=>a.size+b.size
 | .arr n t=>n*t.size
 |_=>1
def Ty.agg:Ty->Bool
 | .unit | .pair .. | .arr ..=>true
 |_=>false
inductive Md where
 |sh | bw | own (e:TypeId) (m:Md) | pr (a b:Md) | dead
 deriving DecidableEq,Inhabited
def Md.l:Md->Md
 | .pr a _=>a
 |m=>m
def Md.r:Md->Md
 | .pr _ b=>b
 |m=>m
abbrev Place:=Nat×List Nat
def px(p:Place)(i:Nat):Place:=(p.1,p.2++[i])
def pa(p:Place)(q:List Nat):Place:=(p.1,p.2++q)
def zcp(p:Place)(i:Nat)(q:List Nat):pa (px p i) q=pa p (i::q):=by simp[pa,px]
def zdc(p:Place):pa p []=p:=by simp[pa]
abbrev Cs:=Nat->Option Value
structure St where
 w:World
 F:Nat->Prop
 B:Nat->Prop
 own:Nat->Option Place
 hv:Place->Value
def blk(w:World)(b o:Nat):Cs:=λi=>w.cell? ⟨b,o+i,none⟩
def zab(t:Ty)(v:Value):Cs:=if t.agg then(match v with | .agg cs=>λi=>cs[i]? | _=>λ_=>none)else λi=>if i=0 then some v else none
def zgt(t:Ty)(v:Value):Prop:=t.agg=true->∃cs,v=.agg cs/\cs.size=t.size
def zmb(cs:Cs):Prop:=∃u,cs 0=some u/\u.oneCell'=true
def zpf:Nat:=281474976710656
def St.G(S:St)(m:Md)(b:Nat):Prop:=S.F b\/(m=.bw/\S.B b)
structure St.WF(S:St):Prop where
 shared:∀b,S.F b->S.own b=none/\b<S.w.heap.size
 borrowed:∀b,S.B b->S.own b=none/\b<S.w.heap.size
 owned:∀b p,S.own b=some p->b<S.w.heap.size
structure Fut(m:Md)(S S':St):Prop where
 sh:∀b,S.F b->S'.F b
 bw:∀b,m=.bw->S.B b->S'.F b\/S'.B b
 same:∀b,S.G m b->S'.w.heap[b]?=S.w.heap[b]?
def zdn(P:Program)(f:FuncId):Prop:=∀xs w,(callFunc f xs).run P w=.ok (.enter f xs) w
def Rel(P:Program):(t:Ty)->St->Md->Place->t.den->Cs->Prop
 | .int k,_,m,_,n,cs=>match m with
  | .dead=>zmb cs
  |_=>cs 0=some (.int k n)/\k.wrap n=n
 | .bool,_,m,_,b,cs=>match m with
  | .dead=>zmb cs
  |_=>cs 0=some (.bool b)
 | .str,_,m,_,x,cs=>match m with
  | .dead=>zmb cs
  |_=>∃s:ByteArray,cs 0=some (.string s)/\s.data.toList.map (λc=>(c.toNat:Int))=x/\x.length<=zpf
 | .unit,_,_,_,_,_=>True
 | .pair a b,S,m,p,x,cs=>Rel P a S m.l (px p 0) x.1 cs/\Rel P b S m.r (px p 1) x.2 (λi=>cs (a.size+i))
 | .arr n t,S,m,p,xs,cs=>xs.length=n/\∀(i:Nat) (h:i<xs.length),Rel P t S m (px p i) xs[i] (λj=>cs (i*t.size+j))
 | .slice t,S,m,p,xs,cs=>xs.length<=zpf/\0<t.size/\match m with
  | .dead=>zmb cs
  | .own e m=>cs 0=some (S.hv p)/\((S.hv p=.slice none 0 0/\xs=[])\/∃g cap cur,S.hv p=.slice (some ⟨g,0,none⟩) xs.length cap/\S.own g=some p/\S.w.heap[g]?=some (.cells cur e (0,0)) /\
    xs.length<=cap/\cap<=maxLen/\cur.size=cap*t.size/\∀(i:Nat) (h:i<xs.length),Rel P t S m (px p i) xs[i] (λj=>cur[i*t.size+j]?))
  | .pr _ _=>False
  |m=>∃a len cap,cs 0=some (.slice a len cap)/\len=xs.length/\len<=cap/\((xs=[]/\cap=0)\/∃b o,a=some ⟨b,o,none⟩/\(xs≠ []->S.G m b)/\∀(i:Nat) (h:i<xs.length),Rel P t S m (px p i) xs[i] (blk S.w b (o+i*t.size)))
 | .ptr t,S,m,p,x,cs=>match m with
  | .dead=>zmb cs
  | .own _ m=>cs 0=some (S.hv p)/\∃g cur e,S.hv p=.pointer (some ⟨g,0,none⟩)/\S.own g=some p/\S.w.heap[g]?=some (.cells cur e (0,0))/\cur.size=t.size /\
    Rel P t S m (px p 0) x (λj=>cur[j]?)
  | .pr _ _=>False
  |m=>∃b o,cs 0=some (.pointer (some ⟨b,o,none⟩))/\(t.size≠0->S.G m b)/\Rel P t S m (px p 0) x (blk S.w b o)
 | .fn1 a r,S,m,_,g,cs=>match m with
  | .dead=>zmb cs
  | .own _ _=>False
  | .pr _ _=>False
  |m=>∃f caps,cs 0=some (.func (.func f) #[] caps)/\zdn P f/\∀(S':St) (x:a.den) (y:r.den),Fut m S S'->S'.WF->g x=some y->∀v,Rel P a S' .bw (0,[]) x (zab a v)->zgt a v ->
    Calls P f (#[v]++caps) S'.w λe w''=>∃u,e=.returned u/\Rel P r {S' with w:=w''} .sh (0,[]) y (zab r u)/\zgt r u/\Ext S'.w w''
 | .fn2 a b r,S,m,_,g,cs=>match m with
  | .dead=>zmb cs
  | .own _ _=>False
  | .pr _ _=>False
  |m=>∃f caps,cs 0=some (.func (.func f) #[] caps)/\zdn P f/\∀(S':St) (x:a.den) (y:b.den) (z:r.den),Fut m S S'->S'.WF->g x y=some z->∀v v',Rel P a S' .bw (0,[]) x (zab a v)->zgt a v ->
    Rel P b S' .bw (0,[]) y (zab b v')->zgt b v'->Calls P f (#[v,v']++caps) S'.w λe w''=>∃u,e=.returned u/\Rel P r {S' with w:=w''} .sh (0,[]) z (zab r u)/\zgt r u/\Ext S'.w w''
 | .alt tid a b,S,m,p,x,cs=>match m with
  | .dead=>zmb cs
  |m=>match x with
   | .inl y=>∃v,cs 0=some (.iface tid v)/\Rel P a S m.l (px p 0) y (zab a v)/\zgt a v
   | .inr z=>b.size=1/\Rel P b S m.r (px p 1) z cs
 | .nilI,_,m,_,_,cs=>match m with
  | .dead=>zmb cs
  |_=>cs 0=some .nilIface
section
variable {P:Program}
def Rel.cells:∀{t:Ty} {S:St} {m:Md} {p:Place} {x:t.den} {cs:Cs},Rel P t S m p x cs->∀i,i<t.size->∃u,cs i=some u/\u.oneCell'=true:=by
 intro t;have one:∀{cs:Cs} {u:Value},cs 0=some u->u.oneCell'=true->∀i,i<1->∃u,cs i=some u/\u.oneCell'=true:=λh h' i hi=>by grind
 have done:∀{cs:Cs},zmb cs->∀i,i<1->∃u,cs i=some u/\u.oneCell'=true:=λh i hi=>by obtain⟨u,h1,h2⟩:=h;exact one h1 h2 i hi
 induction t with
 |int k=>intro S m p x cs h;cases m<;>first | exact done h | exact one h.1 rfl
 |bool=>intro S m p x cs h;cases m<;>first | exact done h | exact one h rfl
 |str=>intro S m p x cs h;cases m<;>first|exact done h|(obtain⟨s,h,_⟩:=h;exact one h rfl)
 |unit=>intro S m p x cs h i hi;exact absurd hi (Nat.not_lt_zero _)
 |pair a b iha ihb=>
  intro S m p x cs h i hi;simp only[Ty.size]at hi;by_cases hlt:i<a.size;·exact iha h.1 i hlt
  ·have:=ihb h.2 (i-a.size) (by omega);grind
 |arr n t ih=>
  intro S m p x cs h i hi;simp only[Ty.size]at hi;obtain⟨h1,h2⟩:=h;have ha:0<t.size:=by grind
  have hq:i/t.size<x.length:=by rw[h1];exact(xga ha).2 hi
  have:=ih (h2 (i/t.size) hq) (i%t.size) (xfu _ ha);rwa[Nat.div_add_mod']at this
 |slice t ih=>
  intro S m p x cs h;obtain⟨_,_,h⟩:=h;cases m with
  |dead=>exact done h
  |own e m=>
   obtain⟨h1,h2⟩:=h;refine one h1 ?_;rcases h2 with⟨h2,_⟩|⟨g,cap,cur,h2,_⟩<;>rw[h2]<;>rfl
  |pr=>exact h.elim
  |sh=>obtain⟨a,len,cap,h1,_⟩:=h;exact one h1 rfl
  |bw=>obtain⟨a,len,cap,h1,_⟩:=h;exact one h1 rfl
 |ptr t ih=>
  intro S m p x cs h;cases m with
  |dead=>exact done h
  |own e m=>
   obtain⟨h1,g,cur,e,h2,_⟩:=h;exact one h1 (by rw[h2];rfl)
  |pr=>exact h.elim
  |sh=>obtain⟨b,o,h1,_⟩:=h;exact one h1 rfl
  |bw=>obtain⟨b,o,h1,_⟩:=h;exact one h1 rfl
 |fn1 a r iha ihr=>
  intro S m p x cs h;cases m with
  |dead=>exact done h
  |own=>exact h.elim
  |pr=>exact h.elim
  |sh=>obtain⟨f,caps,h1,_⟩:=h;exact one h1 rfl
  |bw=>obtain⟨f,caps,h1,_⟩:=h;exact one h1 rfl
 |fn2 a b r iha ihb ihr=>
  intro S m p x cs h;cases m with
  |dead=>exact done h
  |own=>exact h.elim
  |pr=>exact h.elim
  |sh=>obtain⟨f,caps,h1,_⟩:=h;exact one h1 rfl
  |bw=>obtain⟨f,caps,h1,_⟩:=h;exact one h1 rfl
 |alt tid a b iha ihb=>
  intro S m p x cs h i hi;have key:(∃u,cs 0=some u/\u.oneCell'=true)\/(m≠ .dead/\∃z,x=.inr z/\b.size=1/\Rel P b S m.r (px p 1) z cs):=by
   cases m<;>first | exact .inl h | (cases x with
    |inl y=>obtain⟨v,h1,_⟩:=h;exact .inl ⟨_,h1,rfl⟩
    |inr z=>exact .inr ⟨by simp,z,rfl,h⟩)
  rcases key with⟨u,h1,h2⟩|⟨_,z,rfl,h0,h2⟩
  ·exact one h1 h2 i hi
  ·exact ihb h2 i (by simp only[Ty.size]at hi;omega)
 |nilI=>intro S m p x cs h;cases m<;>first | exact done h | exact one h rfl
def Md.nobw:Md->Bool
 | .sh=>true
 | .bw=>false
 | .own _ m=>m.nobw
 | .pr a b=>a.nobw&&b.nobw
 | .dead=>true
def Md.nobw_l{m:Md}(h:m.nobw=true):m.l.nobw=true:=by cases m<;>first | exact h | (simp only[Md.nobw,xal]at h;exact h.1)
def Md.nobw_r{m:Md}(h:m.nobw=true):m.r.nobw=true:=by cases m<;>first | exact h | (simp only[Md.nobw,xal]at h;exact h.2)
structure Tr(q:Bool)(S S':St)(p p':Place):Prop where
 F:∀b,S.F b->S'.F b
 sF:∀b,S.F b->S'.w.heap[b]?=S.w.heap[b]?
 B:q=true->∀b,S.B b->S'.F b\/S'.B b
 sB:q=true->∀b,S.B b->S'.w.heap[b]?=S.w.heap[b]?
 hv:∀r,S'.hv (pa p' r)=S.hv (pa p r)
 own:∀b r,S.own b=some (pa p r)->S'.own b=some (pa p' r)/\S'.w.heap[b]?=S.w.heap[b]?
def Tr.px{q:Bool}{S S':St}{p p':Place}(h:Tr q S S' p p')(i:Nat):Tr q S S' (px p i) (px p' i) where
 F:=h.F
 sF:=h.sF
 B:=h.B
 sB:=h.sB
 hv r:=by rw[zcp,zcp];exact h.hv _
 own b r:=by rw[zcp,zcp];exact h.own b _
def Tr.G{q:Bool}{S S':St}{p p':Place}(h:Tr q S S' p p'){m:Md}(hm:q=true\/m.nobw=true){b:Nat}(hb:S.G m b):S'.G m b/\S'.w.heap[b]?=S.w.heap[b]?:=by
 rcases hb with hb|⟨rfl,hb⟩
 ·exact⟨.inl (h.F b hb),h.sF b hb⟩
 ·have hq:q=true:=hm.resolve_right (by simp[Md.nobw]);exact⟨(h.B hq b hb).imp id λh=>⟨rfl,h⟩,h.sB hq b hb⟩
def Tr.fut{q:Bool}{S S' S'':St}{p p':Place}(h:Tr q S S' p p'){m:Md}(hm:q=true\/m.nobw=true)(hf:Fut m S' S''):Fut m S S'' where
 sh b hb:=hf.sh b (h.F b hb)
 bw b hmb hb:=by subst hmb;have hq:q=true:=hm.resolve_right (by simp[Md.nobw]);exact(h.B hq b hb).elim (λh=>.inl (hf.sh b h)) λh=>hf.bw b rfl h
 same b hb:=(hf.same b (h.G hm hb).1).trans (h.G hm hb).2
def zma{w w':World}{b:Nat}(h:w'.heap[b]?=w.heap[b]?)(o:Nat):blk w' b o=blk w b o:=funext λi=>World.cell?_of_block (w:=w) (a:=⟨b,o+i,none⟩) h
def Rel.mono{q:Bool}:∀{t:Ty} {S S':St} {m:Md} {p p':Place} {x:t.den} {cs cs':Cs},Rel P t S m p x cs->(q=true\/m.nobw=true)->Tr q S S' p p'->(∀i,i<t.size->cs' i=cs i)->Rel P t S' m p' x cs':=by
 intro t;have d1:∀{cs cs':Cs},zmb cs->(∀i,i<1->cs' i=cs i)->zmb cs':=λh hc=>by obtain⟨u,h1,h2⟩:=h;exact⟨u,(hc 0 Nat.one_pos).trans h1,h2⟩
 induction t with
 |int k=>intro S S' m p p' x cs cs' h hm hT hc;have h0:=hc 0 Nat.one_pos;cases m<;>first | exact d1 h hc | exact⟨h0.trans h.1,h.2⟩
 |bool=>intro S S' m p p' x cs cs' h hm hT hc;have h0:=hc 0 Nat.one_pos;cases m<;>first | exact d1 h hc | exact h0.trans h
 |str=>intro S S' m p p' x cs cs' h hm hT hc;have h0:=hc 0 Nat.one_pos;cases m<;>first|exact d1 h hc|(obtain⟨s,h1,h2⟩:=h;exact⟨s,h0.trans h1,h2⟩)
 |unit=>intro S S' m p p' x cs cs' h hm hT hc;trivial
 |pair a b iha ihb=>intro S S' m p p' x cs cs' h hm hT hc;simp only[Ty.size]at hc;exact⟨iha h.1 (hm.imp id Md.nobw_l) (hT.px 0) λi hi=>hc i (by omega),ihb h.2 (hm.imp id Md.nobw_r) (hT.px 1) λi hi=>hc _ (by omega)⟩
 |arr n t ih=>intro S S' m p p' x cs cs' h hm hT hc;simp only[Ty.size]at hc;obtain⟨h1,h2⟩:=h;refine⟨h1,λi hi=>ih (h2 i hi) hm (hT.px i) λj hj=>hc _ ?_⟩;have:(i+1)*t.size<=n*t.size:=xau _ (by omega);grind
 |slice t ih=>
  intro S S' m p p' x cs cs' h hm hT hc;obtain⟨hl,ha,h⟩:=h;refine⟨hl,ha,?_⟩;have h0:=hc 0 Nat.one_pos;have shbw:∀{m:Md},(q=true\/m.nobw=true)->(∃a len cap,cs 0=some (.slice a len cap)/\len=x.length/\len<=cap/\((x=[]/\cap=0)\/∃b o,a=some ⟨b,o,none⟩/\(x≠ []->S.G m b)/\∀(i:Nat) (h:i<x.length),Rel P t S m (Go.X.px p i) x[i] (blk S.w b (o+i*t.size)))) ->
    ∃a len cap,cs' 0=some (.slice a len cap)/\len=x.length/\len<=cap/\((x=[]/\cap=0)\/∃b o,a=some ⟨b,o,none⟩/\(x≠ []->S'.G m b)/\∀(i:Nat) (h:i<x.length),Rel P t S' m (Go.X.px p' i) x[i] (blk S'.w b (o+i*t.size))):=λhm h=>by
   obtain⟨a,len,cap,h1,h2,h3,h4⟩:=h;refine⟨a,len,cap,h0.trans h1,h2,h3,h4.imp id λ⟨b,o,h5,h6,h7⟩=>⟨b,o,h5,λhne=>(hT.G hm (h6 hne)).1,λi hi=>?_⟩⟩;have hb:=(hT.G hm (h6 (by rintro rfl;simp at hi))).2;exact ih (h7 i hi) hm (hT.px i) λj _=>by rw[zma hb]
  cases m with
  |dead=>exact d1 h hc
  |own e m=>
   obtain⟨h1,h2⟩:=h;have hv:=hT.hv [];rw[zdc,zdc]at hv;refine⟨by rw[h0,h1,hv],?_⟩;rw[hv];refine h2.imp id λ⟨g,cap,cur,h3,h4,h5,h6,h7,h8,h9⟩=>?_;have ho:=hT.own g [] (by rw[zdc];exact h4);rw[zdc]at ho;exact⟨g,cap,cur,h3,ho.1,ho.2.trans h5,h6,h7,h8,λi hi=>ih (h9 i hi) hm (hT.px i) λ_ _=>rfl⟩
  |pr=>exact h.elim
  |sh=>exact shbw hm h
  |bw=>exact shbw hm h
 |ptr t ih=>
  intro S S' m p p' x cs cs' h hm hT hc;have h0:=hc 0 Nat.one_pos;have shbw:∀{m:Md},(q=true\/m.nobw=true)->(∃b o,cs 0=some (.pointer (some ⟨b,o,none⟩))/\(t.size≠0->S.G m b)/\Rel P t S m (Go.X.px p 0) x (blk S.w b o)) ->
    ∃b o,cs' 0=some (.pointer (some ⟨b,o,none⟩))/\(t.size≠0->S'.G m b)/\Rel P t S' m (Go.X.px p' 0) x (blk S'.w b o):=λhm h=>by
   obtain⟨b,o,h1,h2,h3⟩:=h;refine⟨b,o,h0.trans h1,λhne=>(hT.G hm (h2 hne)).1,ih h3 hm (hT.px 0) λj hj=>?_⟩;rw[zma (hT.G hm (h2 (by omega))).2]
  cases m with
  |dead=>exact d1 h hc
  |own e m=>
   obtain⟨h1,g,cur,e,h2,h3,h4,h5,h6⟩:=h;have hv:=hT.hv [];rw[zdc,zdc]at hv;have ho:=hT.own g [] (by rw[zdc];exact h3);rw[zdc]at ho;exact⟨by rw[h0,h1,hv],g,cur,e,hv.trans h2,ho.1,ho.2.trans h4,h5,ih h6 hm (hT.px 0) λ_ _=>rfl⟩
  |pr=>exact h.elim
  |sh=>exact shbw hm h
  |bw=>exact shbw hm h
 |fn1 a r iha ihr=>
  intro S S' m p p' x cs cs' h hm hT hc;have h0:=hc 0 Nat.one_pos;cases m with
  |dead=>exact d1 h hc
  |own=>exact h.elim
  |pr=>exact h.elim
  |sh=>
   obtain⟨f,caps,h1,h2,h3⟩:=h;exact⟨f,caps,h0.trans h1,h2,λS'' y z hf hw hg v hv hagg=>h3 S'' y z (hT.fut hm hf) hw hg v hv hagg⟩
  |bw=>
   obtain⟨f,caps,h1,h2,h3⟩:=h;exact⟨f,caps,h0.trans h1,h2,λS'' y z hf hw hg v hv hagg=>h3 S'' y z (hT.fut hm hf) hw hg v hv hagg⟩
 |fn2 a b r iha ihb ihr=>
  intro S S' m p p' x cs cs' h hm hT hc;have h0:=hc 0 Nat.one_pos;cases m with
  |dead=>exact d1 h hc
  |own=>exact h.elim
  |pr=>exact h.elim
  |sh=>
   obtain⟨f,caps,h1,h2,h3⟩:=h;exact⟨f,caps,h0.trans h1,h2,λS'' y1 y2 z hf hw hg v v' hv hagg hv' hagg'=>h3 S'' y1 y2 z (hT.fut hm hf) hw hg v v' hv hagg hv' hagg'⟩
  |bw=>
   obtain⟨f,caps,h1,h2,h3⟩:=h;exact⟨f,caps,h0.trans h1,h2,λS'' y1 y2 z hf hw hg v v' hv hagg hv' hagg'=>h3 S'' y1 y2 z (hT.fut hm hf) hw hg v v' hv hagg hv' hagg'⟩
 |alt tid a b iha ihb=>
  intro S S' m p p' x cs cs' h hm hT hc;have h0:=hc 0 Nat.one_pos;cases m<;>first | exact d1 h hc | (cases x with
   |inl y=>
    obtain⟨v,h1,h2,h3⟩:=h;exact⟨v,h0.trans h1,iha h2 (hm.imp id Md.nobw_l) (hT.px 0) λ_ _=>rfl,h3⟩
   |inr z=>exact⟨h.1,ihb h.2 (hm.imp id Md.nobw_r) (hT.px 1) λi hi=>hc i (by have:=h.1;simp only[Ty.size];omega)⟩)
 |nilI=>intro S S' m p p' x cs cs' h hm hT hc;have h0:=hc 0 Nat.one_pos;cases m<;>first | exact d1 h hc | exact h0.trans h
end
def leM:Ty->Md->Md->Bool
 | .unit,_,_=>true
 | .pair a b,m,m'=>leM a m.l m'.l&&leM b m.r m'.r
 | .arr _ t,m,m'=>leM t m m'
 | .slice t,m,m'=>match m,m' with
  |_,.dead=>true
  | .sh,.sh=>true
  | .bw,.bw=>true
  | .sh,.bw=>leM t .sh .bw
  | .own e k,.own e' k'=>e == e'&&leM t k k'
  |_,_=>false
 | .ptr t,m,m'=>match m,m' with
  |_,.dead=>true
  | .sh,.sh=>true
  | .bw,.bw=>true
  | .sh,.bw=>leM t .sh .bw
  | .own _ k,.own _ k'=>leM t k k'
  |_,_=>false
 | .fn1 _ _,m,m'=>match m,m' with
  |_,.dead=>true
  | .sh,.sh=>true
  | .bw,.bw=>true
  | .sh,.bw=>true
  |_,_=>false
 | .fn2 _ _ _,m,m'=>match m,m' with
  |_,.dead=>true
  | .sh,.sh=>true
  | .bw,.bw=>true
  | .sh,.bw=>true
  |_,_=>false
 | .alt _ a b,m,m'=>match m,m' with
  |_,.dead=>true
  | .dead,_=>false
  |m,m'=>leM a m.l m'.l&&leM b m.r m'.r
 |_,m,m'=>match m,m' with
  |_,.dead=>true
  | .dead,_=>false
  |_,_=>true
def zkh:Ty->Md->Bool
 | .unit,_=>true
 | .pair a b,m=>zkh a m.l&&zkh b m.r
 | .arr _ t,m=>zkh t m
 | .slice t,m=>match m with
  | .dead=>false
  | .pr _ _=>false
  | .own _ k=>zkh t k
  |_=>true
 | .ptr t,m=>match m with
  | .dead=>false
  | .pr _ _=>false
  | .own _ k=>zkh t k
  |_=>true
 | .alt _ a b,m=>match m with
  | .dead=>false
  |m=>zkh a m.l&&zkh b m.r
 |_,m=>match m with
  | .dead=>false
  |_=>true
section
variable {P:Program}
def Rel.alt_inl{tid:TypeId}{a b:Ty}{S:St}{m:Md}{p:Place}{y:a.den}{cs:Cs}(h:m≠ .dead):Rel P (.alt tid a b) S m p (.inl y) cs=(∃v,cs 0=some (.iface tid v)/\Rel P a S m.l (px p 0) y (zab a v)/\zgt a v):=by cases m<;>first | exact absurd rfl h | rfl
def Rel.alt_inr{tid:TypeId}{a b:Ty}{S:St}{m:Md}{p:Place}{z:b.den}{cs:Cs}(h:m≠ .dead):Rel P (.alt tid a b) S m p (.inr z) cs=(b.size=1/\Rel P b S m.r (px p 1) z cs):=by cases m<;>first | exact absurd rfl h | rfl
def zdm{M:Md}(hM:M=.sh\/M=.bw):∀t:Ty,zkh t M=true:=by
 intro t;induction t with
 |pair a b iha ihb=>rcases hM with rfl | rfl<;>(simp only[zkh,Md.l,Md.r,iha,ihb];rfl)
 |arr n t ih=>exact ih
 |alt tid a b iha ihb=>rcases hM with rfl | rfl<;>(simp only[zkh,Md.l,Md.r,iha,ihb];rfl)
 |_=>rcases hM with rfl | rfl<;>rfl
def fut_bw{S S':St}(h:Fut .bw S S'):Fut .sh S S':=⟨h.sh,λ_ h=>(by cases h),λb hb=>h.same b (.inl (hb.resolve_right λh=>by cases h.1))⟩
def Rel.weaken:∀{t:Ty} {S:St} {m m':Md} {p:Place} {x:t.den} {cs:Cs},Rel P t S m p x cs->leM t m m'=true->Rel P t S m' p x cs:=by
 intro t;induction t with
 |unit=>intro S m m' p x cs h hl;trivial
 |pair a b iha ihb=>intro S m m' p x cs h hl;simp only[leM,xal]at hl;exact⟨iha h.1 hl.1,ihb h.2 hl.2⟩
 |arr n t ih=>intro S m m' p x cs h hl;exact⟨h.1,λi hi=>ih (h.2 i hi) hl⟩
 |slice t ih=>
  intro S m m' p x cs h hl;have hd:=h.cells 0 Nat.one_pos;obtain⟨h1,h2,h3⟩:=h;refine⟨h1,h2,?_⟩;cases m' with
  |dead=>exact hd
  |pr=>cases m<;>simp[leM]at hl
  |sh=>cases m<;>first | (simp[leM]at hl;done) | exact h3
  |bw=>
   cases m<;>first | (simp[leM]at hl;done) | exact h3 | skip
   obtain⟨a,len,cap,h4,h5,h6,h7⟩:=h3;exact⟨a,len,cap,h4,h5,h6,h7.imp id λ⟨b,o,h8,h9,h10⟩=>⟨b,o,h8,λhne=>.inl ((h9 hne).resolve_right λh=>by cases h.1),λi hi=>ih (h10 i hi) hl⟩⟩
  |own e k'=>
   cases m<;>first | (simp[leM]at hl;done) | skip
   simp only[leM,xal,beq_iff_eq]at hl;obtain⟨he,hl⟩:=hl;subst he;exact⟨h3.1,h3.2.imp id λ⟨g,cap,cur,h4,h5,h6,h7,h8,h9,h10⟩=>⟨g,cap,cur,h4,h5,h6,h7,h8,h9,λi hi=>ih (h10 i hi) hl⟩⟩
 |ptr t ih=>
  intro S m m' p x cs h hl;have hd:=h.cells 0 Nat.one_pos;cases m' with
  |dead=>exact hd
  |pr=>cases m<;>simp[leM]at hl
  |sh=>cases m<;>first | (simp[leM]at hl;done) | exact h
  |bw=>
   cases m<;>first | (simp[leM]at hl;done) | exact h | skip
   obtain⟨b,o,h4,h5,h6⟩:=h;exact⟨b,o,h4,λhne=>.inl ((h5 hne).resolve_right λh=>by cases h.1),ih h6 hl⟩
  |own e k'=>
   cases m<;>first | (simp[leM]at hl;done) | skip
   obtain⟨h1,g,cur,e,h4,h5,h6,h7,h8⟩:=h;exact⟨h1,g,cur,e,h4,h5,h6,h7,ih h8 hl⟩
 |fn1 a r iha ihr=>
  intro S m m' p x cs h hl;have hd:=h.cells 0 Nat.one_pos;cases m' with
  |dead=>exact hd
  |pr=>cases m<;>simp[leM]at hl
  |own=>cases m<;>simp[leM]at hl
  |sh=>cases m<;>first | (simp[leM]at hl;done) | exact h
  |bw=>
   cases m<;>first | (simp[leM]at hl;done) | exact h | skip
   obtain⟨f,caps,h1,h2,h3⟩:=h;exact⟨f,caps,h1,h2,λS' x y hf hw hg v hv hagg=>h3 S' x y (fut_bw hf) hw hg v hv hagg⟩
 |fn2 a b r iha ihb ihr=>
  intro S m m' p x cs h hl;have hd:=h.cells 0 Nat.one_pos;cases m' with
  |dead=>exact hd
  |pr=>cases m<;>simp[leM]at hl
  |own=>cases m<;>simp[leM]at hl
  |sh=>cases m<;>first | (simp[leM]at hl;done) | exact h
  |bw=>
   cases m<;>first | (simp[leM]at hl;done) | exact h | skip
   obtain⟨f,caps,h1,h2,h3⟩:=h;exact⟨f,caps,h1,h2,λS' x y z hf hw hg v v' hv hagg hv' hagg'=>h3 S' x y z (fut_bw hf) hw hg v v' hv hagg hv' hagg'⟩
 |alt tid a b iha ihb=>
  intro S m m' p x cs h hl;have hd:=h.cells 0 Nat.one_pos;by_cases hm':m'=.dead;·subst hm';exact hd
  ·have hm:m≠ .dead:=by rintro rfl;cases m'<;>simp[leM]at hl hm'
   have ha:leM a m.l m'.l=true/\leM b m.r m'.r=true:=by cases m<;>cases m'<;>simp[leM]at hl hm hm'⊢ <;>exact hl
   cases x with
   |inl y=>rw[Rel.alt_inl hm]at h;rw[Rel.alt_inl hm'];obtain⟨v,h1,h2,h3⟩:=h;exact⟨v,h1,iha h2 ha.1,h3⟩
   |inr z=>rw[Rel.alt_inr hm]at h;rw[Rel.alt_inr hm'];exact⟨h.1,ihb h.2 ha.2⟩
 |int k=>intro S m m' p x cs h hl;have hd:=h.cells 0 Nat.one_pos;cases m'<;>first | exact hd | (cases m<;>first | (simp[leM]at hl;done) | exact h)
 |bool=>intro S m m' p x cs h hl;have hd:=h.cells 0 Nat.one_pos;cases m'<;>first | exact hd | (cases m<;>first | (simp[leM]at hl;done) | exact h)
 |str=>intro S m m' p x cs h hl;have hd:=h.cells 0 Nat.one_pos;cases m'<;>first | exact hd | (cases m<;>first | (simp[leM]at hl;done) | exact h)
 |nilI=>intro S m m' p x cs h hl;have hd:=h.cells 0 Nat.one_pos;cases m'<;>first | exact hd | (cases m<;>first | (simp[leM]at hl;done) | exact h)
structure Shr(q:Bool)(M:Md)(S S':St)(p:Place):Prop where
 F:∀b,S.F b->S'.F b/\S'.w.heap[b]?=S.w.heap[b]?
 B:q=true->∀b,S.B b->S'.G M b/\S'.w.heap[b]?=S.w.heap[b]?
 own:∀b r,S.own b=some (pa p r)->S'.G M b/\S'.w.heap[b]?=S.w.heap[b]?
def Shr.px{q:Bool}{M:Md}{S S':St}{p:Place}(h:Shr q M S S' p)(i:Nat):Shr q M S S' (px p i):=⟨h.F,h.B,λb r hb=>h.own b (i::r) (by rw[<-zcp];exact hb)⟩
def Shr.G{q:Bool}{M:Md}{S S':St}{p:Place}(h:Shr q M S S' p){m:Md}(hm:q=true\/m.nobw=true){b:Nat}(hb:S.G m b):S'.G M b/\S'.w.heap[b]?=S.w.heap[b]?:=by
 rcases hb with hb|⟨rfl,hb⟩
 ·exact⟨.inl (h.F b hb).1,(h.F b hb).2⟩
 ·exact h.B (hm.resolve_right (by simp[Md.nobw])) b hb
def Shr.fut{q:Bool}{M:Md}{S S' S'':St}{p:Place}(h:Shr q M S S' p){m:Md}(hm:q=true\/m.nobw=true)(hf:Fut M S' S''):Fut m S S'' where
 sh b hb:=hf.sh b (h.F b hb).1
 bw b hmb hb:=by
  subst hmb;rcases(h.B (hm.resolve_right (by simp[Md.nobw])) b hb).1 with h1|⟨h1,h2⟩
  ·exact .inl (hf.sh b h1)
  ·exact hf.bw b h1 h2
 same b hb:=(hf.same b (h.G hm hb).1).trans (h.G hm hb).2
def Rel.share{q:Bool}{M:Md}(hM:M=.sh\/M=.bw):∀{t:Ty} {S S':St} {m:Md} {p p':Place} {x:t.den} {cs:Cs},Rel P t S m p x cs->(q=true\/m.nobw=true)->zkh t m=true->Shr q M S S' p->Rel P t S' M p' x cs:=by
 intro t;have hl:M.l=M/\M.r=M:=by rcases hM with rfl|rfl<;>exact⟨rfl,rfl⟩
 induction t with
 |unit=>intro S S' m p p' x cs h hm hv hS;trivial
 |pair a b iha ihb=>
  intro S S' m p p' x cs h hm hv hS;simp only[zkh,xal]at hv;refine⟨?_,?_⟩;·rw[hl.1];exact iha h.1 (hm.imp id Md.nobw_l) hv.1 (hS.px 0)
  ·rw[hl.2];exact ihb h.2 (hm.imp id Md.nobw_r) hv.2 (hS.px 1)
 |arr n t ih=>intro S S' m p p' x cs h hm hv hS;exact⟨h.1,λi hi=>ih (h.2 i hi) hm hv (hS.px i)⟩
 |slice t ih=>
  intro S S' m p p' x cs h hm hv hS;obtain⟨h1,h2,h3⟩:=h;refine⟨h1,h2,?_⟩;have goal:∃a len cap,cs 0=some (.slice a len cap)/\len=x.length/\len<=cap/\((x=[]/\cap=0)\/∃b o,a=some ⟨b,o,none⟩/\(x≠ []->S'.G M b)/\∀(i:Nat) (h:i<x.length),Rel P t S' M (Go.X.px p' i) x[i] (blk S'.w b (o+i*t.size))):=by
   have shbw:∀{m:Md},zkh t m=true->(q=true\/m.nobw=true)->(∃a len cap,cs 0=some (.slice a len cap)/\len=x.length/\len<=cap/\((x=[]/\cap=0)\/∃b o,a=some ⟨b,o,none⟩/\(x≠ []->S.G m b)/\∀(i:Nat) (h:i<x.length),Rel P t S m (Go.X.px p i) x[i] (blk S.w b (o+i*t.size)))) ->
     ∃a len cap,cs 0=some (.slice a len cap)/\len=x.length/\len<=cap/\((x=[]/\cap=0)\/∃b o,a=some ⟨b,o,none⟩/\(x≠ []->S'.G M b)/\∀(i:Nat) (h:i<x.length),Rel P t S' M (Go.X.px p' i) x[i] (blk S'.w b (o+i*t.size))):=λhlv hm ⟨a,len,cap,h1,h2,h3,h4⟩=>
    ⟨a,len,cap,h1,h2,h3,h4.imp id λ⟨b,o,h5,h6,h7⟩=>⟨b,o,h5,λhne=>(hS.G hm (h6 hne)).1,λi hi=>by rw[zma (hS.G hm (h6 (by rintro rfl;simp at hi))).2];exact ih (h7 i hi) hm hlv (hS.px i)⟩⟩
   cases m with
   |dead=>cases hv
   |pr=>exact h3.elim
   |sh=>exact shbw (zdm (.inl rfl) t) hm h3
   |bw=>exact shbw (zdm (.inr rfl) t) hm h3
   |own e k=>
    obtain⟨h3,h4⟩:=h3;rcases h4 with⟨h4,h5⟩|⟨g,cap,cur,h4,h5,h6,h7,h8,h9,h10⟩
    ·grind
    ·have hg:=hS.own g [] (by rw[zdc];exact h5);refine⟨_,_,_,by rw[h3,h4],rfl,h7,.inr ⟨g,0,rfl,λ_=>hg.1,λi hi=>?_⟩⟩;have hb:blk S'.w g (0+i*t.size)=λj=>cur[i*t.size+j]?:=funext λj=>by show S'.w.cell? ⟨g,0+i*t.size+j,none⟩=_;rw[xck,cell_of_row S'.w g _ cur e (0,0) (hg.2.trans h6)]
     rw[hb];exact ih (h10 i hi) hm hv (hS.px i)
  grind
 |ptr t ih=>
  intro S S' m p p' x cs h hm hv hS;have goal:∃b o,cs 0=some (.pointer (some ⟨b,o,none⟩))/\(t.size≠0->S'.G M b)/\Rel P t S' M (Go.X.px p' 0) x (blk S'.w b o):=by
   have shbw:∀{m:Md},zkh t m=true->(q=true\/m.nobw=true)->(∃b o,cs 0=some (.pointer (some ⟨b,o,none⟩))/\(t.size≠0->S.G m b)/\Rel P t S m (Go.X.px p 0) x (blk S.w b o)) ->
     ∃b o,cs 0=some (.pointer (some ⟨b,o,none⟩))/\(t.size≠0->S'.G M b)/\Rel P t S' M (Go.X.px p' 0) x (blk S'.w b o):=λhlv hm ⟨b,o,h1,h2,h3⟩=>by
    have h4:=ih (p':=Go.X.px p' 0) h3 hm hlv (hS.px 0);refine⟨b,o,h1,λhne=>(hS.G hm (h2 hne)).1,?_⟩;by_cases h0:t.size=0;·exact h4.mono (q:=true) (.inl rfl) ⟨λ_ h=>h,λ_ _=>rfl,λ_ _ h=>.inr h,λ_ _ _=>rfl,λ_=>rfl,λ_ _ h=>⟨h,rfl⟩⟩ λi hi=>by omega
    ·rw[zma (hS.G hm (h2 h0)).2];exact h4
   cases m with
   |dead=>cases hv
   |pr=>exact h.elim
   |sh=>exact shbw (zdm (.inl rfl) t) hm h
   |bw=>exact shbw (zdm (.inr rfl) t) hm h
   |own e k=>
    obtain⟨h3,g,cur,e,h4,h5,h6,h7,h8⟩:=h;have hg:=hS.own g [] (by rw[zdc];exact h5);refine⟨g,0,by rw[h3,h4],λ_=>hg.1,?_⟩;have hb:blk S'.w g 0=λj=>cur[j]?:=funext λj=>by show S'.w.cell? ⟨g,0+j,none⟩=_;rw[xck,cell_of_row S'.w g _ cur e (0,0) (hg.2.trans h6)]
    rw[hb];exact ih h8 hm hv (hS.px 0)
  rcases hM with rfl|rfl<;>exact goal
 |int k=>intro S S' m p p' x cs h hm hv hS;rcases hM with rfl | rfl<;>cases m<;>first | exact h | (cases hv;done)
 |bool=>intro S S' m p p' x cs h hm hv hS;rcases hM with rfl | rfl<;>cases m<;>first | exact h | (cases hv;done)
 |str=>intro S S' m p p' x cs h hm hv hS;rcases hM with rfl | rfl<;>cases m<;>first | exact h | (cases hv;done)
 |nilI=>intro S S' m p p' x cs h hm hv hS;rcases hM with rfl | rfl<;>cases m<;>first | exact h | (cases hv;done)
 |fn1 a r iha ihr=>
  intro S S' m p p' x cs h hm hv hS;have key:∀{m:Md},(q=true\/m.nobw=true)->Rel P (.fn1 a r) S m p x cs->m=.sh\/m=.bw->Rel P (.fn1 a r) S' M p' x cs:=λ{m} hm h hmm=>by
   have h':∃f caps,cs 0=some (.func (.func f) #[] caps)/\zdn P f/\∀(S':St) (y:a.den) (z:r.den),Fut m S S'->S'.WF->x y=some z->∀v,Rel P a S' .bw (0,[]) y (zab a v)->zgt a v ->
    Calls P f (#[v]++caps) S'.w λe w''=>∃u,e=.returned u/\Rel P r {S' with w:=w''} .sh (0,[]) z (zab r u)/\zgt r u/\Ext S'.w w'':=by rcases hmm with rfl|rfl<;>exact h
   obtain⟨f,caps,h1,h2,h3⟩:=h';have:∃f caps,cs 0=some (.func (.func f) #[] caps)/\zdn P f/\∀(S'':St) (y:a.den) (z:r.den),Fut M S' S''->S''.WF->x y=some z->∀v,Rel P a S'' .bw (0,[]) y (zab a v)->zgt a v ->
    Calls P f (#[v]++caps) S''.w λe w''=>∃u,e=.returned u/\Rel P r {S'' with w:=w''} .sh (0,[]) z (zab r u)/\zgt r u/\Ext S''.w w'':=
    ⟨f,caps,h1,h2,λS'' y z hf hw hg v hv hagg=>h3 S'' y z (hS.fut hm hf) hw hg v hv hagg⟩
   rcases hM with rfl|rfl<;>exact this
  cases m with
  |dead=>cases hv
  |own=>exact h.elim
  |pr=>exact h.elim
  |sh=>exact key hm h (.inl rfl)
  |bw=>exact key hm h (.inr rfl)
 |fn2 a b r iha ihb ihr=>
  intro S S' m p p' x cs h hm hv hS;have key:∀{m:Md},(q=true\/m.nobw=true)->Rel P (.fn2 a b r) S m p x cs->m=.sh\/m=.bw->Rel P (.fn2 a b r) S' M p' x cs:=λ{m} hm h hmm=>by
   have h':∃f caps,cs 0=some (.func (.func f) #[] caps)/\zdn P f/\∀(S':St) (y:a.den) (y':b.den) (z:r.den),Fut m S S'->S'.WF->x y y'=some z->∀v v',Rel P a S' .bw (0,[]) y (zab a v)->zgt a v ->
    Rel P b S' .bw (0,[]) y' (zab b v')->zgt b v'->Calls P f (#[v,v']++caps) S'.w λe w''=>∃u,e=.returned u/\Rel P r {S' with w:=w''} .sh (0,[]) z (zab r u)/\zgt r u/\Ext S'.w w'':=by rcases hmm with rfl|rfl<;>exact h
   obtain⟨f,caps,h1,h2,h3⟩:=h';have:∃f caps,cs 0=some (.func (.func f) #[] caps)/\zdn P f/\∀(S'':St) (y:a.den) (y':b.den) (z:r.den),Fut M S' S''->S''.WF->x y y'=some z->∀v v',Rel P a S'' .bw (0,[]) y (zab a v)->zgt a v ->
    Rel P b S'' .bw (0,[]) y' (zab b v')->zgt b v'->Calls P f (#[v,v']++caps) S''.w λe w''=>∃u,e=.returned u/\Rel P r {S'' with w:=w''} .sh (0,[]) z (zab r u)/\zgt r u/\Ext S''.w w'':=
    ⟨f,caps,h1,h2,λS'' y y' z hf hw hg v v' hv hagg ha hagg'=>h3 S'' y y' z (hS.fut hm hf) hw hg v v' hv hagg ha hagg'⟩
   rcases hM with rfl|rfl<;>exact this
  cases m with
  |dead=>cases hv
  |own=>exact h.elim
  |pr=>exact h.elim
  |sh=>exact key hm h (.inl rfl)
  |bw=>exact key hm h (.inr rfl)
 |alt tid a b iha ihb=>
  intro S S' m p p' x cs h hm hv hS;have hc:m≠ .dead:=by rintro rfl;cases hv
  have hd:M≠ .dead:=by rcases hM with rfl|rfl<;>simp
  have ha:zkh a m.l=true/\zkh b m.r=true:=by cases m<;>first | (simp only[zkh,xal]at hv;exact hv) | (cases hv;done)
  cases x with
  |inl y=>rw[Rel.alt_inl hc]at h;rw[Rel.alt_inl hd];obtain⟨v,h1,h2,h3⟩:=h;exact⟨v,h1,by rw[hl.1];exact iha h2 (hm.imp id Md.nobw_l) ha.1 (hS.px 0),h3⟩
  |inr z=>rw[Rel.alt_inr hc]at h;rw[Rel.alt_inr hd];exact⟨h.1,by rw[hl.2];exact ihb h.2 (hm.imp id Md.nobw_r) ha.2 (hS.px 1)⟩
def Fut.G{M:Md}(hM:M=.sh\/M=.bw){S S':St}(h:Fut M S S'){b:Nat}(hb:S.G M b):S'.G M b:=by
 rcases hb with hb|⟨rfl,hb⟩
 ·exact .inl (h.sh b hb)
 ·exact(h.bw b rfl hb).imp id λh=>⟨rfl,h⟩
def Fut.trans{M:Md}(hM:M=.sh\/M=.bw){S S' S'':St}(h:Fut M S S')(k:Fut M S' S''):Fut M S S'' where
 sh b hb:=k.sh b (h.sh b hb)
 bw b hm hb:=(h.bw b hm hb).elim (λh=>.inl (k.sh b h)) λh=>k.bw b hm h
 same b hb:=(k.same b (h.G hM hb)).trans (h.same b hb)
def Rel.fut{M:Md}(hM:M=.sh\/M=.bw):∀{t:Ty} {S S':St} {p p':Place} {x:t.den} {cs cs':Cs},Rel P t S M p x cs->Fut M S S'->(∀i,i<t.size->cs' i=cs i)->Rel P t S' M p' x cs':=by
 intro t;have hl:M.l=M/\M.r=M:=by rcases hM with rfl|rfl<;>exact⟨rfl,rfl⟩
 induction t with
 |int k=>intro S S' p p' x cs cs' h hf hc;have h0:=hc 0 Nat.one_pos;rcases hM with rfl | rfl<;>exact⟨h0.trans h.1,h.2⟩
 |bool=>intro S S' p p' x cs cs' h hf hc;have h0:=hc 0 Nat.one_pos;rcases hM with rfl | rfl<;>exact h0.trans h
 |str=>intro S S' p p' x cs cs' h hf hc;have h0:=hc 0 Nat.one_pos;rcases hM with rfl | rfl<;>(obtain⟨s,h1,h2⟩:=h;exact⟨s,h0.trans h1,h2⟩)
 |unit=>intro S S' p p' x cs cs' h hf hc;trivial
 |nilI=>intro S S' p p' x cs cs' h hf hc;have h0:=hc 0 Nat.one_pos;rcases hM with rfl | rfl<;>exact h0.trans h
 |pair a b iha ihb=>
  intro S S' p p' x cs cs' h hf hc;simp only[Ty.size]at hc;obtain⟨h1,h2⟩:=h;rw[hl.1]at h1;rw[hl.2]at h2;refine⟨?_,?_⟩;·grind
  ·grind
 |arr n t ih=>intro S S' p p' x cs cs' h hf hc;simp only[Ty.size]at hc;refine⟨h.1,λi hi=>ih (h.2 i hi) hf λj hj=>hc _ ?_⟩;have:=h.1;have:(i+1)*t.size<=n*t.size:=xau _ (by omega);grind
 |slice t ih=>
  intro S S' p p' x cs cs' h hf hc;have h0:=hc 0 Nat.one_pos;obtain⟨h1,h2,h3⟩:=h;refine⟨h1,h2,?_⟩;have hb:∃a len cap,cs 0=some (.slice a len cap)/\len=x.length/\len<=cap/\((x=[]/\cap=0)\/∃b o,a=some ⟨b,o,none⟩/\(x≠ []->S.G M b)/\∀(i:Nat) (h:i<x.length),Rel P t S M (Go.X.px p i) x[i] (blk S.w b (o+i*t.size))):=by rcases hM with rfl|rfl<;>exact h3
  obtain⟨a,len,cap,h4,h5,h6,h7⟩:=hb;have goal:∃a len cap,cs' 0=some (.slice a len cap)/\len=x.length/\len<=cap/\((x=[]/\cap=0)\/∃b o,a=some ⟨b,o,none⟩/\(x≠ []->S'.G M b)/\∀(i:Nat) (h:i<x.length),Rel P t S' M (Go.X.px p' i) x[i] (blk S'.w b (o+i*t.size))):=
   ⟨a,len,cap,h0.trans h4,h5,h6,h7.imp id λ⟨b,o,h8,h9,h10⟩=>⟨b,o,h8,λhne=>hf.G hM (h9 hne),λi hi=>ih (h10 i hi) hf λj _=>by rw[zma (hf.same b (h9 (by rintro rfl;simp at hi)))]⟩⟩
  grind
 |ptr t ih=>
  intro S S' p p' x cs cs' h hf hc;have h0:=hc 0 Nat.one_pos;have h':∃b o,cs 0=some (.pointer (some ⟨b,o,none⟩))/\(t.size≠0->S.G M b)/\Rel P t S M (Go.X.px p 0) x (blk S.w b o):=by rcases hM with rfl|rfl<;>exact h
  obtain⟨b,o,h1,h2,h3⟩:=h';have goal:∃b o,cs' 0=some (.pointer (some ⟨b,o,none⟩))/\(t.size≠0->S'.G M b)/\Rel P t S' M (Go.X.px p' 0) x (blk S'.w b o):=
   ⟨b,o,h0.trans h1,λhne=>hf.G hM (h2 hne),ih h3 hf λj hj=>by rw[zma (hf.same b (h2 (by omega)))]⟩
  rcases hM with rfl|rfl<;>exact goal
 |fn1 a r iha ihr=>intro S S' p p' x cs cs' h hf hc;have h0:=hc 0 Nat.one_pos;rcases hM with rfl|rfl<;>(obtain⟨f,caps,h1,h2,h3⟩:=h;exact⟨f,caps,h0.trans h1,h2,λS'' y z hf' hw hg v hv hagg=>h3 S'' y z (hf.trans (by simp) hf') hw hg v hv hagg⟩)
 |fn2 a b r iha ihb ihr=>intro S S' p p' x cs cs' h hf hc;have h0:=hc 0 Nat.one_pos;rcases hM with rfl|rfl<;>(obtain⟨f,caps,h1,h2,h3⟩:=h;exact⟨f,caps,h0.trans h1,h2,λS'' y y' z hf' hw hg v v' hv hagg hv' hagg'=>h3 S'' y y' z (hf.trans (by simp) hf') hw hg v v' hv hagg hv' hagg'⟩)
 |alt tid a b iha ihb=>
  intro S S' p p' x cs cs' h hf hc;have h0:=hc 0 Nat.one_pos;have ha:M≠ .dead:=by rcases hM with rfl|rfl<;>simp
  cases x with
  |inl y=>rw[Rel.alt_inl ha]at h ⊢;rw[hl.1]at h ⊢;obtain⟨v,h1,h2,h3⟩:=h;exact⟨v,h0.trans h1,iha h2 hf λ_ _=>rfl,h3⟩
  |inr z=>rw[Rel.alt_inr ha]at h ⊢;rw[hl.2]at h ⊢;exact⟨h.1,ihb h.2 hf λi hi=>hc i (by have:=h.1;simp only[Ty.size];omega)⟩
def WT:(t:Ty)->t.den->Prop
 | .int k,n=>k.wrap n=n
 | .str,x=>x.length<=zpf/\∀c∈x,0<=c/\c<256
 | .pair a b,x=>WT a x.1/\WT b x.2
 | .arr n t,xs=>xs.length=n/\∀x∈xs,WT t x
 | .slice t,xs=>xs.length<=zpf/\∀x∈xs,WT t x
 | .ptr t,x=>WT t x
 | .alt _ a b,x=>match x with
  | .inl y=>WT a y
  | .inr z=>WT b z
 |_,_=>True
def Rel.wt:∀{t:Ty} {S:St} {m:Md} {p:Place} {x:t.den} {cs:Cs},Rel P t S m p x cs->zkh t m=true->WT t x:=by
 intro t;induction t with
 |int k=>intro S m p x cs h hv;cases m<;>first | exact h.2 | (cases hv;done)
 |bool=>intro S m p x cs h hv;trivial
 |unit=>intro S m p x cs h hv;trivial
 |nilI=>intro S m p x cs h hv;trivial
 |fn1=>intro S m p x cs h hv;trivial
 |fn2=>intro S m p x cs h hv;trivial
 |str=>
  intro S m p x cs h hv;have:∃s:ByteArray,cs 0=some (.string s)/\s.data.toList.map (λc=>(c.toNat:Int))=x/\x.length<=zpf:=by cases m<;>first | exact h | (cases hv;done)
  obtain⟨s,_,h1,h2⟩:=this;refine⟨h2,λc hc=>?_⟩;rw[<-h1,xdx]at hc;obtain⟨d,_,rfl⟩:=hc;have:=d.toNat_lt;grind
 |pair a b iha ihb=>intro S m p x cs h hv;simp only[zkh,xal]at hv;exact⟨iha h.1 hv.1,ihb h.2 hv.2⟩
 |arr n t ih=>intro S m p x cs h hv;refine⟨h.1,λy hy=>?_⟩;obtain⟨i,hi,rfl⟩:=xdi hy;exact ih (h.2 i hi) hv
 |slice t ih=>
  intro S m p x cs h hv;obtain⟨h1,h2,h3⟩:=h;refine⟨h1,λy hy=>?_⟩;obtain⟨i,hi,rfl⟩:=xdi hy;cases m with
  |dead=>cases hv
  |pr=>cases hv
  |own e k=>
   rcases h3.2 with⟨_,h4⟩|⟨g,cap,cur,_,_,_,_,_,_,h4⟩
   ·subst h4;simp at hi
   ·exact ih (h4 i hi) hv
  |sh=>
   obtain⟨a,len,cap,_,h5,h6,h7⟩:=h3;rcases h7 with⟨_,h8⟩|⟨b,o,_,_,h8⟩
   ·omega
   ·exact ih (h8 i hi) (zdm (.inl rfl) t)
  |bw=>
   obtain⟨a,len,cap,_,h5,h6,h7⟩:=h3;rcases h7 with⟨_,h8⟩|⟨b,o,_,_,h8⟩
   ·omega
   ·exact ih (h8 i hi) (zdm (.inr rfl) t)
 |ptr t ih=>
  intro S m p x cs h hv;cases m with
  |dead=>cases hv
  |pr=>cases hv
  |own e k=>obtain⟨_,g,cur,_,_,_,_,_,h4⟩:=h;exact ih h4 hv
  |sh=>obtain⟨b,o,_,_,h4⟩:=h;exact ih h4 (zdm (.inl rfl) t)
  |bw=>obtain⟨b,o,_,_,h4⟩:=h;exact ih h4 (zdm (.inr rfl) t)
 |alt tid a b iha ihb=>
  intro S m p x cs h hv;have ha:m≠ .dead:=by rintro rfl;cases hv
  have hb:zkh a m.l=true/\zkh b m.r=true:=by cases m<;>first | (simp only[zkh,xal]at hv;exact hv) | (cases hv;done)
  cases x with
  |inl y=>rw[Rel.alt_inl ha]at h;obtain⟨v,_,h2,_⟩:=h;exact iha h2 hb.1
  |inr z=>rw[Rel.alt_inr ha]at h;exact ihb h.2 hb.2
end
structure TV where
 t:Ty
 x:t.den
def TV.to(y:TV)(t:Ty):Option t.den:=if h:y.t=t then some (h▸y.x)else none
def TV.to_some{y:TV}{t:Ty}{x:t.den}(h:y.to t=some x):y=⟨t,x⟩:=by obtain⟨s,y⟩:=y;unfold TV.to at h;grind
def zcc:(π:List Nat)->(t:Ty)->t.den->Option TV
 | [],t,x=>some ⟨t,x⟩
 |i::π,.pair a b,x=>match i with
  | 0=>zcc π a x.1
  | 1=>zcc π b x.2
  |_=>none
 |i::π,.arr _ t,xs=>zcc π t (xs.getD i t.dflt)
 |i::π,.slice t,xs=>zcc π t (xs.getD i t.dflt)
 |i::π,.ptr t,x=>match i with
  | 0=>zcc π t x
  |_=>none
 |_,_,_=>none
def zkf:(π:List Nat)->(t:Ty)->t.den->TV->Option t.den
 | [],t,_,y=>y.to t
 |i::π,.pair a b,x,y=>match i with
  | 0=>(zkf π a x.1 y).map λz=>(z,x.2)
  | 1=>(zkf π b x.2 y).map λz=>(x.1,z)
  |_=>none
 |i::π,.arr _ t,xs,y=>(zkf π t (xs.getD i t.dflt) y).map λz=>xs.set i z
 |i::π,.slice t,xs,y=>(zkf π t (xs.getD i t.dflt) y).map λz=>xs.set i z
 |i::π,.ptr t,x,y=>match i with
  | 0=>zkf π t x y
  |_=>none
 |_,_,_,_=>none
def zbr:(π:List Nat)->Ty->Md->Option Md
 | [],_,m=>some m
 |i::π,.pair a b,m=>match i with
  | 0=>zbr π a m.l
  | 1=>zbr π b m.r
  |_=>none
 |_::π,.arr _ t,m=>zbr π t m
 |_::π,.slice t,.own _ k=>zbr π t k
 |i::π,.ptr t,.own _ k=>match i with
  | 0=>zbr π t k
  |_=>none
 |_,_,_=>none
def zfl:(π:List Nat)->Ty->Md->Md->Option Md
 | [],_,_,m'=>some m'
 |i::π,.pair a b,m,m'=>match i with
  | 0=>(zfl π a m.l m').map λk=>.pr k m.r
  | 1=>(zfl π b m.r m').map λk=>.pr m.l k
  |_=>none
 |_::π,.arr _ t,m,m'=>(zfl π t m m').bind λk=>if leM t k m then some m else none
 |_::π,.slice t,.own e k,m'=>(zfl π t k m').bind λj=>if leM t j k then some (.own e k)else none
 |i::π,.ptr t,.own e k,m'=>match i with
  | 0=>(zfl π t k m').map λj=>.own e j
  |_=>none
 |_,_,_,_=>none
def zbo:(π:List Nat)->Ty->Option (Option (List Nat)×Nat)
 | [],_=>some (none,0)
 |i::π,.pair a b=>match i with
  | 0=>(zbo π a).map λl=>(l.1.map (0::·),l.2)
  | 1=>(zbo π b).map λl=>match l with | (none,o)=>(none,a.size+o) | (some q,o)=>(some (1::q),o)
  |_=>none
 |i::π,.arr _ t=>(zbo π t).map λl=>match l with | (none,o)=>(none,i*t.size+o) | (some q,o)=>(some (i::q),o)
 |i::π,.slice t=>(zbo π t).map λl=>match l with | (none,o)=>(some [],i*t.size+o) | (some q,o)=>(some (i::q),o)
 |i::π,.ptr t=>match i with
  | 0=>(zbo π t).map λl=>match l with | (none,o)=>(some [],o) | (some q,o)=>(some (0::q),o)
  |_=>none
 |_,_=>none
def okP(S:St):(π:List Nat)->Ty->Place->Prop
 | [],_,_=>True
 |i::π,.pair a b,p=>match i with
  | 0=>okP S π a (px p 0)
  | 1=>okP S π b (px p 1)
  |_=>False
 |i::π,.arr n t,p=>i<n/\okP S π t (px p i)
 |i::π,.slice t,p=>(∃b len cap,S.hv p=.slice (some ⟨b,0,none⟩) len cap/\i<len)/\okP S π t (px p i)
 |i::π,.ptr t,p=>match i with
  | 0=>okP S π t (px p 0)
  |_=>False
 |_,_,_=>False
def hvB:Value->Option Nat
 | .pointer (some ⟨b,0,none⟩)=>some b
 | .slice (some ⟨b,0,none⟩) _ _=>some b
 |_=>none
section
variable {P:Program}
def zed{α:Type}{xs:List α}{i:Nat}(h:i<xs.length)(d:α):xs.getD i d=xs[i]:=by simp[xad,h]
def Rel.at{S:St}:∀{π:List Nat} {t:Ty} {m k:Md} {p:Place} {x:t.den} {cs:Cs},Rel P t S m p x cs->zbr π t m=some k->okP S π t p ->
  ∃(s:Ty) (y:s.den) (l:Option (List Nat)×Nat) (cs':Cs),zcc π t x=some ⟨s,y⟩/\zbo π t=some l/\Rel P s S k (pa p π) y cs' /\
   match l with
   |(none,o)=>cs'=λi=>cs (o+i)
   |(some q,o)=>∃b,hvB (S.hv (pa p q))=some b/\S.own b=some (pa p q)/\cs'=blk S.w b o/\∃cur e,S.w.heap[b]?=some (.cells cur e (0,0))
 | [],t,m,k,p,x,cs,h,hm,_=>by simp only[zbr,xaq]at hm;subst hm;exact⟨t,x,(none,0),cs,rfl,rfl,by rw[zdc];exact h,by simp⟩
 |i::π,.pair a b,m,k,p,x,cs,h,hm,ho=>by
  match i with
  | 0=>
   simp only[zbr]at hm
   obtain⟨s,y,l,cs',h1,h2,h3,h4⟩:=Rel.at h.1 hm ho
   refine⟨s,y,(l.1.map (0::·),l.2),cs',by simpa[zcc]using h1,by simp[zbo,h2],by rw[<-zcp];exact h3,?_⟩
   obtain⟨q,o⟩:=l
   cases q with
   |none=>exact h4
   |some q=>simp only[zcp]at h4;exact h4
  | 1=>
   simp only[zbr]at hm
   obtain⟨s,y,l,cs',h1,h2,h3,h4⟩:=Rel.at h.2 hm ho
   obtain⟨q,o⟩:=l
   cases q with
   |none=>exact⟨s,y,(none,a.size+o),cs',by simpa[zcc]using h1,by simp[zbo,h2],by rw[<-zcp];exact h3,by rw[h4];funext i;rw[xdk]⟩
   |some q=>exact⟨s,y,(some (1::q),o),cs',by simpa[zcc]using h1,by simp[zbo,h2],by rw[<-zcp];exact h3,by simpa only[zcp]using h4⟩
  |i+2=>simp[zbr]at hm
 |i::π,.arr n t,m,k,p,x,cs,h,hm,ho=>by
  have hf:zbr π t m=some k:=by cases i<;>(try rename_i j;cases j)<;>exact hm
  have ha:i<n/\okP S π t (px p i):=by cases i<;>(try rename_i j;cases j)<;>exact ho
  have hi:i<x.length:=by rw[h.1];exact ha.1
  obtain⟨s,y,l,cs',h1,h2,h3,h4⟩:=Rel.at (h.2 i hi) hf ha.2;have hg:zcc (i::π) (.arr n t) x=zcc π t x[i]:=by
   have:zcc (i::π) (.arr n t) x=zcc π t (x.getD i t.dflt):=by cases i<;>(try rename_i j;cases j)<;>rfl
   rw[this,zed hi]
  have hl:zbo (i::π) (.arr n t)=(zbo π t).map λl=>match l with | (none,o)=>(none,i*t.size+o) | (some q,o)=>(some (i::q),o):=by cases i<;>(try rename_i j;cases j)<;>rfl
  obtain⟨q,o⟩:=l;cases q with
  |none=>exact⟨s,y,(none,i*t.size+o),cs',by rw[hg];exact h1,by rw[hl,h2];rfl,by rw[<-zcp];exact h3,by rw[h4];funext i;rw[xdk]⟩
  |some q=>exact⟨s,y,(some (i::q),o),cs',by rw[hg];exact h1,by rw[hl,h2];rfl,by rw[<-zcp];exact h3,by simpa only[zcp]using h4⟩
 |i::π,.slice t,m,k,p,x,cs,h,hm,ho=>by
  have ha:(∃b len cap,S.hv p=.slice (some ⟨b,0,none⟩) len cap/\i<len)/\okP S π t (px p i):=by cases i<;>(try rename_i j;cases j)<;>exact ho
  have hh:∃e k',m=.own e k'/\zbr π t k'=some k:=by
   cases m<;>first | (cases i<;>(try rename_i j;cases j)<;>simp[zbr]at hm;done) | skip
   rename_i e k';exact⟨e,k',rfl,by cases i<;>(try rename_i j;cases j)<;>exact hm⟩
  obtain⟨e,k',rfl,hf⟩:=hh;obtain⟨hk,hj,h1,h2⟩:=h;obtain⟨⟨b,len,cap,hb,hi⟩,ha⟩:=ha;rcases h2 with⟨h2,_⟩|⟨g,cap',cur,h2,h3,h4,h5,h6,h7,h8⟩
  ·rw[h2]at hb;cases hb
  rw[h2]at hb;cases hb;obtain⟨s,y,l,cs',h9,hc,hd,he⟩:=Rel.at (h8 i hi) hf ha;have hg:zcc (i::π) (.slice t) x=zcc π t x[i]:=by
   have:zcc (i::π) (.slice t) x=zcc π t (x.getD i t.dflt):=by cases i<;>(try rename_i j;cases j)<;>rfl
   rw[this,zed hi]
  have hl:zbo (i::π) (.slice t)=(zbo π t).map λl=>match l with | (none,o)=>(some [],i*t.size+o) | (some q,o)=>(some (i::q),o):=by cases i<;>(try rename_i j;cases j)<;>rfl
  obtain⟨q,o⟩:=l;cases q with
  |none=>
   refine⟨s,y,(some [],i*t.size+o),cs',by rw[hg];exact h9,by rw[hl,hc];rfl,by rw[<-zcp];exact hd,b,by rw[zdc,h2];rfl,by rw[zdc];exact h3,?_,cur,e,h4⟩;rw[he];funext j;show _=S.w.cell? ⟨b,i*t.size+o+j,none⟩;rw[cell_of_row S.w b _ cur e (0,0) h4,xdk]
  |some q=>exact⟨s,y,(some (i::q),o),cs',by rw[hg];exact h9,by rw[hl,hc];rfl,by rw[<-zcp];exact hd,by simpa only[zcp]using he⟩
 |i::π,.ptr t,m,k,p,x,cs,h,hm,ho=>by
  match i with
  |i+1=>cases m<;>simp[zbr]at hm
  | 0=>
   cases m<;>first | (simp[zbr]at hm;done) | skip
   rename_i e0 k'
   simp only[zbr]at hm
   obtain⟨h1,g,cur,e,h2,h3,h4,h5,h6⟩:=h
   obtain⟨s,y,l,cs',h9,hc,hd,he⟩:=Rel.at h6 hm ho
   obtain⟨q,o⟩:=l
   cases q with
   |none=>
    refine⟨s,y,(some [],o),cs',by simpa[zcc]using h9,by simp[zbo,hc],by rw[<-zcp];exact hd,g,by rw[zdc,h2];rfl,by rw[zdc];exact h3,?_,cur,e,h4⟩
    rw[he]
    funext j
    show _=S.w.cell? ⟨g,o+j,none⟩
    rw[cell_of_row S.w g _ cur e (0,0) h4]
   |some q=>exact⟨s,y,(some (0::q),o),cs',by simpa[zcc]using h9,by simp[zbo,hc],by rw[<-zcp];exact hd,by simpa only[zcp]using he⟩
 |_::_,.int _,_,_,_,_,_,_,hm,_=>by simp[zbr]at hm
 |_::_,.bool,_,_,_,_,_,_,hm,_=>by simp[zbr]at hm
 |_::_,.str,_,_,_,_,_,_,hm,_=>by simp[zbr]at hm
 |_::_,.unit,_,_,_,_,_,_,hm,_=>by simp[zbr]at hm
 |_::_,.fn1 _ _,_,_,_,_,_,_,hm,_=>by simp[zbr]at hm
 |_::_,.fn2 _ _ _,_,_,_,_,_,_,hm,_=>by simp[zbr]at hm
 |_::_,.alt _ _ _,_,_,_,_,_,_,hm,_=>by simp[zbr]at hm
 |_::_,.nilI,_,_,_,_,_,_,hm,_=>by simp[zbr]at hm
end
def zlv(i:Nat)(π:List Nat)(n:Nat)(t:Ty)(xs:List t.den):zcc (i::π) (.arr n t) xs=zcc π t (xs.getD i t.dflt):=by cases i<;>(try rename_i j;cases j)<;>rfl
def zpj(i:Nat)(π:List Nat)(t:Ty)(xs:List t.den):zcc (i::π) (.slice t) xs=zcc π t (xs.getD i t.dflt):=by cases i<;>(try rename_i j;cases j)<;>rfl
def zqw(i:Nat)(π:List Nat)(n:Nat)(t:Ty)(xs:List t.den)(y:TV):zkf (i::π) (.arr n t) xs y=(zkf π t (xs.getD i t.dflt) y).map λz=>xs.set i z:=by cases i<;>(try rename_i j;cases j)<;>rfl
def zvh(i:Nat)(π:List Nat)(t:Ty)(xs:List t.den)(y:TV):zkf (i::π) (.slice t) xs y=(zkf π t (xs.getD i t.dflt) y).map λz=>xs.set i z:=by cases i<;>(try rename_i j;cases j)<;>rfl
def modeP_arr(i:Nat)(π:List Nat)(n:Nat)(t:Ty)(m:Md):zbr (i::π) (.arr n t) m=zbr π t m:=by cases i<;>(try rename_i j;cases j)<;>rfl
def modeP_slice(i:Nat)(π:List Nat)(t:Ty)(e:TypeId)(k:Md):zbr (i::π) (.slice t) (.own e k)=zbr π t k:=by cases i<;>(try rename_i j;cases j)<;>rfl
def zxu(i:Nat)(π:List Nat)(n:Nat)(t:Ty)(m m':Md):zfl (i::π) (.arr n t) m m'=(zfl π t m m').bind λk=>if leM t k m then some m else none:=by cases i<;>(try rename_i j;cases j)<;>rfl
def zvi(i:Nat)(π:List Nat)(t:Ty)(e:TypeId)(k m':Md):zfl (i::π) (.slice t) (.own e k) m'=(zfl π t k m').bind λj=>if leM t j k then some (.own e k)else none:=by cases i<;>(try rename_i j;cases j)<;>rfl
def zej(i:Nat)(π:List Nat)(n:Nat)(t:Ty):zbo (i::π) (.arr n t)=(zbo π t).map λl=>match l with | (none,o)=>(none,i*t.size+o) | (some q,o)=>(some (i::q),o):=by cases i<;>(try rename_i j;cases j)<;>rfl
def zec(i:Nat)(π:List Nat)(t:Ty):zbo (i::π) (.slice t)=(zbo π t).map λl=>match l with | (none,o)=>(some [],i*t.size+o) | (some q,o)=>(some (i::q),o):=by cases i<;>(try rename_i j;cases j)<;>rfl
def zex{S:St}(i:Nat)(π:List Nat)(n:Nat)(t:Ty)(p:Place):okP S (i::π) (.arr n t) p=(i<n/\okP S π t (px p i)):=by cases i<;>(try rename_i j;cases j)<;>rfl
def zgd{S:St}(i:Nat)(π:List Nat)(t:Ty)(p:Place):okP S (i::π) (.slice t) p=((∃b len cap,S.hv p=.slice (some ⟨b,0,none⟩) len cap/\i<len)/\okP S π t (px p i)):=by cases i<;>(try rename_i j;cases j)<;>rfl
def zmd{i:Nat}{π:List Nat}{t:Ty}{m m' k:Md}(h:zfl (i::π) (.slice t) m k=some m'):∃e j,m=.own e j:=by cases m<;>first | exact⟨_,_,rfl⟩ | (cases i<;>(try rename_i j;cases j)<;>cases h)
structure Fr(S S':St)(p:Place)(π:List Nat)(b0:Option Nat):Prop where
 F:∀b,S.F b->S'.F b
 sF:∀b,S.F b->S'.w.heap[b]?=S.w.heap[b]?
 B:∀b,S.B b->S'.F b\/S'.B b
 sB:∀b,S.B b->S'.w.heap[b]?=S.w.heap[b]?
 hv:∀r,¬π <+: r->S'.hv (pa p r)=S.hv (pa p r)
 own:∀b r,¬π <+: r->S.own b=some (pa p r)->S'.own b=some (pa p r)/\(some b≠b0->S'.w.heap[b]?=S.w.heap[b]?)
def Fr.sub{S S':St}{p:Place}{i:Nat}{π:List Nat}{b0:Option Nat}(h:Fr S S' p (i::π) b0):Fr S S' (px p i) π b0 where
 F:=h.F
 sF:=h.sF
 B:=h.B
 sB:=h.sB
 hv r hr:=by rw[zcp];exact h.hv _ λhp=>hr (xie.1 hp).2
 own b r hr hb:=by rw[zcp]at hb ⊢;exact h.own b _ (λhp=>hr (xie.1 hp).2) hb
def Fr.none_of{S S':St}{p:Place}{π:List Nat}{b0:Nat}(h:Fr S S' p π (some b0))(hb:∀r,S.own b0≠some (pa p r)):Fr S S' p π none where
 F:=h.F
 sF:=h.sF
 B:=h.B
 sB:=h.sB
 hv:=h.hv
 own b r hr hbo:=⟨(h.own b r hr hbo).1,λ_=>(h.own b r hr hbo).2 λhe=>hb r (by cases he;exact hbo)⟩
def zqi{p:Place}{q r:List Nat}(h:pa p q=pa p r):q=r:=by simpa[pa]using h
def Fr.side{S S':St}{p:Place}{i j:Nat}{π:List Nat}{b0:Option Nat}(h:Fr S S' p (i::π) b0)(hij:j≠i)(hb:∀b r,b0=some b->S.own b≠some (pa p (j::r))):Tr true S S' (px p j) (px p j) where
 F:=h.F
 sF:=h.sF
 B _:=h.B
 sB _:=h.sB
 hv r:=by rw[zcp];exact h.hv _ λhp=>hij (xie.1 hp).1.symm
 own b r hbo:=by rw[zcp]at hbo ⊢;have:=h.own b _ (λhp=>hij (xie.1 hp).1.symm) hbo;grind
section
variable {P:Program}
def zod{S:St}{s:Ty}{y:s.den}:∀{π:List Nat} {t:Ty} {p:Place} {x x':t.den} {o:Nat},zbo π t=some (none,o)->zkf π t x ⟨s,y⟩=some x'->okP S π t p->o+s.size<=t.size
 | [],t,p,x,x',o,hl,hs,_=>by simp only[zbo,xaq,xaw,xgl]at hl;have:=TV.to_some hs;cases this;omega
 |i::π,.pair a b,p,x,x',o,hl,hs,ho=>by
  match i with
  | 0=>
   simp only[zbo,xac]at hl
   obtain⟨⟨q,o'⟩,h1,h2⟩:=hl
   simp only[xaw,xgt]at h2
   obtain⟨rfl,rfl⟩:=h2
   simp only[zkf,xac]at hs
   obtain⟨z,h3,h4⟩:=hs
   have:=zod h1 h3 ho
   simp only[Ty.size]
   omega
  | 1=>
   simp only[zbo,xac]at hl
   obtain⟨⟨q,o'⟩,h1,h2⟩:=hl
   cases q with
   |some q=>simp at h2
   |none=>
    simp only[xaw,xgl]at h2
    subst h2
    simp only[zkf,xac]at hs
    obtain⟨z,h3,h4⟩:=hs
    have:=zod h1 h3 ho
    simp only[Ty.size]
    omega
  |i+2=>simp[zbo]at hl
 |i::π,.arr n t,p,x,x',o,hl,hs,ho=>by
  rw[zej]at hl;rw[zex]at ho;rw[zqw]at hs;simp only[xac]at hl hs;obtain⟨⟨q,o'⟩,h1,h2⟩:=hl;cases q with
  |some q=>simp at h2
  |none=>simp only[xaw,xgl]at h2;subst h2;obtain⟨z,h3,h4⟩:=hs;have:=zod h1 h3 ho.2;have hm:(i+1)*t.size<=n*t.size:=xau _ ho.1;rw[xco]at hm;simp only[Ty.size];omega
 |i::π,.slice t,p,x,x',o,hl,hs,ho=>by rw[zec]at hl;simp only[xac]at hl;obtain⟨⟨q,o'⟩,h1,h2⟩:=hl;cases q<;>simp at h2
 |i::π,.ptr t,p,x,x',o,hl,hs,ho=>by
  match i with
  | 0=>
   simp only[zbo,xac]at hl
   obtain⟨⟨q,o'⟩,h1,h2⟩:=hl
   cases q<;>simp at h2
  |i+1=>simp[zbo]at hl
 |_::_,.int _,_,_,_,_,hl,_,_=>by simp[zbo]at hl
 |_::_,.bool,_,_,_,_,hl,_,_=>by simp[zbo]at hl
 |_::_,.str,_,_,_,_,hl,_,_=>by simp[zbo]at hl
 |_::_,.unit,_,_,_,_,hl,_,_=>by simp[zbo]at hl
 |_::_,.fn1 _ _,_,_,_,_,hl,_,_=>by simp[zbo]at hl
 |_::_,.fn2 _ _ _,_,_,_,_,hl,_,_=>by simp[zbo]at hl
 |_::_,.alt _ _ _,_,_,_,_,hl,_,_=>by simp[zbo]at hl
 |_::_,.nilI,_,_,_,_,hl,_,_=>by simp[zbo]at hl
def Rel.updA{S S':St}{s:Ty}{y:s.den}{k:Md}:∀{π:List Nat} {t:Ty} {m m':Md} {p:Place} {x x':t.den} {cs cs':Cs} {o:Nat},Rel P t S m p x cs->zbo π t=some (none,o)->zfl π t m k=some m' ->
  zkf π t x ⟨s,y⟩=some x'->okP S π t p->Fr S S' p π none->(∀i,i<t.size->i<o\/o+s.size<=i->cs' i=cs i)->Rel P s S' k (pa p π) y (λi=>cs' (o+i))->Rel P t S' m' p x' cs'
 | [],t,m,m',p,x,x',cs,cs',o,h,hl,hm,hs,ho,hF,hc,hy=>by simp only[zbo,xaq,xaw,xgl]at hl;simp only[zfl,xaq]at hm;subst hl hm;have:=TV.to_some hs;cases this;rw[zdc]at hy;simpa using hy
 |i::π,.pair a b,m,m',p,x,x',cs,cs',o,h,hl,hm,hs,ho,hF,hc,hy=>by
  match i with
  | 0=>
   simp only[zbo,xac]at hl
   obtain⟨⟨q,o'⟩,h1,h2⟩:=hl
   simp only[xaw,xgt]at h2
   obtain⟨rfl,rfl⟩:=h2
   simp only[zkf,xac]at hs
   obtain⟨z,h3,rfl⟩:=hs
   simp only[zfl,xac]at hm
   obtain⟨k',h4,rfl⟩:=hm
   have he:=zod h1 h3 ho
   rw[<-zcp]at hy
   refine⟨Rel.updA h.1 h1 h4 h3 ho hF.sub (λi hi hio=>hc i (by simp only[Ty.size];omega) hio) hy,?_⟩
   exact h.2.mono (.inl rfl) (hF.side (by omega) (by simp)) λi hi=>hc _ (by simp only[Ty.size];omega) (.inr (by omega))
  | 1=>
   simp only[zbo,xac]at hl
   obtain⟨⟨q,o'⟩,h1,h2⟩:=hl
   cases q with
   |some q=>simp at h2
   |none=>
    simp only[xaw,xgl]at h2
    subst h2
    simp only[zkf,xac]at hs
    obtain⟨z,h3,rfl⟩:=hs
    simp only[zfl,xac]at hm
    obtain⟨k',h4,rfl⟩:=hm
    rw[<-zcp]at hy
    refine⟨h.1.mono (.inl rfl) (hF.side (by omega) (by simp)) λi hi=>hc _ (by simp only[Ty.size];omega) (.inl (by omega)),?_⟩
    refine Rel.updA h.2 h1 h4 h3 ho hF.sub (λi hi hio=>hc _ (by simp only[Ty.size];omega) (by omega)) ?_
    have:(λi=>cs' (a.size+(o'+i)))=λi=>cs' (a.size+o'+i):=funext λi=>by rw[xdk]
    rw[this]
    exact hy
  |i+2=>simp[zbo]at hl
 |i::π,.arr n t,m,m',p,x,x',cs,cs',o,h,hl,hm,hs,ho,hF,hc,hy=>by
  rw[zej]at hl;rw[zex]at ho;rw[zqw]at hs;rw[zxu]at hm;simp only[xac]at hl hs;obtain⟨⟨q,o'⟩,h1,h2⟩:=hl;cases q with
  |some q=>simp at h2
  |none=>
   simp only[xaw,xgl]at h2;subst h2;obtain⟨z,h3,rfl⟩:=hs;simp only[xbk]at hm;obtain⟨k',h4,h5⟩:=hm;split at h5;case isFalse=>cases h5
   rename_i hd;cases h5;have hi:i<x.length:=by rw[h.1];exact ho.1
   rw[zed hi]at h3;have he:=zod h1 h3 ho.2;rw[<-zcp]at hy;have ha:∀j,j<n->(j+1)*t.size<=n*t.size:=λj hj=>xau _ hj;refine⟨by rw[xcd];exact h.1,λj hj=>?_⟩;have hb:j<x.length:=by rwa[xcd]at hj
   by_cases hji:j=i
   ·subst hji;have e1:(x.set j z)[j]'(by rw[xcd];exact hb)=z:=xfo _;rw[e1];refine(Rel.updA (h.2 j hb) h1 h4 h3 ho.2 hF.sub (λi hi hio=>hc _ ?_ (by omega)) ?_).weaken hd;·have:=ha j ho.1;rw[xco]at this;simp only[Ty.size];omega
    ·have:(λi=>cs' (j*t.size+(o'+i)))=λi=>cs' (j*t.size+o'+i):=funext λi=>by rw[xdk]
     rw[this];exact hy
   ·have e1:(x.set i z)[j]'(by rw[xcd];exact hb)=x[j]:=xfh (Ne.symm hji) _;rw[e1];refine(h.2 j hb).mono (.inl rfl) (hF.side hji (by simp)) λl hl=>hc _ ?_ ?_;·have:=ha j (by rw[<-h.1];exact hb);rw[xco]at this;simp only[Ty.size];omega
    ·rcases xeo j i with hlt|hge
     ·have:(j+1)*t.size<=i*t.size:=xau _ hlt;rw[xco]at this;exact .inl (by omega)
     ·have:(i+1)*t.size<=j*t.size:=xau _ (by omega);rw[xco]at this;exact .inr (by omega)
 |i::π,.slice t,m,m',p,x,x',cs,cs',o,h,hl,hm,hs,ho,hF,hc,hy=>by rw[zec]at hl;simp only[xac]at hl;obtain⟨⟨q,o'⟩,h1,h2⟩:=hl;cases q<;>simp at h2
 |i::π,.ptr t,m,m',p,x,x',cs,cs',o,h,hl,hm,hs,ho,hF,hc,hy=>by
  match i with
  | 0=>
   simp only[zbo,xac]at hl
   obtain⟨⟨q,o'⟩,h1,h2⟩:=hl
   cases q<;>simp at h2
  |i+1=>simp[zbo]at hl
 |_::_,.int _,_,_,_,_,_,_,_,_,_,hl,_,_,_,_,_,_=>by simp[zbo]at hl
 |_::_,.bool,_,_,_,_,_,_,_,_,_,hl,_,_,_,_,_,_=>by simp[zbo]at hl
 |_::_,.str,_,_,_,_,_,_,_,_,_,hl,_,_,_,_,_,_=>by simp[zbo]at hl
 |_::_,.unit,_,_,_,_,_,_,_,_,_,hl,_,_,_,_,_,_=>by simp[zbo]at hl
 |_::_,.fn1 _ _,_,_,_,_,_,_,_,_,_,hl,_,_,_,_,_,_=>by simp[zbo]at hl
 |_::_,.fn2 _ _ _,_,_,_,_,_,_,_,_,_,hl,_,_,_,_,_,_=>by simp[zbo]at hl
 |_::_,.alt _ _ _,_,_,_,_,_,_,_,_,_,hl,_,_,_,_,_,_=>by simp[zbo]at hl
 |_::_,.nilI,_,_,_,_,_,_,_,_,_,hl,_,_,_,_,_,_=>by simp[zbo]at hl
end
section
variable {P:Program}
def zfv{i:Nat}{π:List Nat}:¬(i::π) <+: []:=λh=>by cases List.prefix_nil.1 h
def zlp{p:Place}{i:Nat}{r:List Nat}:p≠pa p (i::r):=λh=>by have:=zqi (p:=p) (q:=[]) (r:=i::r) (by rw[zdc];exact h);cases this
def Rel.updB{S S':St}{s:Ty}{y:s.den}{k:Md}{b o0:Nat}{cur cur':Array Value}{e:TypeId}(hb:S.w.heap[b]?=some (.cells cur e (0,0)))(hb':S'.w.heap[b]?=some (.cells cur' e (0,0)))(hsz:cur'.size=cur.size) :
  ∀{π:List Nat} {t:Ty} {m m':Md} {p:Place} {x x':t.den} {cs cs':Cs} {q:List Nat} {o:Nat},o=o0->(∀i,i<o\/o+s.size<=i->cur'[i]?=cur[i]?)->Rel P t S m p x cs->zbo π t=some (some q,o)->zfl π t m k=some m' ->
  zkf π t x ⟨s,y⟩=some x'->okP S π t p->hvB (S.hv (pa p q))=some b->S.own b=some (pa p q)->Fr S S' p π (some b)->(∀i,i<t.size->cs' i=cs i)->Rel P s S' k (pa p π) y (λi=>cur'[o+i]?)->Rel P t S' m' p x' cs'
 | [],t,m,m',p,x,x',cs,cs',q,o,_,_,h,hl,hm,hs,ho,hh,hw,hF,hc,hy=>by simp[zbo]at hl
 |i::π,.pair a c,m,m',p,x,x',cs,cs',q,o,ho0,hcur,h,hl,hm,hs,ho,hh,hw,hF,hc,hy=>by
  match i with
  | 0=>
   simp only[zbo,xac]at hl
   obtain⟨⟨q',o'⟩,h1,h2⟩:=hl
   simp only[xaw,xac]at h2
   obtain⟨⟨q'',rfl,rfl⟩,rfl⟩:=h2
   simp only[zkf,xac]at hs
   obtain⟨z,h3,rfl⟩:=hs
   simp only[zfl,xac]at hm
   obtain⟨k',h4,rfl⟩:=hm
   rw[<-zcp]at hy hh hw
   refine⟨Rel.updB hb hb' hsz ho0 hcur h.1 h1 h4 h3 ho hh hw hF.sub (λi hi=>hc i (by simp only[Ty.size];omega)) hy,?_⟩
   rw[zcp]at hw
   exact h.2.mono (.inl rfl) (hF.side (by omega) λb' r he hbo=>by cases he;rw[hw]at hbo;cases zqi (xbi hbo)) λi hi=>hc _ (by simp only[Ty.size];omega)
  | 1=>
   simp only[zbo,xac]at hl
   obtain⟨⟨q',o'⟩,h1,h2⟩:=hl
   cases q' with
   |none=>simp at h2
   |some q'=>
    simp only[xaw,xaq]at h2
    obtain⟨rfl,rfl⟩:=h2
    simp only[zkf,xac]at hs
    obtain⟨z,h3,rfl⟩:=hs
    simp only[zfl,xac]at hm
    obtain⟨k',h4,rfl⟩:=hm
    rw[<-zcp]at hy hh hw
    refine⟨?_,Rel.updB hb hb' hsz ho0 hcur h.2 h1 h4 h3 ho hh hw hF.sub (λi hi=>hc _ (by simp only[Ty.size];omega)) hy⟩
    rw[zcp]at hw
    exact h.1.mono (.inl rfl) (hF.side (by omega) λb' r he hbo=>by cases he;rw[hw]at hbo;cases zqi (xbi hbo)) λi hi=>hc _ (by simp only[Ty.size];omega)
  |i+2=>simp[zbo]at hl
 |i::π,.arr n t,m,m',p,x,x',cs,cs',q,o,ho0,hcur,h,hl,hm,hs,ho,hh,hw,hF,hc,hy=>by
  rw[zej]at hl;rw[zex]at ho;rw[zqw]at hs;rw[zxu]at hm;simp only[xac]at hl hs;obtain⟨⟨q',o'⟩,h1,h2⟩:=hl;cases q' with
  |none=>simp at h2
  |some q'=>
   simp only[xaw,xaq]at h2;obtain⟨rfl,rfl⟩:=h2;obtain⟨z,h3,rfl⟩:=hs;simp only[xbk]at hm;obtain⟨k',h4,h5⟩:=hm;split at h5;case isFalse=>cases h5
   rename_i hu;cases h5;have hi:i<x.length:=by rw[h.1];exact ho.1
   rw[zed hi]at h3;have hq:∀j,j<n->(j+1)*t.size<=n*t.size:=λj hj=>xau _ hj;refine⟨by rw[xcd];exact h.1,λj hj=>?_⟩;have ha:j<x.length:=by rwa[xcd]at hj
   have hg:∀l,l<t.size->cs' (j*t.size+l)=cs (j*t.size+l):=λl hl=>hc _ (by have:=hq j (by rw[<-h.1];exact ha);rw[xco]at this;simp only[Ty.size];omega);by_cases hji:j=i;·subst hji;have e1:(x.set j z)[j]'(by rw[xcd];exact ha)=z:=xfo _;rw[e1];rw[<-zcp]at hy hh hw;exact(Rel.updB hb hb' hsz ho0 hcur (h.2 j ha) h1 h4 h3 ho.2 hh hw hF.sub hg hy).weaken hu
   ·have e1:(x.set i z)[j]'(by rw[xcd];exact ha)=x[j]:=xfh (Ne.symm hji) _;rw[e1];exact(h.2 j ha).mono (.inl rfl) (hF.side hji λb' r he hbo=>by cases he;rw[hw]at hbo;have:=zqi (xbi hbo);cases this;exact hji rfl) hg
 |i::π,.slice t,m,m',p,x,x',cs,cs',q,o,ho0,hcur,h,hl,hm,hs,ho,hh,hw,hF,hc,hy=>by
  obtain⟨e0,j0,rfl⟩:=zmd hm;rw[zec]at hl;rw[zgd]at ho;rw[zvh]at hs;rw[zvi]at hm;simp only[xac]at hl hs;obtain⟨z,h3,rfl⟩:=hs;simp only[xbk]at hm;obtain⟨k',h4,h5⟩:=hm;split at h5;case isFalse=>cases h5
  rename_i hu;cases h5;obtain⟨ja,hx,h0,hk⟩:=h;obtain⟨⟨g,len,cap,ht,hi⟩,ho⟩:=ho;have hd:=hF.hv [] zfv;rw[zdc]at hd;rcases hk with⟨h6,_⟩|⟨g',cap',cur0,h6,h7,h8,h9,hp,h11,h12⟩
  ·rw[h6]at ht;cases ht
  rw[h6]at ht;cases ht;rw[zed hi]at h3;have hq:∀j,j<x.length->(j+1)*t.size<=cap*t.size:=λj hj=>xau _ (xay hj h9);have hf:=hF.own g [] zfv (by rw[zdc];exact h7);rw[zdc]at hf;obtain⟨⟨q',o'⟩,h1,h2⟩:=hl;refine⟨by rw[xcd];exact ja,hx,by rw[hc 0 Nat.one_pos,h0,hd],.inr ?_⟩;cases q' with
  |none=>
   simp only[xaw,xaq]at h2;obtain⟨rfl,rfl⟩:=h2;rw[zdc,h6]at hh;cases hh;rw[h8]at hb;cases hb;have hn:=hF.sub.none_of (λr hr=>by rw[h7,zcp]at hr;exact zlp (xbi hr));have he:=zod (S:=S) h1 h3 ho;refine⟨b,cap,cur',by rw[hd,h6,xcd],hf.1,hb',by rw[xcd];exact h9,hp,hsz.trans h11,λj hj=>?_⟩;have ha:j<x.length:=by rwa[xcd]at hj
   by_cases hji:j=i
   ·subst hji;have e1:(x.set j z)[j]'(by rw[xcd];exact ha)=z:=xfo _;rw[e1];refine(Rel.updA (h12 j ha) h1 h4 h3 ho hn (λl hl hlo=>hcur _ (by omega)) ?_).weaken hu;rw[zcp];have:(λi=>cur'[j*t.size+(o'+i)]?)=λi=>cur'[j*t.size+o'+i]?:=funext λi=>by rw[xdk]
    rw[this];exact hy
   ·have e1:(x.set i z)[j]'(by rw[xcd];exact ha)=x[j]:=xfh (Ne.symm hji) _;rw[e1];refine(h12 j ha).mono (.inl rfl) (hF.side hji λb' r he hbo=>by cases he;rw[hw]at hbo;cases zqi (xbi hbo)) λl hl=>hcur _ ?_;rcases xeo j i with hlt|hge
    ·have:(j+1)*t.size<=i*t.size:=xau _ hlt;rw[xco]at this;exact .inl (by omega)
    ·have:(i+1)*t.size<=j*t.size:=xau _ (by omega);rw[xco]at this;exact .inr (by omega)
  |some q'=>
   simp only[xaw,xaq]at h2;obtain⟨rfl,rfl⟩:=h2;have hz:some g≠some b:=λhe=>by cases he;rw[h7]at hw;exact zlp (xbi hw)
   refine⟨g,cap,cur0,by rw[hd,h6,xcd],hf.1,(hf.2 hz).trans h8,by rw[xcd];exact h9,hp,h11,λj hj=>?_⟩;have ha:j<x.length:=by rwa[xcd]at hj
   by_cases hji:j=i;·subst hji;have e1:(x.set j z)[j]'(by rw[xcd];exact ha)=z:=xfo _;rw[e1];rw[<-zcp]at hy hh hw;exact(Rel.updB hb hb' hsz ho0 hcur (h12 j ha) h1 h4 h3 ho hh hw hF.sub (λ_ _=>rfl) hy).weaken hu
   ·have e1:(x.set i z)[j]'(by rw[xcd];exact ha)=x[j]:=xfh (Ne.symm hji) _;rw[e1];exact(h12 j ha).mono (.inl rfl) (hF.side hji λb' r he hbo=>by cases he;rw[hw]at hbo;have:=zqi (xbi hbo);cases this;exact hji rfl) λ_ _=>rfl
 |i::π,.ptr t,m,m',p,x,x',cs,cs',q,o,ho0,hcur,h,hl,hm,hs,ho,hh,hw,hF,hc,hy=>by
  match i with
  |i+1=>simp[zbo]at hl
  | 0=>
   cases m<;>first | (simp[zfl]at hm;done) | skip
   rename_i e0 j0
   simp only[zfl,xac]at hm
   obtain⟨k',h4,rfl⟩:=hm
   simp only[zbo,xac]at hl
   obtain⟨⟨q',o'⟩,h1,h2⟩:=hl
   simp only[zkf]at hs
   obtain⟨h0,g,cur0,e1,h6,h7,h8,h9,hp⟩:=h
   have hd:=hF.hv [] zfv
   rw[zdc]at hd
   have hf:=hF.own g [] zfv (by rw[zdc];exact h7)
   rw[zdc]at hf
   refine⟨by rw[hc 0 Nat.one_pos,h0,hd],?_⟩
   cases q' with
   |none=>
    simp only[xaw,xaq]at h2
    obtain⟨rfl,rfl⟩:=h2
    rw[zdc,h6]at hh
    cases hh
    rw[h8]at hb
    cases hb
    have hn:=hF.sub.none_of (λr hr=>by rw[h7,zcp]at hr;exact zlp (xbi hr))
    exact⟨b,cur',e,hd.trans h6,hf.1,hb',hsz.trans h9,Rel.updA hp h1 h4 hs ho hn (λl hl hlo=>hcur _ hlo) (by rw[zcp];exact hy)⟩
   |some q'=>
    simp only[xaw,xaq]at h2
    obtain⟨rfl,rfl⟩:=h2
    have hz:some g≠some b:=λhe=>by cases he;rw[h7]at hw;exact zlp (xbi hw)
    rw[<-zcp]at hy hh hw
    exact⟨g,cur0,e1,hd.trans h6,hf.1,(hf.2 hz).trans h8,h9,Rel.updB hb hb' hsz ho0 hcur hp h1 h4 hs ho hh hw hF.sub (λ_ _=>rfl) hy⟩
 |_::_,.int _,_,_,_,_,_,_,_,_,_,_,_,_,hl,_,_,_,_,_,_,_,_=>by simp[zbo]at hl
 |_::_,.bool,_,_,_,_,_,_,_,_,_,_,_,_,hl,_,_,_,_,_,_,_,_=>by simp[zbo]at hl
 |_::_,.str,_,_,_,_,_,_,_,_,_,_,_,_,hl,_,_,_,_,_,_,_,_=>by simp[zbo]at hl
 |_::_,.unit,_,_,_,_,_,_,_,_,_,_,_,_,hl,_,_,_,_,_,_,_,_=>by simp[zbo]at hl
 |_::_,.fn1 _ _,_,_,_,_,_,_,_,_,_,_,_,_,hl,_,_,_,_,_,_,_,_=>by simp[zbo]at hl
 |_::_,.fn2 _ _ _,_,_,_,_,_,_,_,_,_,_,_,_,hl,_,_,_,_,_,_,_,_=>by simp[zbo]at hl
 |_::_,.alt _ _ _,_,_,_,_,_,_,_,_,_,_,_,_,hl,_,_,_,_,_,_,_,_=>by simp[zbo]at hl
 |_::_,.nilI,_,_,_,_,_,_,_,_,_,_,_,_,hl,_,_,_,_,_,_,_,_=>by simp[zbo]at hl
end
def ziv:List Nat->Ty->Bool
 | [],_=>false
 |i::π,.pair a b=>match i with
  | 0=>ziv π a
  | 1=>ziv π b
  |_=>false
 |_::π,.arr _ t=>ziv π t
 |_::_,.slice _=>true
 |_::_,.ptr _=>true
 |_,_=>false
def zjr:List Nat->Ty->Bool
 |_::π,.slice t=>ziv π t
 |i::π,.ptr t=>match i with
  | 0=>ziv π t
  |_=>true
 |_,_=>true
def zww(i:Nat)(π:List Nat)(n:Nat)(t:Ty):ziv (i::π) (.arr n t)=ziv π t:=by cases i<;>(try rename_i j;cases j)<;>rfl
def zqn(i:Nat)(π:List Nat)(t:Ty):ziv (i::π) (.slice t)=true:=by cases i<;>(try rename_i j;cases j)<;>rfl
def zwv(i:Nat)(π:List Nat)(t:Ty):ziv (i::π) (.ptr t)=true:=by cases i<;>(try rename_i j;cases j)<;>rfl
def zhd{S S':St}:∀{π:List Nat} {t:Ty} {p:Place},ziv π t=false->okP S π t p->okP S' π t p
 | [],_,_,_,_=>trivial
 |i::π,.pair a b,p,h,ho=>by
  match i with
  | 0=>exact zhd (π:=π) (t:=a) h ho
  | 1=>exact zhd (π:=π) (t:=b) h ho
  |i+2=>exact ho.elim
 |i::π,.arr n t,p,h,ho=>by rw[zww]at h;rw[zex]at ho ⊢;exact⟨ho.1,zhd h ho.2⟩
 |i::π,.slice t,p,h,ho=>by rw[zqn]at h;cases h
 |i::π,.ptr t,p,h,ho=>by rw[zwv]at h;cases h
 |_::_,.int _,_,_,ho=>by simp[okP]at ho
 |_::_,.bool,_,_,ho=>by simp[okP]at ho
 |_::_,.str,_,_,ho=>by simp[okP]at ho
 |_::_,.unit,_,_,ho=>by simp[okP]at ho
 |_::_,.fn1 _ _,_,_,ho=>by simp[okP]at ho
 |_::_,.fn2 _ _ _,_,_,ho=>by simp[okP]at ho
 |_::_,.alt _ _ _,_,_,ho=>by simp[okP]at ho
 |_::_,.nilI,_,_,ho=>by simp[okP]at ho
def zhe{S S':St}:∀{π:List Nat} {t:Ty} {p:Place},(∀q,S'.hv (pa p q)=S.hv (pa p q))->okP S π t p->okP S' π t p
 | [],_,_,_,_=>trivial
 |i::π,.pair a b,p,h,ho=>by
  match i with
  | 0=>exact zhe (π:=π) (t:=a) (p:=px p 0) (λq=>by rw[zcp];exact h _) ho
  | 1=>exact zhe (π:=π) (t:=b) (p:=px p 1) (λq=>by rw[zcp];exact h _) ho
  |i+2=>exact ho.elim
 |i::π,.arr n t,p,h,ho=>by rw[zex]at ho ⊢;exact⟨ho.1,zhe (λq=>by rw[zcp];exact h _) ho.2⟩
 |i::π,.slice t,p,h,ho=>by rw[zgd]at ho ⊢;have h0:=h [];rw[zdc]at h0;exact⟨by rw[h0];exact ho.1,zhe (λq=>by rw[zcp];exact h _) ho.2⟩
 |i::π,.ptr t,p,h,ho=>by
  match i with
  | 0=>exact zhe (π:=π) (t:=t) (p:=px p 0) (λq=>by rw[zcp];exact h _) ho
  |i+1=>simp[okP]at ho
 |_::_,.int _,_,_,ho=>by simp[okP]at ho
 |_::_,.bool,_,_,ho=>by simp[okP]at ho
 |_::_,.str,_,_,ho=>by simp[okP]at ho
 |_::_,.unit,_,_,ho=>by simp[okP]at ho
 |_::_,.fn1 _ _,_,_,ho=>by simp[okP]at ho
 |_::_,.fn2 _ _ _,_,_,ho=>by simp[okP]at ho
 |_::_,.alt _ _ _,_,_,ho=>by simp[okP]at ho
 |_::_,.nilI,_,_,ho=>by simp[okP]at ho
def zgg:∀{π:List Nat} {t:Ty} {q:List Nat} {o:Nat},ziv π t=false->zbo π t≠some (some q,o)
 | [],_,_,_,_,hl=>by simp[zbo]at hl
 |i::π,.pair a b,q,o,h,hl=>by
  match i with
  | 0=>
   simp only[zbo,xac]at hl
   obtain⟨⟨q',o'⟩,h1,h2⟩:=hl
   cases q' with
   |none=>simp at h2
   |some q'=>exact zgg (π:=π) (t:=a) h h1
  | 1=>
   simp only[zbo,xac]at hl
   obtain⟨⟨q',o'⟩,h1,h2⟩:=hl
   cases q' with
   |none=>simp at h2
   |some q'=>exact zgg (π:=π) (t:=b) h h1
  |i+2=>simp[zbo]at hl
 |i::π,.arr n t,q,o,h,hl=>by
  rw[zww]at h;rw[zej]at hl;simp only[xac]at hl;obtain⟨⟨q',o'⟩,h1,h2⟩:=hl;cases q' with
  |none=>simp at h2
  |some q'=>exact zgg h h1
 |i::π,.slice t,_,_,h,_=>by rw[zqn]at h;cases h
 |i::π,.ptr t,_,_,h,_=>by rw[zwv]at h;cases h
 |_::_,.int _,_,_,_,hl=>by simp[zbo]at hl
 |_::_,.bool,_,_,_,hl=>by simp[zbo]at hl
 |_::_,.str,_,_,_,hl=>by simp[zbo]at hl
 |_::_,.unit,_,_,_,hl=>by simp[zbo]at hl
 |_::_,.fn1 _ _,_,_,_,hl=>by simp[zbo]at hl
 |_::_,.fn2 _ _ _,_,_,_,hl=>by simp[zbo]at hl
 |_::_,.alt _ _ _,_,_,_,hl=>by simp[zbo]at hl
 |_::_,.nilI,_,_,_,hl=>by simp[zbo]at hl
def locP_shallow{π:List Nat}{t:Ty}{q:List Nat}{o:Nat}(h:zjr π t=false)(hl:zbo π t=some (some q,o)):q=[]:=by
 cases π with
 |nil=>simp[zjr]at h
 |cons i π=>
  cases t with
  |slice t=>
   have h':ziv π t=false:=by cases i<;>(try rename_i j;cases j)<;>exact h
   rw[zec]at hl;simp only[xac]at hl;obtain⟨⟨q',o'⟩,h1,h2⟩:=hl;cases q' with
   |none=>simp at h2;exact h2.1
   |some q'=>exact absurd h1 (zgg h')
  |ptr t=>
   match i with
   | 0=>
    simp only[zbo,xac]at hl;obtain⟨⟨q',o'⟩,h1,h2⟩:=hl;cases q' with
    |none=>simp at h2;exact h2.1
    |some q'=>exact absurd h1 (zgg (t:=t) (by simpa[zjr]using h))
   |i+1=>simp[zbo]at hl
  |_=>simp[zjr]at h
def okP_shallow{S S':St}{π:List Nat}{t:Ty}{p:Place}(h:zjr π t=false)(hv:S'.hv p=S.hv p)(ho:okP S π t p):okP S' π t p:=by
 cases π with
 |nil=>simp[zjr]at h
 |cons i π=>
  cases t with
  |slice t=>
   have h':ziv π t=false:=by cases i<;>(try rename_i j;cases j)<;>exact h
   rw[zgd]at ho ⊢;exact⟨by rw[hv];exact ho.1,zhd h' ho.2⟩
  |ptr t=>
   match i with
   | 0=>exact zhd (π:=π) (t:=t) (by simpa[zjr]using h) ho
   |i+1=>simp[okP]at ho
  |_=>simp[zjr]at h
structure TM where
 t:Ty
 m:Md
 x:t.den
inductive Cap where
 |ref (r:Nat) (π:List Nat) (s:Nat)
 |rb (r:Nat) (π:List Nat) (s:Nat)
 |val (e:TM)
inductive Ent where
 |v (t:Ty) (m:Md) (x:t.den)
 |ref (r:Nat) (π:List Nat) (s:Nat)
 |view (r:Nat) (π:List Nat) (s:Nat)
 |tail (r:Nat) (s:Nat) (lo:Nat)
 |rbox (r:Nat) (π:List Nat) (s:Nat)
 |tup (es:List TM)
 |clo (f:Nat) (caps:List Cap)
 |mth (nm:String) (e:TM)
 |skip
 |dead
 deriving Inhabited
structure Slot where
 e:Ent
 g:Nat
 h:Nat
abbrev Env:=Nat->Slot
def SR(P:Program)(t:Ty)(S:St)(m:Md)(p:Place)(x:t.den)(v:Value):Prop:=Rel P t S m p x (zab t v)/\zgt t v
def gen(c:Slot)(t:Ty)(π:List Nat)(s:Nat):Prop:=if zjr π t then c.h=s else c.g=s
def RefOK(S:St)(σ:Env)(r:Nat)(π:List Nat)(s:Nat)(v:Value):Prop:=
 s<=(σ r).h/\∀t m x,(σ r).e=.v t m x->gen (σ r) t π s->∃q o b,zbo π t=some (some q,o)/\okP S π t (r,[])/\hvB (S.hv (r,q))=some b/\v=.pointer (some ⟨b,o,none⟩)
def RboxOK(S:St)(σ:Env)(r:Nat)(π:List Nat)(s:Nat)(v:Value):Prop:=
 ∃b u,v=.pointer (some ⟨b,0,none⟩)/\S.F b/\S.w.cell? ⟨b,0,none⟩=some u/\RefOK S σ r π s u
def Ty.isAlt:Ty->Bool
 | .alt ..=>true
 |_=>false
def ViewOK(S:St)(σ:Env)(tm:Nat->Value)(r:Nat)(π:List Nat)(s:Nat)(v:Value):Prop:=
 s<=(σ r).h/\∀t m x,(σ r).e=.v t m x->(σ r).h=s->okP S π t (r,[])/\(t.isAlt=true->v=tm r)/\(t.isAlt=false->v=S.hv (r,π))
def TailV(hv:Value)(lo sz:Nat)(v:Value):Prop:=
 (∃A A' c c',v=.slice A 0 c/\hv=.slice A' lo c')\/∃g n c c',hv=.slice (some ⟨g,0,none⟩) n c/\lo<n/\v=.slice (some ⟨g,lo*sz,none⟩) (n-lo) c'
def TailOK(S:St)(σ:Env)(r:Nat)(s lo:Nat)(v:Value):Prop:=
 s<=(σ r).h/\∀t m x,(σ r).e=.v t m x->(σ r).h=s->∃u,t=.slice u/\TailV (S.hv (r,[])) lo u.size v
def CapOK(P:Program)(S:St)(σ:Env)(v:Value):Cap->Prop
 | .ref r π s=>RefOK S σ r π s v
 | .rb r π s=>RboxOK S σ r π s v
 | .val e=>SR P e.t S .bw (0,[]) e.x v
def SlotOK(P:Program)(S:St)(σ:Env)(tm:Nat->Value)(t:Nat):Prop:=
 match(σ t).e with
 | .v ty m x=>SR P ty S m (t,[]) x (tm t)
 | .ref r π s=>RefOK S σ r π s (tm t)
 | .view r π s=>ViewOK S σ tm r π s (tm t)
 | .tail r s lo=>TailOK S σ r s lo (tm t)
 | .rbox r π s=>RboxOK S σ r π s (tm t)
 | .tup es=>∃vs,tm t=.tuple vs/\vs.size=es.length/\∀(k:Nat) (e:TM),es[k]?=some e->∃u,vs[k]?=some u/\SR P e.t S e.m (t,[k]) e.x u
 | .clo f caps=>∃ps:List Value,tm t=.func (.func f) #[] ps.toArray/\ps.length=caps.length/\∀(k:Nat) (c:Cap),caps[k]?=some c->∃u,ps[k]?=some u/\CapOK P S σ u c
 | .mth nm e=>∃u,tm t=.func (.method nm) #[u] #[]/\SR P e.t S .bw (0,[]) e.x u
 | .skip=>tm t=.tuple #[]
 | .dead=>True
structure Ctx where
 w0:World
 F0:Nat->Prop
 B:Nat->Prop
 O:Nat->Prop
 N:Nat
 K:Nat->Option Value
structure InvOf(P:Program)(c:Ctx)(σ:Env)(a:Act)(S:St):Prop where
 defers:a.defers=[]
 size:a.tmps.size=c.N
 slots:∀t,SlotOK P S σ (tmv a) t
 gens:∀t,(σ t).g<=(σ t).h
 lent:S.B=c.B
 shared:∀b,S.F b->S.own b=none/\b<S.w.heap.size/\(c.F0 b\/c.w0.heap.size<=b\/c.O b)
 shared0:∀b,c.F0 b->S.F b
 borrowed:∀b,c.B b->S.own b=none/\b<c.w0.heap.size/\¬c.O b
 owned:∀b p,S.own b=some p->b<S.w.heap.size/\(c.w0.heap.size<=b\/c.O b)
 os:S.w.os=c.w0.os
 tape:S.w.tape=c.w0.tape
 output:S.w.output=c.w0.output
 grown:c.w0.heap.size<=S.w.heap.size
 kept:∀b,b<c.w0.heap.size->¬c.O b->S.w.heap[b]?=c.w0.heap[b]?
def Inv(P:Program)(c:Ctx)(σ:Env)(a:Act)(w:World):Prop:=∃S,S.w=w/\InvOf P c σ a S
def Chg(S S':St)(σ σ':Env)(r:Nat):Prop:=
 (σ' r).g<=(σ' r).h/\((σ r).h<(σ' r).g \/
 ((σ' r).g=(σ r).g/\(∀t m x,(σ' r).e=.v t m x->∃m' x',(σ r).e=.v t m' x') /\
  ((σ r).h<(σ' r).h/\S'.hv (r,[])=S.hv (r,[])\/(σ' r).h=(σ r).h/\∀q,S'.hv (r,q)=S.hv (r,q))))
def Chg.refl{S S':St}{σ σ':Env}{r:Nat}(hg:(σ r).g<=(σ r).h)(h:σ' r=σ r)(hv:∀q,S'.hv (r,q)=S.hv (r,q)):Chg S S' σ σ' r:=by unfold Chg;grind
def Chg.le{S S':St}{σ σ':Env}{r:Nat}(h:Chg S S' σ σ' r):(σ r).h<=(σ' r).h:=by rcases h with⟨h0,h|⟨_,_,h|h⟩⟩<;>omega
def RefOK.keep{S S':St}{σ σ':Env}{r:Nat}{π:List Nat}{s:Nat}{v:Value}(h:RefOK S σ r π s v)(hc:Chg S S' σ σ' r):RefOK S' σ' r π s v:=by
 refine⟨xay h.1 hc.le,λt m x hx hg=>?_⟩;have hs:=h.1;rcases hc with⟨h0,h1|⟨h1,h2,h3⟩⟩
 ·unfold gen at hg;split at hg<;>omega
 ·obtain⟨m',x',hb⟩:=h2 t m x hx;by_cases hd:zjr π t=true
  ·unfold gen at hg;rw[if_pos hd]at hg;rcases h3 with⟨h3,_⟩|⟨h3,h4⟩
   ·omega
   ·obtain⟨q,o,b,h5,h6,h7,h8⟩:=h.2 t m' x' hb (by unfold gen;rw[if_pos hd,<-h3];exact hg);exact⟨q,o,b,h5,zhe (λq=>by simpa[pa]using h4 q) h6,by rw[h4];exact h7,h8⟩
  ·unfold gen at hg;rw[if_neg hd]at hg;obtain⟨q,o,b,h5,h6,h7,h8⟩:=h.2 t m' x' hb (by unfold gen;rw[if_neg hd,<-h1];exact hg);have ha:zjr π t=false:=by simpa using hd
   have hq:=locP_shallow ha h5;subst hq;have hv:S'.hv (r,[])=S.hv (r,[]):=h3.elim (·.2) λh=>h.2 [];exact⟨[],o,b,h5,okP_shallow ha hv h6,by rw[hv];exact h7,h8⟩
def RboxOK.keep{S S':St}{σ σ':Env}{r:Nat}{π:List Nat}{s:Nat}{v:Value}(h:RboxOK S σ r π s v)(hc:Chg S S' σ σ' r)(hF:∀b,S.F b->S'.F b/\S'.w.heap[b]?=S.w.heap[b]?):RboxOK S' σ' r π s v:=by obtain⟨b,u,h1,h2,h3,h4⟩:=h;exact⟨b,u,h1,(hF b h2).1,zlf (hF b h2).2 h3,h4.keep hc⟩
def ViewOK.keep{S S':St}{σ σ':Env}{tm tm':Nat->Value}{r:Nat}{π:List Nat}{s:Nat}{v:Value}(h:ViewOK S σ tm r π s v)(hc:Chg S S' σ σ' r)(htm:(σ r).h<(σ' r).h\/tm' r=tm r):ViewOK S' σ' tm' r π s v:=by
 refine⟨xay h.1 hc.le,λt m x hx hg=>?_⟩;have hs:=h.1;rcases hc with⟨h0,h1|⟨h1,h2,h3⟩⟩
 ·omega
 ·obtain⟨m',x',hb⟩:=h2 t m x hx;rcases h3 with⟨h3,_⟩|⟨h3,h4⟩
  ·omega
  ·obtain⟨h5,h6,h7⟩:=h.2 t m' x' hb (by rw[<-h3];exact hg);exact⟨zhe (λq=>by simpa[pa]using h4 q) h5,λha=>by rw[htm.resolve_left (by omega)];exact h6 ha,λha=>by rw[h4];exact h7 ha⟩
def TailOK.keep{S S':St}{σ σ':Env}{r s lo:Nat}{v:Value}(h:TailOK S σ r s lo v)(hc:Chg S S' σ σ' r):TailOK S' σ' r s lo v:=by
 refine⟨xay h.1 hc.le,λt m x hx hg=>?_⟩;have hs:=h.1;rcases hc with⟨h0,h1|⟨h1,h2,h3⟩⟩
 ·omega
 ·obtain⟨m',x',ha⟩:=h2 t m x hx;rcases h3 with⟨h3,_⟩|⟨h3,h4⟩
  ·omega
  ·obtain⟨u,h5,h6⟩:=h.2 t m' x' ha (by rw[<-h3];exact hg);grind
section
variable {P:Program}
def SR.mono{q:Bool}{t:Ty}{S S':St}{m:Md}{p p':Place}{x:t.den}{v:Value}(h:SR P t S m p x v)(hm:q=true\/m.nobw=true)(hT:Tr q S S' p p'):SR P t S' m p' x v:=⟨h.1.mono hm hT λ_ _=>rfl,h.2⟩
def SlotOK.keep{S S':St}{σ σ':Env}{tm tm':Nat->Value}{t:Nat}(h:SlotOK P S σ tm t)(hx:(σ' t).e=(σ t).e)(ht:tm' t=tm t)(hc:∀r,Chg S S' σ σ' r)
  (hT:Tr true S S' (t,[]) (t,[])) (htm:∀r,(σ r).h<(σ' r).h\/tm' r=tm r):SlotOK P S' σ' tm' t:=by
 unfold SlotOK at *;rw[hx,ht];generalize(σ t).e=e at *;cases e with
 |v ty m x=>exact h.mono (.inl rfl) hT
 |ref r π s=>exact RefOK.keep h (hc r)
 |view r π s=>exact ViewOK.keep h (hc r) (htm r)
 |tail r s lo=>exact TailOK.keep h (hc r)
 |rbox r π s=>exact RboxOK.keep h (hc r) λb hb=>⟨hT.F b hb,hT.sF b hb⟩
 |tup es=>
  obtain⟨vs,h1,h2,h3⟩:=h;refine⟨vs,h1,h2,λk e hk=>?_⟩;obtain⟨u,h4,h5⟩:=h3 k e hk;exact⟨u,h4,h5.mono (.inl rfl) (hT.px k)⟩
 |clo f caps=>
  obtain⟨ps,h1,h2,h3⟩:=h;refine⟨ps,h1,h2,λk c hk=>?_⟩;obtain⟨u,h4,h5⟩:=h3 k c hk;refine⟨u,h4,?_⟩;cases c with
  |ref r π s=>exact RefOK.keep h5 (hc r)
  |rb r π s=>exact RboxOK.keep h5 (hc r) λb hb=>⟨hT.F b hb,hT.sF b hb⟩
  |val e=>
   exact⟨h5.1.fut (.inr rfl) ⟨hT.F,λb _ hb=>hT.B rfl b hb,λb hb=>(hT.G (.inl rfl) hb).2⟩ λ_ _=>rfl,h5.2⟩
 |mth nm e=>
  obtain⟨u,h1,h5⟩:=h;exact⟨u,h1,h5.1.fut (.inr rfl) ⟨hT.F,λb _ hb=>hT.B rfl b hb,λb hb=>(hT.G (.inl rfl) hb).2⟩ λ_ _=>rfl,h5.2⟩
 |skip=>exact h
 |dead=>trivial
end
def bump(k:Nat)(c:Slot)(e:Ent):Slot:=
 match k with
 | 0=>⟨e,c.h+1,c.h+1⟩
 | 1=>⟨e,c.g,c.h+1⟩
 |_=>⟨e,c.g,c.h⟩
def zdv(σ:Env)(t:Nat)(e:Ent)(k:Nat):Env:=λu=>if u=t then bump k (σ t) e else σ u
def zah(σ:Env)(t:Nat)(e:Ent)(k:Nat):zdv σ t e k t=bump k (σ t) e:=by simp[zdv]
def zao(σ:Env){t u:Nat}(e:Ent)(k:Nat)(h:u≠t):zdv σ t e k u=σ u:=by simp[zdv,h]
def zom(k:Nat)(c:Slot)(e:Ent):(bump k c e).e=e:=by unfold bump;split<;>rfl
def zbs(σ:Env)(t:Nat)(e:Ent)(k:Nat):(zdv σ t e k t).e=e:=by rw[zah,zom]
section
variable {P:Program} {c:Ctx} {σ σ':Env} {a a':Act} {S S':St}
def set1_lt(σ:Env)(d:Nat)(e:Ent):(σ d).h<(zdv σ d e 0 d).h:=by rw[zah];exact xbw _
def zmm(σ:Env)(t u:Nat)(e:Ent)(k:Nat):(σ u).h<=(zdv σ t e k u).h:=by
 by_cases hu:u=t
 ·subst hu;rw[zah];unfold bump;split;·exact Nat.le_succ _
  ·exact Nat.le_succ _
  ·exact xag _
 ·rw[zao _ _ _ hu];exact xag _
def zhc{e:Ent}{d:Nat}{v:Value}(hle:∀r,(σ r).h<=(σ' r).h)(r:Nat):(σ r).h<(zdv σ' d e 0 r).h\/tmv (a.put (some d) v) r=tmv a r:=by
 by_cases hrd:r=d;·subst hrd;exact .inl (xdu (hle r) (set1_lt σ' r e))
 ·exact .inr (zbn hrd)
def InvOf.rebuild(h:InvOf P c σ a S)(D:Nat->Prop)(htm:∀r,D r->(σ r).h<(σ' r).h\/tmv a' r=tmv a r)(hd:a'.defers=[])(hsz:a'.tmps.size=c.N)
  (hkeep:∀t,¬D t->σ' t=σ t/\tmv a' t=tmv a t) (hchg:∀r,D r->Chg S S' σ σ' r) (hslots:∀t,D t->SlotOK P S' σ' (tmv a') t)
  (hF:∀b,S.F b->S'.F b) (hsF:∀b,S.F b->S'.w.heap[b]?=S.w.heap[b]?) (hB:S'.B=S.B) (hsB:∀b,S.B b->S'.w.heap[b]?=S.w.heap[b]?)
  (hhv:∀t,¬D t->∀q,S'.hv (t,q)=S.hv (t,q)) (hown:∀t,¬D t->∀b q,S.own b=some (t,q)->S'.own b=some (t,q)/\S'.w.heap[b]?=S.w.heap[b]?)
  (hsh:∀b,S'.F b->S'.own b=none/\b<S'.w.heap.size/\(c.F0 b\/c.w0.heap.size<=b\/c.O b)) (hbo:∀b,c.B b->S'.own b=none)
  (how:∀b p,S'.own b=some p->b<S'.w.heap.size/\(c.w0.heap.size<=b\/c.O b))
  (hos:S'.w.os=S.w.os) (htp:S'.w.tape=S.w.tape) (hout:S'.w.output=S.w.output) (hgr:S.w.heap.size<=S'.w.heap.size)
  (hk:∀b,b<c.w0.heap.size->¬c.O b->S'.w.heap[b]?=S.w.heap[b]?):InvOf P c σ' a' S':=by
 have ha:∀r,Chg S S' σ σ' r:=λr=>by
  by_cases hr:D r;·exact hchg r hr
  ·exact .refl (h.gens r) (hkeep r hr).1 (hhv r hr)
 refine⟨hd,hsz,λt=>?_,λt=>(ha t).1,by rw[hB];exact h.lent,hsh,λb hb=>hF b (h.shared0 b hb),λb hb=>⟨hbo b hb,(h.borrowed b hb).2⟩,how,hos.trans h.os,htp.trans h.tape,hout.trans h.output,
  xay h.grown hgr,λb hb hO=>(hk b hb hO).trans (h.kept b hb hO)⟩
 by_cases ht:D t;·exact hslots t ht
 ·refine(h.slots t).keep (by rw[(hkeep t ht).1]) (hkeep t ht).2 ha ⟨hF,hsF,λ_ b hb=>.inr (by rw[hB];exact hb),λ_=>hsB,λr=>?_,λb r hb=>?_⟩ ?_;·simpa[pa]using hhv t ht r
  ·simpa[pa]using hown t ht b r (by simpa[pa]using hb)
  ·intro r;by_cases hr:D r;·exact htm r hr
   ·exact .inr (hkeep r hr).2
def InvOf.wlt(h:InvOf P c σ a S){b:Nat}(hb:S.F b\/S.B b\/∃p,S.own b=some p):b<S.w.heap.size:=by
 rcases hb with hb|hb|⟨p,hb⟩
 ·exact(h.shared b hb).2.1
 ·rw[h.lent]at hb;exact xav (h.borrowed b hb).2.1 h.grown
 ·exact(h.owned b p hb).1
def InvOf.WF(h:InvOf P c σ a S):S.WF:=⟨λb hb=>⟨(h.shared b hb).1,(h.shared b hb).2.1⟩,λb hb=>⟨by rw[h.lent]at hb;exact(h.borrowed b hb).1,h.wlt (.inr (.inl hb))⟩,λb p hb=>(h.owned b p hb).1⟩
def InvOf.put(h:InvOf P c σ a S)(hw:Ext S.w S'.w)(hF:S'.F=S.F)(hB:S'.B=S.B){d:Nat}(hd:d<c.N){e:Ent}{v:Value}
  (hhv:∀t,t≠d->∀q,S'.hv (t,q)=S.hv (t,q)) (ho:∀b,S'.own b=S.own b\/(S.own b=none/\S.w.heap.size<=b/\b<S'.w.heap.size))
  (hx:SlotOK P S' (zdv σ d e 0) (tmv (a.put (some d) v)) d):InvOf P c (zdv σ d e 0) (a.put (some d) v) S':=by
 have ha:∀b,b<S.w.heap.size->S'.own b=S.own b:=λb hb=>(ho b).elim id λh=>absurd h.2.1 (by omega);refine h.rebuild (λt=>t=d) (λr _=>zhc (λ_=>xag _) r) (by simpa[Act.put]using h.defers) (by simpa[Act.put]using h.size) (λt ht=>⟨zao σ e 0 ht,zbn ht⟩)
  (λr hr=>?_) (λt ht=>by subst ht;exact hx) (λb hb=>by rw[hF];exact hb) (λb hb=>hw.block b (h.wlt (.inl hb))) hB (λb hb=>hw.block b (h.wlt (.inr (.inl hb)))) hhv
  (λt _ b q hb=>⟨(ha b (h.owned b _ hb).1).trans hb,hw.block b (h.owned b _ hb).1⟩) (λb hb=>?_) (λb hb=>?_) (λb p hb=>?_) hw.os hw.tape hw.output hw.size
  (λb hb _=>hw.block b (xav hb h.grown))
 ·subst hr;refine⟨by rw[zah];exact xag _,.inl (by rw[zah];exact xbw _)⟩
 ·rw[hF]at hb;exact⟨(ha b (h.shared b hb).2.1).trans (h.shared b hb).1,xav (h.shared b hb).2.1 hw.size,(h.shared b hb).2.2⟩
 ·exact(ha b (xav (h.borrowed b hb).2.1 h.grown)).trans (h.borrowed b hb).1
 ·rcases ho b with he|⟨_,h1,h2⟩
  ·rw[he]at hb;exact⟨xav (h.owned b p hb).1 hw.size,(h.owned b p hb).2⟩
  ·exact⟨h2,.inl (xay h.grown h1)⟩
def InvOf.slot(h:InvOf P c σ a S){r:Nat}{t:Ty}{m:Md}{x:t.den}(hr:(σ r).e=.v t m x):SR P t S m (r,[]) x (tmv a r):=by have:=h.slots r;unfold SlotOK at this;rw[hr]at this;exact this
def SlotOK.v{S:St}{σ:Env}{tm:Nat->Value}{r:Nat}{t:Ty}{m:Md}{x:t.den}(hr:(σ r).e=.v t m x)(h:SR P t S m (r,[]) x (tm r)):SlotOK P S σ tm r:=by unfold SlotOK;rw[hr];exact h
def InvOf.putv(h:InvOf P c σ a S){d:Nat}(hd:d<c.N){t:Ty}{m:Md}{x:t.den}{v:Value}(hv:SR P t S m (d,[]) x v):InvOf P c (zdv σ d (.v t m x) 0) (a.put (some d) v) S:=
 h.put (.refl _) rfl rfl hd (λ_ _ _=>rfl) (λ_=>.inl rfl) (.v (zbs σ d _ 0) (by rw[zak (by rw[h.size];exact hd)];exact hv))
def InvOf.putref(h:InvOf P c σ a S){d r:Nat}{π:List Nat}{s:Nat}(hd:d<c.N){v:Value}(hv:RefOK S σ r π s v):InvOf P c (zdv σ d (.ref r π s) 0) (a.put (some d) v) S:=by
 refine h.put (.refl _) rfl rfl hd (λ_ _ _=>rfl) (λ_=>.inl rfl) ?_;unfold SlotOK;rw[zbs];show RefOK S _ r π s _;rw[zak (by rw[h.size];exact hd)];refine hv.keep ?_;by_cases hrd:r=d;·subst hrd;exact⟨by rw[zah];exact xag _,.inl (by rw[zah];exact xbw _)⟩
 ·exact .refl (h.gens r) (zao σ _ _ hrd) λ_=>rfl
def InvOf.putview(h:InvOf P c σ a S){d r:Nat}{π:List Nat}{s:Nat}(hd:d<c.N){v:Value}(hv:ViewOK S σ (tmv a) r π s v):InvOf P c (zdv σ d (.view r π s) 0) (a.put (some d) v) S:=by
 refine h.put (.refl _) rfl rfl hd (λ_ _ _=>rfl) (λ_=>.inl rfl) ?_;unfold SlotOK;rw[zbs];show ViewOK S _ _ r π s _;rw[zak (by rw[h.size];exact hd)];refine hv.keep ?_ (zhc (λ_=>xag _) r);by_cases hrd:r=d;·subst hrd;exact⟨by rw[zah];exact xag _,.inl (by rw[zah];exact xbw _)⟩
 ·exact .refl (h.gens r) (zao σ _ _ hrd) λ_=>rfl
def InvOf.puttail(h:InvOf P c σ a S){d r:Nat}{s lo:Nat}(hd:d<c.N){v:Value}(hv:TailOK S σ r s lo v):InvOf P c (zdv σ d (.tail r s lo) 0) (a.put (some d) v) S:=by
 refine h.put (.refl _) rfl rfl hd (λ_ _ _=>rfl) (λ_=>.inl rfl) ?_;unfold SlotOK;rw[zbs];show TailOK S _ r s lo _;rw[zak (by rw[h.size];exact hd)];refine hv.keep ?_;by_cases hrd:r=d;·subst hrd;exact⟨by rw[zah];exact xag _,.inl (by rw[zah];exact xbw _)⟩
 ·exact .refl (h.gens r) (zao σ _ _ hrd) λ_=>rfl
def Chg.bump{k:Nat}{r:Nat}{t:Ty}{m m':Md}{x x':t.den}(hg:(σ r).g<=(σ r).h)(hr:(σ r).e=.v t m x)(h':σ' r=Go.X.bump k (σ r) (.v t m' x'))
  (h1:k=1->S'.hv (r,[])=S.hv (r,[])) (h2:k≠0->k≠1->∀q,S'.hv (r,q)=S.hv (r,q)):Chg S S' σ σ' r:=by
 unfold Chg;rw[h'];have ht:∀(c:Slot),c.e=.v t m' x'->∀t' m2 x2,c.e=.v t' m2 x2->∃m' x',(σ r).e=.v t' m' x':=λc hc t' m2 x2 h=>by grind
 match k,h1,h2 with
 | 0,_,_=>exact⟨xag _,.inl (xbw _)⟩
 | 1,h1,_=>exact⟨Nat.le_succ_of_le hg,.inr ⟨rfl,ht _ rfl,.inl ⟨xbw _,h1 rfl⟩⟩⟩
 |k+2,_,h2=>exact⟨hg,.inr ⟨rfl,ht _ rfl,.inr ⟨rfl,h2 (by omega) (by omega)⟩⟩⟩
end
def zng{α:Type}{xs:List α}{i:Nat}{d:α}:xs.set i (xs.getD i d)=xs:=by apply xhx;grind
def TV.to_self(t:Ty)(x:t.den):TV.to ⟨t,x⟩ t=some x:=by simp[TV.to]
def zgb:∀{π:List Nat} {t:Ty} {x:t.den} {y:TV},zcc π t x=some y->zkf π t x y=some x
 | [],t,x,y,h=>by simp only[zcc,xaq]at h;subst h;exact TV.to_self t x
 |i::π,.pair a b,x,y,h=>by
  match i with
  | 0=>simp only[zcc]at h;simp only[zkf,zgb h];rfl
  | 1=>simp only[zcc]at h;simp only[zkf,zgb h];rfl
  |i+2=>simp[zcc]at h
 |i::π,.arr n t,x,y,h=>by rw[zlv]at h;rw[zqw,zgb h];simp only[xch,zng]
 |i::π,.slice t,x,y,h=>by rw[zpj]at h;rw[zvh,zgb h];simp only[xch,zng]
 |i::π,.ptr t,x,y,h=>by
  match i with
  | 0=>simp only[zcc]at h;simp only[zkf];exact zgb (t:=t) h
  |i+1=>simp[zcc]at h
 |_::_,.int _,_,_,h=>by simp[zcc]at h
 |_::_,.bool,_,_,h=>by simp[zcc]at h
 |_::_,.str,_,_,h=>by simp[zcc]at h
 |_::_,.unit,_,_,h=>by simp[zcc]at h
 |_::_,.fn1 _ _,_,_,h=>by simp[zcc]at h
 |_::_,.fn2 _ _ _,_,_,h=>by simp[zcc]at h
 |_::_,.alt _ _ _,_,_,h=>by simp[zcc]at h
 |_::_,.nilI,_,_,h=>by simp[zcc]at h
section
variable {P:Program} {c:Ctx} {σ σ':Env} {a a':Act} {S S':St}
def zlh{w:World}{b o:Nat}{cur:Array Value}{e:TypeId}(h:w.heap[b]?=some (.cells cur e (0,0))):blk w b o=λi=>cur[o+i]?:=funext λi=>by show w.cell? ⟨b,o+i,none⟩=_;rw[cell_of_row w b _ cur e (0,0) h]
def Rel.updAt{s:Ty}{y:s.den}{k:Md}{π:List Nat}{t:Ty}{m m':Md}{p:Place}{x x':t.den}{cs:Cs}{l:Option (List Nat)×Nat}(h:Rel P t S m p x cs)(hl:zbo π t=some l)(hm:zfl π t m k=some m')
  (hs:zkf π t x ⟨s,y⟩=some x') (ho:okP S π t p)
  (hc:match l with
   |(none,o)=>Fr S S' p π none/\Rel P s S' k (pa p π) y (λi=>cs (o+i))
   |(some q,o)=>∃b cur cur' e,hvB (S.hv (pa p q))=some b/\S.own b=some (pa p q)/\S.w.heap[b]?=some (.cells cur e (0,0))/\S'.w.heap[b]?=some (.cells cur' e (0,0))/\cur'.size=cur.size /\
     (∀i,i<o\/o+s.size<=i->cur'[i]?=cur[i]?)/\Fr S S' p π (some b)/\Rel P s S' k (pa p π) y (λi=>cur'[o+i]?)):Rel P t S' m' p x' cs:=by
 obtain⟨q,o⟩:=l;cases q with
 |none=>exact h.updA hl hm hs ho hc.1 (λ_ _ _=>rfl) hc.2
 |some q=>
  obtain⟨b,cur,cur',e,h1,h2,h3,h4,h5,h6,h7,h8⟩:=hc;exact Rel.updB h3 h4 h5 rfl h6 h hl hm hs ho h1 h2 h7 (λ_ _=>rfl) h8
open Classical in
noncomputable def zuu (S:St) (p:Place):St:={S with F:=λb=>S.F b\/∃ρ,S.own b=some (pa p ρ),own:=λb=>if∃ρ,S.own b=some (pa p ρ)then none else S.own b}
def frz_own{S:St}{p:Place}{b:Nat}{q:Place}(h:S.own b=some q)(hn:∀ρ,q≠pa p ρ):(zuu S p).own b=some q:=by unfold zuu;grind
def frz_none{S:St}{p:Place}{b:Nat}(h:S.own b=none):(zuu S p).own b=none:=by unfold zuu;grind
def znh{r:Nat}{π ρ:List Nat}{q:List Nat}(h:((r,q):Place)=pa (r,π) ρ):π <+: q:=by simp only[pa,xaw,xgl]at h;exact⟨ρ,h.symm⟩
def InvOf.freeze(h:InvOf P c σ a S){r:Nat}{t:Ty}{m m' k:Md}{x:t.den}{π:List Nat}{s:Ty}{y:s.den}(hr:(σ r).e=.v t m x)(hm:zbr π t m=some k)(hg:zcc π t x=some ⟨s,y⟩)(ho:okP S π t (r,[]))
  (hn:k.nobw=true) (hv:zkh s k=true) (hs:zfl π t m .sh=some m'):∃S',InvOf P c (zdv σ r (.v t m' x) 2) a S'/\S'.w=S.w:=by
 refine⟨zuu S (r,π),?_,rfl⟩;have hc:=h.slot hr;obtain⟨s',y',l,cs',h1,h2,h3,h4⟩:=Rel.at hc.1 hm ho;rw[hg]at h1;cases h1;have hd:∀ρ,pa (r,[]) ρ=(r,ρ):=λρ=>by simp[pa]
 rw[hd]at h3;have hh:Rel P s (zuu S (r,π)) .sh (r,π) y cs':=Rel.share (q:=false) (.inl rfl) h3 (.inr hn) hv
  ⟨λb hb=>⟨.inl hb,rfl⟩,λh=>(by cases h),λb ρ hb=>⟨.inl (.inr ⟨ρ,hb⟩),rfl⟩⟩
 have hf:∀b0,Fr S (zuu S (r,π)) (r,[]) π b0:=λb0=>⟨λb hb=>.inl hb,λ_ _=>rfl,λb hb=>.inr hb,λ_ _=>rfl,λ_ _=>rfl,λb ρ hρ hb=>by rw[hd]at hb ⊢;exact⟨frz_own hb λρ' he=>hρ (znh he),λ_=>rfl⟩⟩
 have ha:Rel P t (zuu S (r,π)) m' (r,[]) x (zab t (tmv a r)):=by
  refine hc.1.updAt h2 hs (zgb hg) ho ?_;obtain⟨q,o⟩:=l;cases q with
  |none=>grind
  |some q=>
   obtain⟨b,h5,h6,h7,cur,e,h8⟩:=h4;refine⟨b,cur,cur,e,h5,h6,h8,h8,rfl,λ_ _=>rfl,hf _,?_⟩;rw[hd,<-zlh h8,<-h7];exact hh
 refine h.rebuild (λt=>t=r) (λ_ _=>.inr rfl) h.defers h.size (λt ht=>⟨zao σ _ _ ht,rfl⟩) (λt ht=>?_) (λt ht=>?_) (λb hb=>.inl hb) (λ_ _=>rfl) rfl (λ_ _=>rfl) (λ_ _ _=>rfl) (λt ht b q hb=>⟨frz_own hb λρ he=>ht (by cases he;rfl),rfl⟩)
  (λb hb=>?_) (λb hb=>frz_none (h.borrowed b hb).1) (λb p hp=>?_) rfl rfl rfl (xag _) (λ_ _ _=>rfl)
 ·subst ht;exact .bump (h.gens t) hr (zah σ t _ 2) (λh=>by cases h) λ_ _ _=>rfl
 ·subst ht;exact .v (zbs σ t _ 2) ⟨ha,hc.2⟩
 ·rcases hb with hb|⟨ρ,hb⟩
  ·exact⟨frz_none (h.shared b hb).1,(h.shared b hb).2⟩
  ·refine⟨?_,(h.owned b _ hb).1,.inr (h.owned b _ hb).2⟩;unfold zuu;simp only;rw[if_pos ⟨ρ,hb⟩]
 ·have:S.own b=some p:=by unfold zuu at hp;simp_all
  exact h.owned b p this
end
def Md.noown:Md->Bool
 | .own _ _=>false
 | .pr a b=>a.noown&&b.noown
 |_=>true
def Md.noown_l{m:Md}(h:m.noown=true):m.l.noown=true:=by cases m<;>first | exact h | (simp only[Md.noown,xal]at h;exact h.1)
def Md.noown_r{m:Md}(h:m.noown=true):m.r.noown=true:=by cases m<;>first | exact h | (simp only[Md.noown,xal]at h;exact h.2)
def zyp:∀(t:Ty) (m:Md),leM t m .dead=true:=by
 intro t;induction t with
 |pair a b iha ihb=>intro m;simp only[leM,Md.l,Md.r];simp[iha,ihb]
 |arr n t ih=>intro m;exact ih m
 |_=>intro m;cases m<;>rfl
section
variable {P:Program} {c:Ctx} {σ σ':Env} {a a':Act} {S S':St}
structure Fut2(S S':St):Prop where
 F:∀b,S.F b->S'.F b/\S'.w.heap[b]?=S.w.heap[b]?
 B:∀b,S.B b->(S'.F b\/S'.B b)/\S'.w.heap[b]?=S.w.heap[b]?
def Fut2.refl(S:St):Fut2 S S:=⟨λ_ h=>⟨h,rfl⟩,λ_ h=>⟨.inr h,rfl⟩⟩
def Fut2.sh(h:Fut2 S S')(m:Md):Fut m S S':=⟨λb hb=>(h.F b hb).1,λb _ hb=>(h.B b hb).1,λb hb=>hb.elim (λhb=>(h.F b hb).2) λhb=>(h.B b hb.2).2⟩
def Rel.free:∀{t:Ty} {m:Md} {p p':Place} {x:t.den} {cs cs':Cs},Rel P t S m p x cs->m.noown=true->Fut2 S S'->(∀i,i<t.size->cs' i=cs i)->Rel P t S' m p' x cs':=by
 intro t;have sb:∀{t:Ty} {m:Md} {p p':Place} {x:t.den} {cs cs':Cs},m=.sh\/m=.bw->Rel P t S m p x cs->Fut2 S S'->(∀i,i<t.size->cs' i=cs i)->Rel P t S' m p' x cs':=λhm h hf hc=>h.fut hm (hf.sh _) hc;have d1:∀{cs cs':Cs},zmb cs->(∀i,i<1->cs' i=cs i)->zmb cs':=λh hc=>by obtain⟨u,h1,h2⟩:=h;exact⟨u,(hc 0 Nat.one_pos).trans h1,h2⟩
 induction t with
 |unit=>intro m p p' x cs cs' h hm hf hc;trivial
 |pair a b iha ihb=>intro m p p' x cs cs' h hm hf hc;simp only[Ty.size]at hc;exact⟨iha h.1 (Md.noown_l hm) hf λi hi=>hc i (by omega),ihb h.2 (Md.noown_r hm) hf λi hi=>hc _ (by omega)⟩
 |arr n t ih=>intro m p p' x cs cs' h hm hf hc;simp only[Ty.size]at hc;refine⟨h.1,λi hi=>ih (h.2 i hi) hm hf λj hj=>hc _ ?_⟩;have:=h.1;have:(i+1)*t.size<=n*t.size:=xau _ (by omega);grind
 |alt tid a b iha ihb=>
  intro m p p' x cs cs' h hm hf hc;by_cases hmd:m=.dead;·subst hmd;exact d1 h hc
  ·cases x with
   |inl y=>rw[Rel.alt_inl hmd]at h ⊢;obtain⟨v,h1,h2,h3⟩:=h;exact⟨v,(hc 0 Nat.one_pos).trans h1,iha h2 (Md.noown_l hm) hf λ_ _=>rfl,h3⟩
   |inr z=>rw[Rel.alt_inr hmd]at h ⊢;exact⟨h.1,ihb h.2 (Md.noown_r hm) hf λi hi=>hc i (by have:=h.1;simp only[Ty.size];omega)⟩
 |int k=>intro m p p' x cs cs' h hm hf hc;have h0:=hc 0 Nat.one_pos;cases m<;>first | exact d1 h hc | exact⟨h0.trans h.1,h.2⟩
 |bool=>intro m p p' x cs cs' h hm hf hc;have h0:=hc 0 Nat.one_pos;cases m<;>first | exact d1 h hc | exact h0.trans h
 |str=>intro m p p' x cs cs' h hm hf hc;have h0:=hc 0 Nat.one_pos;cases m<;>first|exact d1 h hc|(obtain⟨s,h1,h2⟩:=h;exact⟨s,h0.trans h1,h2⟩)
 |nilI=>intro m p p' x cs cs' h hm hf hc;have h0:=hc 0 Nat.one_pos;cases m<;>first | exact d1 h hc | exact h0.trans h
 |slice t ih=>
  intro m p p' x cs cs' h hm hf hc;cases m with
  |sh=>exact sb (.inl rfl) h hf hc
  |bw=>exact sb (.inr rfl) h hf hc
  |own=>cases hm
  |pr=>exact h.2.2.elim
  |dead=>exact⟨h.1,h.2.1,d1 h.2.2 hc⟩
 |ptr t ih=>
  intro m p p' x cs cs' h hm hf hc;cases m with
  |sh=>exact sb (.inl rfl) h hf hc
  |bw=>exact sb (.inr rfl) h hf hc
  |own=>cases hm
  |pr=>exact h.elim
  |dead=>exact d1 h hc
 |fn1 a r iha ihr=>
  intro m p p' x cs cs' h hm hf hc;cases m with
  |sh=>exact sb (.inl rfl) h hf hc
  |bw=>exact sb (.inr rfl) h hf hc
  |own=>cases hm
  |pr=>exact h.elim
  |dead=>exact d1 h hc
 |fn2 a b r iha ihb ihr=>
  intro m p p' x cs cs' h hm hf hc;cases m with
  |sh=>exact sb (.inl rfl) h hf hc
  |bw=>exact sb (.inr rfl) h hf hc
  |own=>cases hm
  |pr=>exact h.elim
  |dead=>exact d1 h hc
def Rel.dead_any:∀{t:Ty} {p p':Place} {x:t.den} {cs cs':Cs},Rel P t S .dead p x cs->(∀i,i<t.size->cs' i=cs i)->Rel P t S' .dead p' x cs':=by
 intro t;have d1:∀{cs cs':Cs},zmb cs->(∀i,i<1->cs' i=cs i)->zmb cs':=λh hc=>by obtain⟨u,h1,h2⟩:=h;exact⟨u,(hc 0 Nat.one_pos).trans h1,h2⟩
 induction t with
 |unit=>intro p p' x cs cs' h hc;trivial
 |pair a b iha ihb=>intro p p' x cs cs' h hc;simp only[Ty.size]at hc;exact⟨iha h.1 λi hi=>hc i (by omega),ihb h.2 λi hi=>hc _ (by omega)⟩
 |arr n t ih=>intro p p' x cs cs' h hc;simp only[Ty.size]at hc;refine⟨h.1,λi hi=>ih (h.2 i hi) λj hj=>hc _ ?_⟩;have:=h.1;have:(i+1)*t.size<=n*t.size:=xau _ (by omega);grind
 |slice t ih=>intro p p' x cs cs' h hc;exact⟨h.1,h.2.1,d1 h.2.2 hc⟩
 |_=>intro p p' x cs cs' h hc;exact d1 h hc
def SR.free{t:Ty}{m:Md}{p p':Place}{x:t.den}{v:Value}(h:SR P t S m p x v)(hm:m.noown=true)(hf:Fut2 S S'):SR P t S' m p' x v:=⟨h.1.free hm hf λ_ _=>rfl,h.2⟩
open Classical in
noncomputable def mv (S:St) (p q:Place):St:={S with
 own:=λb=>if h:∃ρ,S.own b=some (pa p ρ)then some (pa q (Classical.choose h))else S.own b
 hv:=λz=>if h:∃ρ,z=pa q ρ then S.hv (pa p (Classical.choose h))else S.hv z}
def mv_own{p q:Place}{ρ:List Nat}{b:Nat}(h:S.own b=some (pa p ρ)):(mv S p q).own b=some (pa q ρ):=by have ha:∃ρ,S.own b=some (pa p ρ):=⟨ρ,h⟩;unfold mv;simp only;rw[dif_pos ha];have:=zqi (xbi (h.symm.trans (xdw ha)));grind
def zdl{p q:Place}{b:Nat}{z:Place}(h:S.own b=some z)(hn:∀ρ,z≠pa p ρ):(mv S p q).own b=some z:=by unfold mv;grind
def mv_none{p q:Place}{b:Nat}(h:S.own b=none):(mv S p q).own b=none:=by unfold mv;grind
def mv_owned{p q:Place}{b:Nat}{z:Place}(h:(mv S p q).own b=some z):∃y,S.own b=some y:=by
 cases ho:S.own b with
 |none=>rw[mv_none ho]at h;cases h
 |some y=>exact⟨y,rfl⟩
def mv_hv{p q:Place}(ρ:List Nat):(mv S p q).hv (pa q ρ)=S.hv (pa p ρ):=by have ha:∃r,pa q ρ=pa q r:=⟨ρ,rfl⟩;unfold mv;simp only;rw[dif_pos ha,<-zqi (xdw ha)]
def zdq{p q z:Place}(hn:∀ρ,z≠pa q ρ):(mv S p q).hv z=S.hv z:=by unfold mv;grind
def mv_tr(S:St)(p q:Place):Tr true S (mv S p q) p q:=⟨λ_ h=>h,λ_ _=>rfl,λ_ _ h=>.inr h,λ_ _ _=>rfl,mv_hv,λ_ _ hb=>⟨mv_own hb,rfl⟩⟩
def zdg{r:Nat}{π ρ:List Nat}{z:Place}(h:z=pa (r,π) ρ):z.1=r:=by rw[h];rfl
def InvOf.mvOwned(h:InvOf P c σ a S){p q:Place}:(∀b,S.F b->(mv S p q).own b=none/\b<S.w.heap.size/\(c.F0 b\/c.w0.heap.size<=b\/c.O b))/\(∀b,c.B b->(mv S p q).own b=none) /\
  (∀b z,(mv S p q).own b=some z->b<S.w.heap.size/\(c.w0.heap.size<=b\/c.O b)):=
 ⟨λb hb=>⟨mv_none (h.shared b hb).1,(h.shared b hb).2⟩,λb hb=>mv_none (h.borrowed b hb).1,λb z hz=>by obtain⟨y,hy⟩:=mv_owned hz;exact h.owned b y hy⟩
def InvOf.moveAll(h:InvOf P c σ a S){s d:Nat}{t:Ty}{m:Md}{x:t.den}(hs:(σ s).e=.v t m x)(hne:s≠d)(hd:d<c.N) :
  InvOf P c (zdv (zdv σ s .dead 0) d (.v t m x) 0) (a.put (some d) (tmv a s)) (mv S (s,[]) (d,[])):=by
 have ha:=h.slot hs;obtain⟨q1,q2,q3⟩:=h.mvOwned (p:=(s,[])) (q:=(d,[]));refine h.rebuild (λt=>t=s\/t=d) (λr _=>zhc (λu=>zmm _ _ u _ _) r) (by simpa[Act.put]using h.defers) (by simpa[Act.put]using h.size)
  (λt ht=>⟨by rw[zao _ _ _ (λe=>ht (.inr e)),zao _ _ _ (λe=>ht (.inl e))],zbn λe=>ht (.inr e)⟩) (λr hr=>?_) (λt ht=>?_) (λ_ h=>h) (λ_ _=>rfl) rfl (λ_ _=>rfl)
  (λt ht q=>zdq λρ he=>ht (.inr (zdg he))) (λt ht b q hb=>⟨zdl hb λρ he=>ht (.inl (zdg he)),rfl⟩) q1 q2 q3 rfl rfl rfl (xag _) (λ_ _ _=>rfl)
 ·by_cases hrd:r=d;·subst hrd;exact⟨by rw[zah];exact xag _,.inl (by rw[zah,zao _ _ _ (Ne.symm hne)];exact xbw _)⟩
  ·have hc:=hr.resolve_right hrd;subst hc;exact⟨by rw[zao _ _ _ hrd,zah];exact xag _,.inl (by rw[zao _ _ _ hrd,zah];exact xbw _)⟩
 ·by_cases htd:t=d;·subst htd;refine .v (zbs _ _ _ 0) ?_;rw[zak (by rw[h.size];exact hd)];exact ha.mono (.inl rfl) (mv_tr S _ _)
  ·have hf:=ht.resolve_right htd;subst hf;unfold SlotOK;rw[zao _ _ _ htd,zbs];trivial
def InvOf.moveIf(h:InvOf P c σ a S){s d:Nat}(hne:s≠d)(hd:d<c.N){ρ:List Nat}{t:Ty}{m:Md}{x:t.den}{v:Value}(hx:SR P t (mv S (s,[]) (d,ρ)) m (d,[]) x v) :
  InvOf P c (zdv (zdv σ s .dead 0) d (.v t m x) 0) (a.put (some d) v) (mv S (s,[]) (d,ρ)):=by
 obtain⟨q1,q2,q3⟩:=h.mvOwned (p:=(s,[])) (q:=(d,ρ));refine h.rebuild (λt=>t=s\/t=d) (λr _=>zhc (λu=>zmm _ _ u _ _) r) (by simpa[Act.put]using h.defers) (by simpa[Act.put]using h.size)
  (λt ht=>⟨by rw[zao _ _ _ (λe=>ht (.inr e)),zao _ _ _ (λe=>ht (.inl e))],zbn λe=>ht (.inr e)⟩) (λr hr=>?_) (λt ht=>?_) (λ_ h=>h) (λ_ _=>rfl) rfl (λ_ _=>rfl)
  (λt ht q=>zdq λρ he=>ht (.inr (zdg he))) (λt ht b q hb=>⟨zdl hb λρ he=>ht (.inl (zdg he)),rfl⟩) q1 q2 q3 rfl rfl rfl (xag _) (λ_ _ _=>rfl)
 ·by_cases hrd:r=d;·subst hrd;exact⟨by rw[zah];exact xag _,.inl (by rw[zah,zao _ _ _ (Ne.symm hne)];exact xbw _)⟩
  ·have ha:=hr.resolve_right hrd;subst ha;exact⟨by rw[zao _ _ _ hrd,zah];exact xag _,.inl (by rw[zao _ _ _ hrd,zah];exact xbw _)⟩
 ·by_cases htd:t=d;·subst htd;refine .v (zbs _ _ _ 0) ?_;rw[zak (by rw[h.size];exact hd)];exact hx
  ·have hc:=ht.resolve_right htd;subst hc;unfold SlotOK;rw[zao _ _ _ htd,zbs];trivial
def InvOf.moveTup(h:InvOf P c σ a S){s d:Nat}{es:List TM}(hs:(σ s).e=.tup es)(hne:s≠d)(hd:d<c.N) :
  InvOf P c (zdv (zdv σ s .dead 0) d (.tup es) 0) (a.put (some d) (tmv a s)) (mv S (s,[]) (d,[])):=by
 have ha:=h.slots s;unfold SlotOK at ha;rw[hs]at ha;obtain⟨q1,q2,q3⟩:=h.mvOwned (p:=(s,[])) (q:=(d,[]));refine h.rebuild (λt=>t=s\/t=d) (λr _=>zhc (λu=>zmm _ _ u _ _) r) (by simpa[Act.put]using h.defers) (by simpa[Act.put]using h.size)
  (λt ht=>⟨by rw[zao _ _ _ (λe=>ht (.inr e)),zao _ _ _ (λe=>ht (.inl e))],zbn λe=>ht (.inr e)⟩) (λr hr=>?_) (λt ht=>?_) (λ_ h=>h) (λ_ _=>rfl) rfl (λ_ _=>rfl)
  (λt ht q=>zdq λρ he=>ht (.inr (zdg he))) (λt ht b q hb=>⟨zdl hb λρ he=>ht (.inl (zdg he)),rfl⟩) q1 q2 q3 rfl rfl rfl (xag _) (λ_ _ _=>rfl)
 ·by_cases hrd:r=d;·subst hrd;exact⟨by rw[zah];exact xag _,.inl (by rw[zah,zao _ _ _ (Ne.symm hne)];exact xbw _)⟩
  ·have hc:=hr.resolve_right hrd;subst hc;exact⟨by rw[zao _ _ _ hrd,zah];exact xag _,.inl (by rw[zao _ _ _ hrd,zah];exact xbw _)⟩
 ·by_cases htd:t=d;·subst htd;unfold SlotOK;rw[zbs,zak (by rw[h.size];exact hd)];obtain⟨vs,h1,h2,h3⟩:=ha;refine⟨vs,h1,h2,λk e hk=>?_⟩;obtain⟨u,h4,h5⟩:=h3 k e hk;exact⟨u,h4,h5.mono (.inl rfl) ((mv_tr S _ _).px k)⟩
  ·have hf:=ht.resolve_right htd;subst hf;unfold SlotOK;rw[zao _ _ _ htd,zbs];trivial
def zbt(r:Nat)(ρ:List Nat):pa (r,[]) ρ=(r,ρ):=by simp[pa]
def InvOf.takePart(h:InvOf P c σ a S){s d:Nat}{t u:Ty}{m m' k:Md}{x:t.den}{y:u.den}{π:List Nat}(hs:(σ s).e=.v t m x)(hne:s≠d)(hd:d<c.N)(hm:zbr π t m=some k)(hg:zcc π t x=some ⟨u,y⟩)
  (ho:okP S π t (s,[])) (hset:zfl π t m .dead=some m') {v:Value} (hv:∀cs l,zbo π t=some l->(match l with
   |(none,o)=>cs=λi=>zab t (tmv a s) (o+i)
   |(some q,o)=>∃b,hvB (S.hv (s,q))=some b/\cs=blk S.w b o)->∀i,i<u.size->zab u v i=cs i) (hagg:zgt u v) :
  InvOf P c (zdv (zdv σ s (.v t m' x) 2) d (.v u k y) 0) (a.put (some d) v) (mv S (s,π) (d,[])):=by
 have hh:=h.slot hs;obtain⟨q1,q2,q3⟩:=h.mvOwned (p:=(s,π)) (q:=(d,[]));obtain⟨u',y',l,cs',h1,h2,h3,h4⟩:=Rel.at hh.1 hm ho;rw[hg]at h1;cases h1;rw[zbt]at h3;have hc:∀i,i<u.size->zab u v i=cs' i:=hv cs' l h2 (by
  obtain⟨q,o⟩:=l;cases q with
  |none=>exact h4
  |some q=>obtain⟨b,h5,h6,h7,_⟩:=h4;rw[zbt]at h5;exact⟨b,h5,h7⟩)
 have hi:∀b0,Fr S (mv S (s,π) (d,[])) (s,[]) π b0:=λb0=>⟨λ_ h=>h,λ_ _=>rfl,λ_ h=>.inr h,λ_ _=>rfl,λr _=>zdq λρ he=>hne (zdg he),λb r hr hb=>⟨zdl hb λρ he=>by rw[zbt]at he;exact hr (znh he),λ_=>rfl⟩⟩;have ha:Rel P u (mv S (s,π) (d,[])) .dead (s,π) y cs':=(h3.weaken (zyp u k)).dead_any λ_ _=>rfl;have hf:Rel P t (mv S (s,π) (d,[])) m' (s,[]) x (zab t (tmv a s)):=by
  refine hh.1.updAt h2 hset (zgb hg) ho ?_;obtain⟨q,o⟩:=l;cases q with
  |none=>
   refine⟨hi _,?_⟩;rw[zbt];have hk:cs'=λi=>zab t (tmv a s) (o+i):=h4;rw[<-hk];exact ha
  |some q=>
   obtain⟨b,h5,h6,h7,cur,e,h8⟩:=h4;refine⟨b,cur,cur,e,h5,h6,h8,h8,rfl,λ_ _=>rfl,hi _,?_⟩;rw[zbt,<-zlh h8,<-h7];exact ha
 refine h.rebuild (λt=>t=s\/t=d) (λr _=>zhc (λu=>zmm _ _ u _ _) r) (by simpa[Act.put]using h.defers) (by simpa[Act.put]using h.size)
  (λt ht=>⟨by rw[zao _ _ _ (λe=>ht (.inr e)),zao _ _ _ (λe=>ht (.inl e))],zbn λe=>ht (.inr e)⟩) (λr hr=>?_) (λt ht=>?_) (λ_ h=>h) (λ_ _=>rfl) rfl (λ_ _=>rfl)
  (λt ht q=>zdq λρ he=>ht (.inr (zdg he))) (λt ht b q hb=>⟨zdl hb λρ he=>ht (.inl (zdg he)),rfl⟩) q1 q2 q3 rfl rfl rfl (xag _) (λ_ _ _=>rfl)
 ·by_cases hrd:r=d;·subst hrd;exact⟨by rw[zah];exact xag _,.inl (by rw[zah,zao _ _ _ (Ne.symm hne)];exact xbw _)⟩
  ·have hj:=hr.resolve_right hrd;subst hj;exact .bump (k:=2) (h.gens r) hs (by rw[zao _ _ _ hrd,zah]) (λh=>by cases h) λ_ _ q=>zdq λρ he=>hrd (zdg he)
 ·by_cases htd:t=d;·subst htd;refine .v (zbs _ _ _ 0) ?_;rw[zak (by rw[h.size];exact hd)];exact⟨h3.mono (.inl rfl) (mv_tr S _ _) hc,hagg⟩
  ·have hl:=ht.resolve_right htd;subst hl;refine .v (by rw[zao _ _ _ htd,zbs]) ?_;rw[zbn htd];exact⟨hf,hh.2⟩
def zbw{t:Ty}{m:Md}{p:Place}{x:t.den}{v:Value}(h:SR P t S m p x v):v.cells.size=t.size/\(∀i,i<t.size->v.cells[i]?=zab t v i)/\∀u∈v.cells.toList,u.oneCell'=true:=by
 have hc:=h.1.cells;by_cases hag:t.agg=true
 ·obtain⟨cs,rfl,h2⟩:=h.2 hag;have he:zab t (.agg cs)=λi=>cs[i]?:=by unfold zab;rw[if_pos hag]
  rw[he]at hc ⊢;refine⟨h2,λ_ _=>rfl,λu hu=>?_⟩;obtain⟨i,hi,rfl⟩:=xdi hu;simp only[Value.cells,xcj]at hi;obtain⟨u,h3,h4⟩:=hc i (by omega);have h5:cs[i]?=some u:=h3;rw[xcf hi]at h5;cases h5;simpa[Value.cells]using h4
 ·have hs:t.size=1:=by cases t<;>first | rfl | exact absurd rfl hag
  have he:zab t v=λi=>if i=0 then some v else none:=by unfold zab;rw[if_neg hag]
  rw[he,hs]at hc;obtain⟨u,h1,h2⟩:=hc 0 Nat.one_pos;simp at h1;subst h1;have hv:v.cells=#[v]:=by cases v<;>first | rfl | cases h2
  grind
def splice(cur:Array Value)(o:Nat)(vs:List Value):Array Value:=(cur.toList.take o++vs++cur.toList.drop (o+vs.length)).toArray
def zfk{cur:Array Value}{o:Nat}{vs:List Value}(h:o+vs.length<=cur.size):(splice cur o vs).size=cur.size:=by unfold splice;grind
def zln{cur:Array Value}{o:Nat}{vs:List Value}(h:o+vs.length<=cur.size){i:Nat}(hi:i<o\/o+vs.length<=i):(splice cur o vs)[i]?=cur[i]?:=by unfold splice;grind
def zne{cur:Array Value}{o:Nat}{vs:List Value}(h:o+vs.length<=cur.size){i:Nat}(hi:i<vs.length):(splice cur o vs)[o+i]?=vs[i]?:=by unfold splice;grind
def InvOf.overwrite(h:InvOf P c σ a S){S1:St}{r:Nat}{t u:Ty}{m m' k:Md}{x x':t.den}{y:u.den}{π q:List Nat}{o b:Nat}{cur:Array Value}{e:TypeId}(hr:(σ r).e=.v t m x)
  (hl:zbo π t=some (some q,o)) (ho:okP S π t (r,[])) (hh:hvB (S.hv (r,q))=some b) (hw:S.own b=some (r,q)) (hb:S.w.heap[b]?=some (.cells cur e (0,0))) (hm:zfl π t m k=some m') (hx:zkf π t x ⟨u,y⟩=some x')
  {v:Value} {vs:List Value} (hvs:vs.length=u.size) (hfit:o+u.size<=cur.size) (hcell:∀i,i<u.size->vs[i]?=zab u v i)
  (hS1:S1.w=S.w.setRow b (splice cur o vs)) (hfr:Fr S S1 (r,[]) π (some b)) (hy:Rel P u S1 k (r,π) y (zab u v)):Rel P t S1 m' (r,[]) x' (zab t (tmv a r)):=by
 refine(h.slot hr).1.updAt hl hm hx ho ⟨b,cur,splice cur o vs,e,by rw[zbt];exact hh,by rw[zbt];exact hw,hb,by rw[hS1];exact setRow_heap S.w b cur _ e _ hb,zfk (by omega),λi hi=>zln (by omega) (by omega),hfr,?_⟩;rw[zbt];refine hy.mono (q:=true) (.inl rfl) ⟨λ_ h=>h,λ_ _=>rfl,λ_ _ h=>.inr h,λ_ _ _=>rfl,λ_=>rfl,λ_ _ h=>⟨h,rfl⟩⟩ λi hi=>?_;rw[zne (by omega) (by omega),hcell i hi]
def InvOf.store(h:InvOf P c σ a S){r:Nat}{t u:Ty}{m m' k:Md}{x x':t.den}{y:u.den}{π q:List Nat}{o b:Nat}{cur:Array Value}{e:TypeId}(hr:(σ r).e=.v t m x)
  (hl:zbo π t=some (some q,o)) (ho:okP S π t (r,[])) (hh:hvB (S.hv (r,q))=some b) (hw:S.own b=some (r,q)) (hb:S.w.heap[b]?=some (.cells cur e (0,0))) (hm:zfl π t m k=some m') (hx:zkf π t x ⟨u,y⟩=some x')
  {v:Value} {p:Place} (hfit:o+u.size<=cur.size) (hv:SR P u S k p y v) (hk:k.noown=true) :
  InvOf P c (zdv σ r (.v t m' x') 2) a {S with w:=S.w.setRow b (splice cur o v.cells.toList)}:=by
 obtain⟨hn,hj,_⟩:=zbw hv;have hg:∀b',S.own b'=none->b'≠b:=λb' hb' he=>by rw[he,hw]at hb';cases hb'
 have ha:∀b',b'≠b->(S.w.setRow b (splice cur o v.cells.toList)).heap[b']?=S.w.heap[b']?:=λb' hb'=>setRow_other S.w b b' _ hb';have hd:∀b',S.F b'->b'≠b:=λb' hb'=>hg b' (h.shared b' hb').1;have hc:∀b',S.B b'->b'≠b:=λb' hb'=>hg b' (h.WF.borrowed b' hb').1;have hp:Fut2 S {S with w:=S.w.setRow b (splice cur o v.cells.toList)}:=⟨λb' hb'=>⟨hb',ha b' (hd b' hb')⟩,λb' hb'=>⟨.inr hb',ha b' (hc b' hb')⟩⟩;have hf:=h.overwrite (S1:={S with w:=S.w.setRow b (splice cur o v.cells.toList)}) hr hl ho hh hw hb hm hx (v:=v) (vs:=v.cells.toList) (by simpa using hn) hfit (λi hi=>by simpa using hj i hi) rfl
  ⟨λ_ h=>h,λb' hb'=>ha b' (hd b' hb'),λ_ h=>.inr h,λb' hb'=>ha b' (hc b' hb'),λ_ _=>rfl,λb' r' _ hb'=>⟨hb',λhe=>ha b' (λhh=>he (by rw[hh]))⟩⟩ ((hv.free (p':=(r,π)) hk hp).1)
 refine h.rebuild (λt=>t=r) (λ_ _=>.inr rfl) h.defers h.size (λt ht=>⟨zao σ _ _ ht,rfl⟩) (λt ht=>?_) (λt ht=>?_) (λ_ h=>h) (λb' hb'=>ha b' (hd b' hb')) rfl (λb' hb'=>ha b' (hc b' hb')) (λ_ _ _=>rfl)
  (λt ht b' q' hb'=>⟨hb',ha b' (λhe=>by rw[he,hw]at hb';cases hb';exact ht rfl)⟩) (λb' hb'=>⟨(h.shared b' hb').1,by simpa[World.setRow]using(h.shared b' hb').2.1,(h.shared b' hb').2.2⟩) (λb' hb'=>(h.borrowed b' hb').1)
  (λb' p' hp'=>⟨by simpa[World.setRow]using(h.owned b' p' hp').1,(h.owned b' p' hp').2⟩) rfl rfl rfl (by simp[World.setRow]) (λb' hlt hO=>ha b' λhe=>?_)
 ·subst ht;exact .bump (h.gens t) hr (zah σ t _ 2) (λh=>by cases h) λ_ _ _=>rfl
 ·subst ht;exact .v (zbs σ t _ 2) ⟨hf,(h.slot hr).2⟩
 ·subst he;rcases(h.owned b' _ hw).2 with h1|h1
  ·omega
  ·exact hO h1
def InvOf.give(h:InvOf P c σ a S){r s:Nat}{t u:Ty}{m m' k:Md}{x x':t.den}{y:u.den}{π q:List Nat}{o b:Nat}{cur:Array Value}{e:TypeId}(hr:(σ r).e=.v t m x)(hs:(σ s).e=.v u k y)(hne:s≠r)
  (hl:zbo π t=some (some q,o)) (ho:okP S π t (r,[])) (hq:π≠ []) (hh:hvB (S.hv (r,q))=some b) (hw:S.own b=some (r,q)) (hb:S.w.heap[b]?=some (.cells cur e (0,0))) (hm:zfl π t m k=some m') (hx:zkf π t x ⟨u,y⟩=some x')
  (hfit:o+u.size<=cur.size) :
  InvOf P c (zdv (zdv σ s .dead 0) r (.v t m' x') 1) a {mv S (s,[]) (r,π)with w:=S.w.setRow b (splice cur o (tmv a s).cells.toList)}:=by
 have hv:=h.slot hs;obtain⟨hp,hn,_⟩:=zbw hv;obtain⟨q1,q2,q3⟩:=h.mvOwned (p:=(s,[])) (q:=(r,π));have hf:∀b',S.own b'=none->b'≠b:=λb' hb' he=>by rw[he,hw]at hb';cases hb'
 have ha:∀b',b'≠b->(S.w.setRow b (splice cur o (tmv a s).cells.toList)).heap[b']?=S.w.heap[b']?:=λb' hb'=>setRow_other S.w b b' _ hb';have hd:∀b',S.F b'->b'≠b:=λb' hb'=>hf b' (h.shared b' hb').1;have hc:∀b',S.B b'->b'≠b:=λb' hb'=>hf b' (h.WF.borrowed b' hb').1;have hk:∀b' ρ,S.own b'=some (pa (s,[]) ρ)->b'≠b:=λb' ρ hb' he=>by rw[he,hw]at hb';rw[zbt]at hb';cases hb';exact hne rfl
 have hT:Tr true S {mv S (s,[]) (r,π)with w:=S.w.setRow b (splice cur o (tmv a s).cells.toList)} (s,[]) (r,π):=
  ⟨λ_ h=>h,λb' hb'=>ha b' (hd b' hb'),λ_ _ h=>.inr h,λ_ b' hb'=>ha b' (hc b' hb'),mv_hv,λb' ρ hb'=>⟨mv_own hb',ha b' (hk b' ρ hb')⟩⟩
 have hg:=h.overwrite (S1:={mv S (s,[]) (r,π)with w:=S.w.setRow b (splice cur o (tmv a s).cells.toList)}) hr hl ho hh hw hb hm hx (v:=tmv a s) (vs:=(tmv a s).cells.toList) (by simpa using hp) hfit (λi hi=>by simpa using hn i hi) rfl
  ⟨λ_ h=>h,λb' hb'=>ha b' (hd b' hb'),λ_ h=>.inr h,λb' hb'=>ha b' (hc b' hb'),λρ hρ=>zdq λρ' he=>by rw[zbt]at he;exact hρ (znh he),
   λb' r' _ hb'=>⟨zdl hb' λρ he=>by rw[zbt,zbt]at he;cases he;exact hne rfl,λhe=>ha b' (λhh=>he (by rw[hh]))⟩⟩ (hv.1.mono (.inl rfl) hT λ_ _=>rfl)
 refine h.rebuild (λt=>t=s\/t=r) (λ_ _=>.inr rfl) h.defers h.size (λt ht=>⟨by rw[zao _ _ _ (λe=>ht (.inr e)),zao _ _ _ (λe=>ht (.inl e))],rfl⟩) (λt ht=>?_) (λt ht=>?_) (λ_ h=>h) (λb' hb'=>ha b' (hd b' hb')) rfl (λb' hb'=>ha b' (hc b' hb'))
  (λt ht q=>zdq λρ he=>ht (.inr (zdg he))) (λt ht b' q' hb'=>⟨zdl hb' λρ he=>ht (.inl (zdg he)),ha b' (λhe=>by rw[he,hw]at hb';cases hb';exact ht (.inr rfl))⟩)
  (λb' hb'=>⟨(q1 b' hb').1,by simpa[World.setRow]using(q1 b' hb').2.1,(q1 b' hb').2.2⟩) q2 (λb' p' hp'=>⟨by simpa[World.setRow]using(q3 b' p' hp').1,(q3 b' p' hp').2⟩) rfl rfl rfl (by simp[World.setRow]) (λb' hlt hO=>ha b' λhe=>?_)
 ·by_cases htr:t=r;·subst htr;refine .bump (k:=1) (h.gens t) hr (by rw[zah,zao _ _ _ (Ne.symm hne)]) (λ_=>zdq λρ he=>?_) λ_ h=>absurd rfl h;simp only[pa,xaw,xgl]at he;exact hq (xjo.1 he.symm).1
  ·have hj:=ht.resolve_right htr;subst hj;exact⟨by rw[zao _ _ _ htr,zah];exact xag _,.inl (by rw[zao _ _ _ htr,zah];exact xbw _)⟩
 ·by_cases htr:t=r;·subst htr;exact .v (zbs _ _ _ 1) ⟨hg,(h.slot hr).2⟩
  ·have hj:=ht.resolve_right htr;subst hj;unfold SlotOK;rw[zao _ _ _ htr,zbs];trivial
 ·subst he;rcases(h.owned b' _ hw).2 with h1|h1
  ·omega
  ·exact hO h1
end
def zie{S:St}:∀{π ρ:List Nat} {t:Ty} {x:t.den} {u:Ty} {y:u.den} {p:Place},zcc π t x=some ⟨u,y⟩->okP S π t p->okP S ρ u (pa p π)->okP S (π++ρ) t p
 | [],ρ,t,x,u,y,p,h,_,h2=>by simp only[zcc,xaq]at h;cases h;rw[zdc]at h2;exact h2
 |i::π,ρ,.pair a b,x,u,y,p,h,h1,h2=>by
  rw[<-zcp]at h2;match i with
  | 0=>simp only[zcc]at h;exact zie (t:=a) h h1 h2
  | 1=>simp only[zcc]at h;exact zie (t:=b) h h1 h2
  |i+2=>simp[zcc]at h
 |i::π,ρ,.arr n t,x,u,y,p,h,h1,h2=>by rw[<-zcp]at h2;rw[zlv]at h;rw[zex]at h1;rw[xcx,zex];exact⟨h1.1,zie h h1.2 h2⟩
 |i::π,ρ,.slice t,x,u,y,p,h,h1,h2=>by rw[<-zcp]at h2;rw[zpj]at h;rw[zgd]at h1;rw[xcx,zgd];exact⟨h1.1,zie h h1.2 h2⟩
 |i::π,ρ,.ptr t,x,u,y,p,h,h1,h2=>by
  rw[<-zcp]at h2;match i with
  | 0=>simp only[zcc]at h;exact zie (t:=t) h h1 h2
  |i+1=>simp[zcc]at h
 |_::_,_,.int _,_,_,_,_,h,_,_=>by simp[zcc]at h
 |_::_,_,.bool,_,_,_,_,h,_,_=>by simp[zcc]at h
 |_::_,_,.str,_,_,_,_,h,_,_=>by simp[zcc]at h
 |_::_,_,.unit,_,_,_,_,h,_,_=>by simp[zcc]at h
 |_::_,_,.fn1 _ _,_,_,_,_,h,_,_=>by simp[zcc]at h
 |_::_,_,.fn2 _ _ _,_,_,_,_,h,_,_=>by simp[zcc]at h
 |_::_,_,.alt _ _ _,_,_,_,_,h,_,_=>by simp[zcc]at h
 |_::_,_,.nilI,_,_,_,_,h,_,_=>by simp[zcc]at h
def addL(π:List Nat)(l l2:Option (List Nat)×Nat):Option (List Nat)×Nat:=
 match l2 with
 |(some q,o)=>(some (π++q),o)
 |(none,o)=>(l.1,l.2+o)
def zez:∀{π ρ:List Nat} {t:Ty} {x:t.den} {u:Ty} {y:u.den} {l l2:Option (List Nat)×Nat},zcc π t x=some ⟨u,y⟩->zbo π t=some l->zbo ρ u=some l2->zbo (π++ρ) t=some (addL π l l2)
 | [],ρ,t,x,u,y,l,l2,h,h1,h2=>by simp only[zcc,xaq]at h;cases h;simp only[zbo,xaq]at h1;subst h1;rw[xdp,h2];obtain⟨q,o⟩:=l2;cases q<;>simp[addL]
 |i::π,ρ,.pair a b,x,u,y,l,l2,h,h1,h2=>by
  match i with
  | 0=>
   simp only[zcc]at h
   simp only[zbo,xac]at h1
   obtain⟨l',h3,rfl⟩:=h1
   have:=zez (t:=a) h h3 h2
   rw[xcx]
   simp only[zbo,this,xch]
   obtain⟨q,o⟩:=l2
   cases q<;>simp[addL]
  | 1=>
   simp only[zcc]at h
   simp only[zbo,xac]at h1
   obtain⟨l',h3,rfl⟩:=h1
   have:=zez (t:=b) h h3 h2
   rw[xcx]
   simp only[zbo,this,xch]
   obtain⟨q,o⟩:=l2
   obtain⟨q',o'⟩:=l'
   cases q<;>cases q'<;>simp[addL,xdk]
  |i+2=>simp[zcc]at h
 |i::π,ρ,.arr n t,x,u,y,l,l2,h,h1,h2=>by rw[zlv]at h;rw[zej]at h1;simp only[xac]at h1;obtain⟨l',h3,rfl⟩:=h1;have:=zez h h3 h2;rw[xcx,zej,this,xch];obtain⟨q,o⟩:=l2;obtain⟨q',o'⟩:=l';cases q<;>cases q'<;>simp[addL,xdk]
 |i::π,ρ,.slice t,x,u,y,l,l2,h,h1,h2=>by rw[zpj]at h;rw[zec]at h1;simp only[xac]at h1;obtain⟨l',h3,rfl⟩:=h1;have:=zez h h3 h2;rw[xcx,zec,this,xch];obtain⟨q,o⟩:=l2;obtain⟨q',o'⟩:=l';cases q<;>cases q'<;>simp[addL,xdk]
 |i::π,ρ,.ptr t,x,u,y,l,l2,h,h1,h2=>by
  match i with
  | 0=>
   simp only[zcc]at h
   simp only[zbo,xac]at h1
   obtain⟨l',h3,rfl⟩:=h1
   have:=zez (t:=t) h h3 h2
   rw[xcx]
   simp only[zbo,this,xch]
   obtain⟨q,o⟩:=l2
   obtain⟨q',o'⟩:=l'
   cases q<;>cases q'<;>simp[addL]
  |i+1=>simp[zcc]at h
 |_::_,_,.int _,_,_,_,_,_,h,_,_=>by simp[zcc]at h
 |_::_,_,.bool,_,_,_,_,_,h,_,_=>by simp[zcc]at h
 |_::_,_,.str,_,_,_,_,_,h,_,_=>by simp[zcc]at h
 |_::_,_,.unit,_,_,_,_,_,h,_,_=>by simp[zcc]at h
 |_::_,_,.fn1 _ _,_,_,_,_,_,h,_,_=>by simp[zcc]at h
 |_::_,_,.fn2 _ _ _,_,_,_,_,_,h,_,_=>by simp[zcc]at h
 |_::_,_,.alt _ _ _,_,_,_,_,_,h,_,_=>by simp[zcc]at h
 |_::_,_,.nilI,_,_,_,_,_,h,_,_=>by simp[zcc]at h
def zrj:Nat->Ty->Option (List Ty)
 | 1,.pair a .unit=>some [a]
 | 2,.pair a b=>some [a,b]
 |n+3,.pair a b=>(zrj (n+2) b).map (a::·)
 |_,_=>none
def zkj:Nat->Nat->Option (List Nat)
 | 1,0=>some [0]
 | 2,0=>some [0]
 | 2,1=>some [1]
 |_+3,0=>some [0]
 |n+3,f+1=>(zkj (n+2) f).map (1::·)
 |_,_=>none
def zey(o:Nat):List Ty->List (Nat×Nat)
 | []=>[]
 |t::ts=>(o,t.size)::zey (o+t.size) ts
def zhk{S:St}:∀{n f:Nat} {t:Ty} {fs:List Ty} {ρ:List Nat} {o0:Nat} {x:t.den} {p:Place},zrj n t=some fs->zkj n f=some ρ->∃(u:Ty) (y:u.den) (o:Nat),fs[f]?=some u/\zcc ρ t x=some ⟨u,y⟩/\zbo ρ t=some (none,o)/\okP S ρ t p/\(zey o0 fs)[f]?=some (o0+o,u.size)
 | 0,f,t,fs,ρ,o0,x,p,h,_=>by cases t<;>simp[zrj]at h
 | 1,f,t,fs,ρ,o0,x,p,h,hf=>by
  cases t with
  |pair a b=>
   cases b<;>first | (simp[zrj]at h;done) | skip
   simp only[zrj,xaq]at h;subst h;match f with
   | 0=>simp only[zkj,xaq]at hf;subst hf;exact⟨a,x.1,0,rfl,rfl,rfl,trivial,by simp[zey]⟩
   |f+1=>simp[zkj]at hf
  |_=>simp[zrj]at h
 | 2,f,t,fs,ρ,o0,x,p,h,hf=>by
  cases t with
  |pair a b=>
   simp only[zrj,xaq]at h;subst h;match f with
   | 0=>simp only[zkj,xaq]at hf;subst hf;exact⟨a,x.1,0,rfl,rfl,rfl,trivial,by simp[zey]⟩
   | 1=>simp only[zkj,xaq]at hf;subst hf;exact⟨b,x.2,a.size,rfl,rfl,by simp[zbo],trivial,by simp[zey]⟩
   |f+2=>simp[zkj]at hf
  |_=>simp[zrj]at h
 |n+3,f,t,fs,ρ,o0,x,p,h,hf=>by
  cases t with
  |pair a b=>
   simp only[zrj,xac]at h;obtain⟨fs',h1,rfl⟩:=h;match f with
   | 0=>simp only[zkj,xaq]at hf;subst hf;exact⟨a,x.1,0,rfl,rfl,rfl,trivial,by simp[zey]⟩
   |f+1=>simp only[zkj,xac]at hf;obtain⟨ρ',h2,rfl⟩:=hf;obtain⟨u,y,o,h3,h4,h5,h6,h7⟩:=zhk (S:=S) (o0:=o0+a.size) (x:=x.2) (p:=px p 1) h1 h2;exact⟨u,y,a.size+o,by simpa using h3,h4,by simp[zbo,h5],h6,by rw[<-xdk];simpa[zey]using h7⟩
  |_=>simp[zrj]at h
def cden:(t:Ty)->List Value->Option (t.den×List Value)
 | .int k,.int k' n::r=>if k=k'/\k.wrap n=n then some (n,r)else none
 | .bool,.bool b::r=>some (b,r)
 | .str,.string s::r=>if s.data.toList.length<=zpf then some (s.data.toList.map (λc=>(c.toNat:Int)),r)else none
 | .unit,r=>some ((),r)
 | .pair a b,r=>match cden a r with
  |some (x,r)=>match cden b r with
   |some (y,r)=>some ((x,y),r)
   |none=>none
  |none=>none
 | .arr n t,r=>cdenA (cden t) n r
 | .slice t,.slice none 0 0::r=>if 0<t.size then some ([],r)else none
 | .alt _ _ b,r=>if b.size=1 then match cden b r with
  |some (z,r)=>some (.inr z,r)
  |none=>none else none
 | .nilI,.nilIface::r=>some ((),r)
 |_,_=>none
where
 cdenA {α:Type} (f:List Value->Option (α×List Value)):Nat->List Value->Option (List α×List Value)
  | 0,r=>some ([],r)
  |n+1,r=>match f r with
   |some (x,r)=>match cdenA f n r with
    |some (xs,r)=>some (x::xs,r)
    |none=>none
   |none=>none
section
variable {P:Program}
def zwx{S:St}:∀{t:Ty} {l r:List Value} {x:t.den} {p:Place} {cs:Cs},cden t l=some (x,r)->(∀i,i<t.size->cs i=l[i]?)->r=l.drop t.size/\t.size<=l.length/\Rel P t S .sh p x cs:=by
 intro t;induction t with
 |int k=>
  intro l r x p cs h hc;cases l with
  |nil=>simp[cden]at h
  |cons v l=>
   have h0:=hc 0 Nat.one_pos;cases v<;>simp only[cden]at h<;>first | (cases h;done) | skip
   split at h;·rename_i hk;obtain⟨rfl,hk⟩:=hk;cases h;exact⟨rfl,by simp[Ty.size],h0,hk⟩
   ·cases h
 |bool=>
  intro l r x p cs h hc;cases l with
  |nil=>simp[cden]at h
  |cons v l=>
   have h0:=hc 0 Nat.one_pos;cases v<;>simp only[cden]at h<;>first | (cases h;done) | skip
   cases h;exact⟨rfl,by simp[Ty.size],h0⟩
 |str=>
  intro l r x p cs h hc;cases l with
  |nil=>simp[cden]at h
  |cons v l=>
   have h0:=hc 0 Nat.one_pos;cases v<;>simp only[cden]at h<;>first | (cases h;done) | skip
   split at h;·rename_i s hs;cases h;exact⟨rfl,by simp[Ty.size],s,h0,rfl,by simpa using hs⟩
   ·cases h
 |unit=>intro l r x p cs h hc;simp only[cden]at h;cases h;exact⟨rfl,xbx _,trivial⟩
 |nilI=>
  intro l r x p cs h hc;cases l with
  |nil=>simp[cden]at h
  |cons v l=>
   have h0:=hc 0 Nat.one_pos;cases v<;>simp only[cden]at h<;>first | (cases h;done) | skip
   cases h;exact⟨rfl,by simp[Ty.size],h0⟩
 |slice t ih=>
  intro l r x p cs h hc;have h0:=hc 0 Nat.one_pos;match l with
  | []=>simp[cden]at h
  | .slice none 0 0::l=>
   simp only[cden]at h;split at h;·rename_i hs;cases h;exact⟨rfl,by simp[Ty.size],xbx _,hs,none,0,0,h0,rfl,xag _,.inl ⟨rfl,rfl⟩⟩
   ·cases h
  | .slice (some _) _ _::l=>simp[cden]at h
  | .slice none (_+1) _::l=>simp[cden]at h
  | .slice none 0 (_+1)::l=>simp[cden]at h
  | .bool _::l=>simp[cden]at h
  | .int _ _::l=>simp[cden]at h
  | .float _ _::l=>simp[cden]at h
  | .complex _ _ _::l=>simp[cden]at h
  | .string _::l=>simp[cden]at h
  | .pointer _::l=>simp[cden]at h
  | .map _::l=>simp[cden]at h
  | .chan _::l=>simp[cden]at h
  | .func _ _ _::l=>simp[cden]at h
  | .nilFunc::l=>simp[cden]at h
  | .iface _ _::l=>simp[cden]at h
  | .nilIface::l=>simp[cden]at h
  | .agg _::l=>simp[cden]at h
  | .tuple _::l=>simp[cden]at h
 |pair a b iha ihb=>
  intro l r x p cs h hc;simp only[Ty.size]at hc;simp only[cden]at h;split at h
  ·rename_i y r1 h1;split at h
   ·rename_i z r2 h2;cases h;obtain⟨h3,h4,h5⟩:=iha (p:=px p 0) (cs:=cs) h1 λi hi=>hc i (by omega);subst h3;obtain⟨h6,h7,h8⟩:=ihb (p:=px p 1) (cs:=λi=>cs (a.size+i)) h2 λi hi=>by rw[xix];exact hc _ (by omega)
    simp at h7;exact⟨by rw[h6,xje];rfl,by simp only[Ty.size];omega,h5,h8⟩
   ·cases h
  ·cases h
 |arr n t ih=>
  intro l r x p cs h hc;have key:∀(n:Nat) (l r:List Value) (x:List t.den) (k:Nat),cden.cdenA (cden t) n l=some (x,r)->(∀i,i<n*t.size->cs (k*t.size+i)=l[i]?)->x.length=n/\r=l.drop (n*t.size)/\n*t.size<=l.length/\∀(i:Nat) (h:i<x.length),Rel P t S .sh (px p (k+i)) x[i] (λj=>cs ((k+i)*t.size+j)):=by
   intro n;induction n with
   |zero=>intro l r x k h hc;simp only[cden.cdenA]at h;grind
   |succ n ihn=>
    intro l r x k h hc;simp only[cden.cdenA]at h;split at h
    ·rename_i y r1 h1;split at h
     ·rename_i ys r2 h2;cases h;have hs:(n+1)*t.size=t.size+n*t.size:=by rw[xco];omega
      obtain⟨h3,h4,h5⟩:=ih (p:=px p k) (cs:=λj=>cs (k*t.size+j)) h1 λi hi=>hc i (by omega);subst h3;obtain⟨h6,h7,h8,h9⟩:=ihn _ _ _ (k+1) h2 λi hi=>by grind
      simp at h8;refine⟨by simp[h6],by rw[h7,xje,hs],by omega,λi hi=>?_⟩;grind
     ·cases h
    ·cases h
  simp only[cden]at h;obtain⟨h1,h2,h3,h4⟩:=key n l r x 0 h λi hi=>by rw[xfr,xck];exact hc i hi
  refine⟨h2,h3,h1,λi hi=>?_⟩;grind
 |alt tid a b iha ihb=>
  intro l r x p cs h hc;simp only[cden]at h;split at h;case isFalse=>cases h
  rename_i hb;split at h;·rename_i z r1 h1;cases h;obtain⟨h2,h3,h4⟩:=ihb (p:=px p 1) (cs:=cs) h1 λi hi=>hc i (by simp only[Ty.size];omega);rw[hb]at h2 h3;exact⟨h2,h3,hb,h4⟩
  ·cases h
 |ptr t=>intro l r x p cs h hc;cases l<;>simp[cden]at h
 |fn1 a r=>intro l r x p cs h hc;cases l<;>simp[cden]at h
 |fn2 a b r=>intro l r x p cs h hc;cases l<;>simp[cden]at h
def cval(t:Ty)(v:Value):Option t.den:=
 match cden t v.cells.toList with
 |some (x,[])=>if t.agg then(match v with | .agg _=>some x | _=>none)else match v with | .agg _=>none | _=>some x
 |_=>none
def zdd{S:St}{t:Ty}{v:Value}{x:t.den}{p:Place}(h:cval t v=some x):SR P t S .sh p x v:=by
 unfold cval at h;split at h
 ·rename_i x' hx;split at h
  ·rename_i ha;split at h
   ·rename_i cs;cases h;obtain⟨h1,h2,h3⟩:=zwx (P:=P) (S:=S) (p:=p) (cs:=λi=>cs[i]?) hx λi _=>by simp[Value.cells]
    refine⟨?_,λ_=>⟨cs,rfl,?_⟩⟩;·unfold zab;rw[if_pos ha];exact h3
    ·have:=xbr List.length h1;simp only[Value.cells,xee,xeq,xcj]at this h2;omega
   ·cases h
  ·rename_i ha;have hs:t.size=1:=by cases t<;>first | rfl | exact absurd rfl ha
   have key:v.cells=#[v]->SR P t S .sh p x' v:=λhv=>by
    rw[hv]at hx;obtain⟨h1,h2,h3⟩:=zwx (P:=P) (S:=S) (p:=p) (cs:=λi=>if i=0 then some v else none) hx λi hi=>by grind
    refine⟨?_,λh=>absurd h ha⟩;unfold zab;rw[if_neg ha];exact h3
   split at h;·cases h
   ·rename_i hv;cases h;exact key (by cases v<;>first | rfl | exact absurd rfl (hv _))
 ·cases h
end
abbrev Tab:=List (TypeId×TyI×Ty)
def tl:Tab->TypeId->Option (TyI×Ty)
 | [],_=>none
 |(i,y,t)::r,id=>if id=i then some (y,t)else tl r id
def zgh(T:Tab)(k:TyK)(t:Ty):Bool:=
 match k with
 | .int k=>match t with | .int k'=>decide (k=k') | _=>false
 | .bool=>match t with | .bool=>true | _=>false
 | .string=>match t with | .str=>true | _=>false
 | .slice e=>match t,tl T e with | .slice s,some (_,s')=>decide (s=s')&&decide (0<s.size) | _,_=>false
 | .array n e=>match t,tl T e with | .arr n' s,some (_,s')=>decide (n=n')&&decide (s=s') | _,_=>false
 | .struct offs=>match zrj offs.length t with | some fs=>decide (offs=zey 0 fs) | none=>false
 | .iface=>match t with | .alt .. | .nilI=>true | _=>false
 | .other=>match t with | .ptr _ | .fn1 .. | .fn2 ..=>true | _=>false
def agree(T:Tab)(i:TyI)(t:Ty):Bool:=decide (i.size=t.size)&&decide (i.agg=t.agg)&&zgh T i.k t
def TabOK(P:Program)(T:Tab):Prop:=∀id i t,tl T id=some (i,t)->ty P id=some i/\agree T i t=true
def Ty.isSlice:Ty->Bool
 | .slice _=>true
 |_=>false
inductive Opd where
 |slot (t:Nat) (c:Slot) (root:Slot)
 |con (v:Value)
 |fn (f:Nat)
 |bad
def zdj(σ:Env):Ent->Slot
 | .ref r _ _=>σ r
 | .view r _ _=>σ r
 | .tail r _ _=>σ r
 | .rbox r _ _=>σ r
 |_=>⟨.dead,0,0⟩
def zar(σ:Env):Operand->Opd
 | .tmp t=>.slot t (σ t) (zdj σ (σ t).e)
 | .const v=>.con v
 | .func f=>.fn f
 | .global _=>.bad
structure Pl where
 r:Nat
 c:Slot
 t:Ty
 m:Md
 x:t.den
 π:List Nat
def zri(c:Slot)(t:Ty)(π:List Nat)(s:Nat):Bool:=if zjr π t then decide (c.h=s)else decide (c.g=s)
def Opd.place:Opd->Option Pl
 | .slot t c root=>match c.e with
  | .v (.ptr u) (.own e m) x=>some ⟨t,c,.ptr u,.own e m,x,[0]⟩
  | .ref r π s=>match root.e with
   | .v tr mr xr=>if zri root tr π s then some ⟨r,root,tr,mr,xr,π⟩else none
   |_=>none
  |_=>none
 |_=>none
def Opd.splace:Opd->Option Pl
 | .slot t c root=>match c.e with
  | .v (.slice u) (.own e m) x=>some ⟨t,c,.slice u,.own e m,x,[]⟩
  | .view r π s=>match root.e with
   | .v tr mr xr=>if root.h=s/\tr.isAlt=false then some ⟨r,root,tr,mr,xr,π⟩else none
   |_=>none
  |_=>none
 |_=>none
def Opd.val(o:Opd)(t:Ty):Option (Md×t.den):=
 match o with
 | .con v=>(cval t v).map λx=>(.sh,x)
 | .slot _ c root=>match c.e with
  | .v t' m x=>(TV.to ⟨t',x⟩ t).map λx=>(m,x)
  | .view _ π s=>match root.e with
   | .v tr mr xr=>if root.h=s/\t.isSlice=true then match zbr π tr mr,zcc π tr xr with
    |some (.own e k),some y=>(y.to t).map λx=>(.own e k,x)
    |_,_=>none else none
   |_=>none
  |_=>none
 |_=>none
section
variable {P:Program} {c:Ctx} {σ:Env} {a:Act} {S:St}
def InvOf.ent(h:InvOf P c σ a S)(t:Nat):SlotOK P S σ (tmv a) t:=h.slots t
def SlotOK.ref{tm:Nat->Value}{t r:Nat}{π:List Nat}{s:Nat}(h:SlotOK P S σ tm t)(he:(σ t).e=.ref r π s):RefOK S σ r π s (tm t):=by unfold SlotOK at h;rw[he]at h;exact h
def SlotOK.view{tm:Nat->Value}{t r:Nat}{π:List Nat}{s:Nat}(h:SlotOK P S σ tm t)(he:(σ t).e=.view r π s):ViewOK S σ tm r π s (tm t):=by unfold SlotOK at h;rw[he]at h;exact h
def zrh{c:Slot}{t:Ty}{π:List Nat}{s:Nat}:zri c t π s=true↔gen c t π s:=by unfold zri gen;split<;>simp
def InvOf.place(h:InvOf P c σ a S){o:Operand}{p:Pl}(hp:(zar σ o).place=some p) :
  (σ p.r).e=.v p.t p.m p.x/\p.c=σ p.r/\p.π≠ []/\okP S p.π p.t (p.r,[])/\∃q off b,zbo p.π p.t=some (some q,off)/\hvB (S.hv (p.r,q))=some b/\a.eval o=.pointer (some ⟨b,off,none⟩):=by
 cases o with
 |const v=>simp[zar,Opd.place]at hp
 |func f=>simp[zar,Opd.place]at hp
 |global g=>simp[zar,Opd.place]at hp
 |tmp t=>
  simp only[zar,Opd.place]at hp;split at hp
  ·rename_i u e m x he;cases hp;have hs:=h.slot he;obtain⟨⟨h0,g,cur,e',h1,h2,h3,h4,h5⟩,_⟩:=hs;refine⟨he,rfl,by simp,trivial,[],0,g,by simp[zbo],by rw[h1];rfl,?_⟩;have:zab (.ptr u) (tmv a t) 0=some (tmv a t):=by simp[zab,Ty.agg]
   rw[this]at h0;rw[zbf,xbi h0,h1]
  ·rename_i r π s he;have hr:zdj σ (σ t).e=σ r:=by rw[he];rfl
   rw[hr]at hp;split at hp
   ·rename_i tr mr xr ha;split at hp;·rename_i hg;cases hp;obtain⟨_,h2⟩:=(h.ent t).ref he;obtain⟨q,o,b,h3,h4,h5,h6⟩:=h2 tr mr xr ha (zrh.1 hg);exact⟨ha,rfl,by rintro rfl;simp[zbo]at h3,h4,q,o,b,h3,h5,by rw[zbf,h6]⟩
    ·cases hp
   ·cases hp
  ·cases hp
def InvOf.splace(h:InvOf P c σ a S){o:Operand}{p:Pl}(hp:(zar σ o).splace=some p) :
  (σ p.r).e=.v p.t p.m p.x/\p.c=σ p.r/\okP S p.π p.t (p.r,[])/\a.eval o=S.hv (p.r,p.π):=by
 cases o with
 |const v=>simp[zar,Opd.splace]at hp
 |func f=>simp[zar,Opd.splace]at hp
 |global g=>simp[zar,Opd.splace]at hp
 |tmp t=>
  simp only[zar,Opd.splace]at hp;split at hp
  ·rename_i u e m x he;cases hp;obtain⟨⟨_,_,h0,_⟩,_⟩:=h.slot he;have:zab (.slice u) (tmv a t) 0=some (tmv a t):=by simp[zab,Ty.agg]
   rw[this]at h0;exact⟨he,rfl,trivial,by rw[zbf];exact xbi h0⟩
  ·rename_i r π s he;have hr:zdj σ (σ t).e=σ r:=by rw[he];rfl
   rw[hr]at hp;split at hp
   ·rename_i tr mr xr ha;split at hp;·rename_i hg;cases hp;obtain⟨_,h2⟩:=(h.ent t).view he;obtain⟨h3,_,h4⟩:=h2 tr mr xr ha hg.1;exact⟨ha,rfl,h3,by rw[zbf,h4 hg.2]⟩
    ·cases hp
   ·cases hp
  ·cases hp
def zon{t:Ty}{x:t.den}{π:List Nat}{y:TV}(hg:zcc π t x=some y)(hy:y.t.isAlt=false):t.isAlt=false:=by
 cases t<;>first | rfl | skip
 cases π with
 |nil=>simp only[zcc,xaq]at hg;rw[<-hg]at hy;cases hy
 |cons i π=>simp[zcc]at hg
def InvOf.hdr(h:InvOf P c σ a S){r:Nat}{u:Ty}{e:TypeId}{m:Md}{x:List u.den}(he:(σ r).e=.v (.slice u) (.own e m) x):tmv a r=S.hv (r,[]):=by
 obtain⟨⟨_,_,h0,_⟩,_⟩:=h.slot he;have:zab (.slice u) (tmv a r) 0=some (tmv a r):=by simp[zab,Ty.agg]
 grind
def InvOf.val(h:InvOf P c σ a S){o:Operand}{t:Ty}{m:Md}{x:t.den}(hv:(zar σ o).val t=some (m,x)):∃p,SR P t S m p x (a.eval o):=by
 cases o with
 |const v=>simp only[zar,Opd.val,xac,xaw]at hv;obtain⟨y,h1,rfl,rfl⟩:=hv;exact⟨(0,[]),zdd h1⟩
 |func f=>simp[zar,Opd.val]at hv
 |global g=>simp[zar,Opd.val]at hv
 |tmp s=>
  simp only[zar,Opd.val]at hv;split at hv;·rename_i t' m' x' he;simp only[xac,xaw]at hv;obtain⟨y,h1,rfl,rfl⟩:=hv;have:=TV.to_some h1;cases this;exact⟨_,h.slot he⟩
  ·rename_i r π s' he;have hr:zdj σ (σ s).e=σ r:=by rw[he];rfl
   rw[hr]at hv;split at hv
   ·rename_i tr mr xr ha;split at hv
    ·rename_i hg;split at hv
     ·rename_i e k y hm hb;simp only[xac,xaw]at hv;obtain⟨z,h1,rfl,rfl⟩:=hv;have:=TV.to_some h1;subst this;obtain⟨_,h2⟩:=(h.ent s).view he;obtain⟨h3,_,h4⟩:=h2 tr mr xr ha hg.1;have h4:=h4 (zon hb (by have h9:=hg.2;show t.isAlt=false;cases t<;>first | rfl | cases h9));obtain⟨u,y,l,cs',h5,h6,h7,h8⟩:=Rel.at (h.slot ha).1 hm h3;rw[hb]at h5;cases h5;rw[zbt]at h7;refine⟨(r,π),?_⟩;rw[zbf,h4];cases t<;>first | (have:=hg.2;cases this;done) | skip
      refine⟨h7.mono (q:=true) (.inl rfl) ⟨λ_ h=>h,λ_ _=>rfl,λ_ _ h=>.inr h,λ_ _ _=>rfl,λ_=>rfl,λ_ _ h=>⟨h,rfl⟩⟩ λi hi=>?_,λh=>by cases h⟩;have:i=0:=by simp only[Ty.size]at hi;omega
      subst this;rw[h7.2.2.1];rfl
     ·cases hv
    ·cases hv
   ·cases hv
  ·cases hv
end
def Ty.flat:Ty->Bool
 | .int _ | .bool | .str | .unit | .nilI=>true
 | .pair a b=>a.flat&&b.flat
 | .arr _ t=>t.flat
 | .alt _ a b=>a.flat&&b.flat
 |_=>false
def nm(t:Ty)(m:Md):Md:=if t.flat&&zkh t m then .sh else m
def ires(k:IntKind)(n:Int):TV:=⟨.int k,k.wrap n⟩
def bres(b:Bool):TV:=⟨.bool,b⟩
def iop(op:BinOp)(k:IntKind)(x y:Int):Option (Bool×TV):=
 match op with
 | .add=>some (true,ires k (x+y))
 | .sub=>some (true,ires k (x-y))
 | .mul=>some (true,ires k (x*y))
 | .quo=>some (!decide (y=0),ires k (x.tdiv y))
 | .rem=>some (!decide (y=0),ires k (x.tmod y))
 | .and=>some (true,ires k (BitVec.ofInt k.bits x&&&BitVec.ofInt k.bits y).toNat)
 | .or=>some (true,ires k (BitVec.ofInt k.bits x|||BitVec.ofInt k.bits y).toNat)
 | .xor=>some (true,ires k (BitVec.ofInt k.bits x ^^^ BitVec.ofInt k.bits y).toNat)
 | .andNot=>some (true,ires k (BitVec.ofInt k.bits x&&& ~~~(BitVec.ofInt k.bits y)).toNat)
 | .eql=>some (true,bres (decide (x=y)))
 | .neq=>some (true,bres (!decide (x=y)))
 | .lss=>some (true,bres (decide (x<y)))
 | .leq=>some (true,bres (decide (x<=y)))
 | .gtr=>some (true,bres (decide (y<x)))
 | .geq=>some (true,bres (decide (y<=x)))
 |_=>none
def bin2(op:BinOp)(a b:TV):Option (Bool×TV):=
 match a,b with
 |⟨.int k,x⟩,⟨.int k',y⟩=>match op with
  | .shl=>some (decide (0<=(y:Int)),ires k ((x:Int)*2^(min (y:Int).toNat k.bits)))
  | .shr=>some (decide (0<=(y:Int)),ires k ((x:Int).fdiv (2^(min (y:Int).toNat k.bits))))
  |op=>if k=k' then iop op k x y else none
 |⟨.bool,x⟩,⟨.bool,y⟩=>match op with
  | .eql=>some (true,bres ((x:Bool) == y))
  | .neq=>some (true,bres (!((x:Bool) == y)))
  |_=>none
 |⟨.str,x⟩,⟨.str,y⟩=>match op with
  | .eql=>some (true,bres (decide ((x:List Int)=y)))
  | .neq=>some (true,bres (!decide ((x:List Int)=y)))
  |_=>none
 |_,_=>none
def eqTV:Nat->(a b:Ty)->a.den->b.den->Option Bool
 | 1,.pair (.int k) .unit,.pair (.int k') .unit,x,y=>if k=k' then some (decide ((x.1:Int)=y.1))else none
 | 2,.pair (.int k) (.int l),.pair (.int k') (.int l'),x,y=>if k=k'/\l=l' then some (decide ((x.1:Int)=y.1)&&decide ((x.2:Int)=y.2))else none
 |n+3,.pair (.int k) b,.pair (.int k') b',x,y=>if k=k' then(eqTV (n+2) b b' x.2 y.2).map λr=>decide ((x.1:Int)=y.1)&&r else none
 |_,_,_,_,_=>none
def un1(op:UnOp)(a:TV):Option TV:=
 match op,a with
 | .not,⟨.bool,b⟩=>some (bres !b)
 | .neg,⟨.int k,n⟩=>some (ires k (0-(n:Int)))
 | .xor,⟨.int k,n⟩=>some (ires k (BitVec.ofInt k.bits (if k.signed then -1 else k.max) ^^^ BitVec.ofInt k.bits (n:Int)).toNat)
 |_,_=>none
section
variable {P:Program}
def wrap_wrap(k:IntKind)(n:Int):k.wrap (k.wrap n)=k.wrap n:=by cases k<;>simp only[IntKind.wrap,IntKind.bits,IntKind.signed]<;>simp<;>(repeat' split)<;>omega
def zmi(k:IntKind){n:Int}(h:k.wrap n=n):k.min<=n/\n<=k.max:=by cases k<;>simp only[IntKind.wrap,IntKind.bits,IntKind.signed,IntKind.min,IntKind.max]at h⊢ <;>simp at h⊢ <;>(repeat' split at h)<;>omega
def zib(k:IntKind){n:Int}(h0:k.min<=n)(h1:n<=k.max):k.wrap n=n:=by cases k<;>simp only[IntKind.wrap,IntKind.bits,IntKind.signed,IntKind.min,IntKind.max]at h0 h1⊢ <;>simp at h0 h1⊢ <;>(repeat' split)<;>omega
def SR.int_inv{k:IntKind}{S:St}{m:Md}{p:Place}{x:Int}{v:Value}(h:SR P (.int k) S m p x v)(hm:m≠ .dead):v=.int k x/\k.wrap x=x:=by
 have h1:zab (.int k) v 0=some (.int k x)/\k.wrap x=x:=by cases m<;>first | exact absurd rfl hm | exact h.1
 simpa[zab,Ty.agg]using h1
def SR.bool_inv{S:St}{m:Md}{p:Place}{x:Bool}{v:Value}(h:SR P .bool S m p x v)(hm:m≠ .dead):v=.bool x:=by
 have h1:zab .bool v 0=some (.bool x):=by cases m<;>first | exact absurd rfl hm | exact h.1
 simpa[zab,Ty.agg]using h1
def SR.str_inv{S:St}{m:Md}{p:Place}{x:List Int}{v:Value}(h:SR P .str S m p x v)(hm:m≠ .dead):∃s:ByteArray,v=.string s/\s.data.toList.map (λc=>(c.toNat:Int))=x/\x.length<=zpf:=by
 have h1:∃s:ByteArray,zab .str v 0=some (.string s)/\s.data.toList.map (λc=>(c.toNat:Int))=x/\x.length<=zpf:=by cases m<;>first | exact absurd rfl hm | exact h.1
 obtain⟨s,h2,h3⟩:=h1;exact⟨s,by simpa[zab,Ty.agg]using h2,h3⟩
def SR.of_int{k:IntKind}{S:St}{p:Place}(n:Int):SR P (.int k) S .sh p (k.wrap n) (.int k (k.wrap n)):=⟨⟨by simp[zab,Ty.agg],wrap_wrap k n⟩,λh=>by cases h⟩
def SR.of_int'{k:IntKind}{S:St}{p:Place}{n:Int}(h:k.wrap n=n):SR P (.int k) S .sh p n (.int k n):=⟨⟨by simp[zab,Ty.agg],h⟩,λh=>by cases h⟩
def SR.of_bool{S:St}{p:Place}(b:Bool):SR P .bool S .sh p b (.bool b):=⟨by show zab .bool _ 0=_;simp[zab,Ty.agg],λh=>by cases h⟩
def Stands(P:Program)(S:St)(y:TV)(v:Value):Prop:=∀p,SR P y.t S .sh p y.x v
def zeb(P:Program)(S:St)(k:IntKind)(n:Int):Stands P S (ires k n) (.int k (k.wrap n)):=λ_=>SR.of_int n
def zcw(P:Program)(S:St)(b:Bool):Stands P S (bres b) (.bool b):=λ_=>SR.of_bool b
def tmod_wrap(k:IntKind)(x y:Int)(h:k.wrap x=x):k.wrap (x.tmod y)=x.tmod y:=by
 obtain⟨h0,h1⟩:=zmi k h;have hm:(x.tmod y).natAbs<=x.natAbs:=by rw[Int.natAbs_tmod];exact Nat.mod_le _ _
 have hs:0<=x->0<=x.tmod y:=λh=>Int.tmod_nonneg _ h;have hc:x<=0->x.tmod y<=0:=λh=>by have:=Int.tmod_nonneg (a:=-x) y (by omega);simp_all
 have hb:k.min<=0:=by cases k<;>simp[IntKind.min,IntKind.signed,IntKind.bits]
 have ha:0<=k.max:=by cases k<;>simp[IntKind.max,IntKind.signed,IntKind.bits]
 refine zib k ?_ ?_;·grind
 ·grind
def fdiv_wrap(k:IntKind)(x:Int)(n:Nat)(h:k.wrap x=x):k.wrap (x.fdiv (2^n))=x.fdiv (2^n):=by
 obtain⟨h0,h1⟩:=zmi k h;have hp:(0:Int)<2^n:=Int.pow_pos (by omega);have hc:k.min<=0:=by cases k<;>simp[IntKind.min,IntKind.signed,IntKind.bits]
 have hb:0<=k.max:=by cases k<;>simp[IntKind.max,IntKind.signed,IntKind.bits]
 rw[xiq _ (xja hp)];have h2:=Int.mul_ediv_add_emod x (2^n);have h3:=Int.emod_nonneg x (Int.ne_of_gt hp);have h4:=xkh x hp;generalize x/2^n=q at *;generalize(2:Int)^n=p at *;have ha:∀(q:Int),0<=q->q<=p*q:=λq hq=>by have:=Int.mul_le_mul_of_nonneg_right (show(1:Int)<=p from hp) hq;omega
 refine zib k ?_ ?_
 ·rcases Int.le_total 0 q with h|h
  ·omega
  ·have h5:=ha (-q) (by omega);rw[Int.mul_neg]at h5;rcases Int.le_total 0 x with hx|hx
   ·have hq:¬q<0:=λh6=>by have:=ha (-q-1) (by omega);grind
    grind
   ·have:q<0\/q=0:=by omega
    rcases this with h6|h6
    ·have:=ha (-q-1) (by omega);grind
    ·omega
 ·rcases Int.le_total 0 q with h|h
  ·grind
  ·omega
def zmc{S:St}{k:IntKind}{n:Int}(h:k.wrap n=n):Stands P S (ires k n) (.int k n):=λp=>by have:=SR.of_int (P:=P) (S:=S) (p:=p) (k:=k) n;rw[h]at this;show SR P (.int k) S .sh p (k.wrap n) (.int k n);rw[h];exact this
def run_iop{S:St}{op:BinOp}{k:IntKind}{x y:Int}{ob:Bool}{z:TV}(h:iop op k x y=some (ob,z))(hob:ob=true)(hx:k.wrap x=x)(t:TypeId)(w:World) :
  ∃v,(binOp op t (.int k x) (.int k y)).run P w=.ok v w/\Stands P S z v:=by
 unfold iop at h;split at h<;>first|(cases h;done)|(simp only[xaq,xaw]at h;obtain⟨rfl,rfl⟩:=h)
 ·exact⟨_,by simp[binOp,Op.intArith],zeb P S k _⟩
 ·exact⟨_,by simp[binOp,Op.intArith],zeb P S k _⟩
 ·exact⟨_,by simp[binOp,Op.intArith],zeb P S k _⟩
 ·have hy:y≠0:=by simpa using hob
  exact⟨_,by simp[binOp,Op.intDiv,hy]<;>rfl,zeb P S k _⟩
 ·have hy:y≠0:=by simpa using hob
  exact⟨.int k (x.tmod y),by simp[binOp,Op.intDiv,hy],zmc (tmod_wrap k x y hx)⟩
 ·exact⟨_,by simp[binOp,Op.intBits]<;>rfl,zeb P S k _⟩
 ·exact⟨_,by simp[binOp,Op.intBits]<;>rfl,zeb P S k _⟩
 ·exact⟨_,by simp[binOp,Op.intBits]<;>rfl,zeb P S k _⟩
 ·exact⟨_,by simp[binOp,Op.intBits]<;>rfl,zeb P S k _⟩
 ·exact⟨.bool (decide (x=y)),by simp[binOp,Op.intCmp]<;>rfl,zcw P S _⟩
 ·exact⟨.bool (!decide (x=y)),by simp[binOp,Op.intCmp]<;>rfl,zcw P S _⟩
 ·exact⟨.bool (decide (x<y)),by simp[binOp,Op.intCmp],zcw P S _⟩
 ·exact⟨.bool (decide (x<=y)),by simp[binOp,Op.intCmp],zcw P S _⟩
 ·exact⟨.bool (decide (y<x)),by simp[binOp,Op.intCmp],zcw P S _⟩
 ·exact⟨.bool (decide (y<=x)),by simp[binOp,Op.intCmp],zcw P S _⟩
def zhl{n:Nat}{t:Ty}{fs:List Ty}(h:zrj n t=some fs):∃a b,t=.pair a b:=by
 cases t<;>first | exact⟨_,_,rfl⟩ | (exfalso;match n,h with
  | 0,h=>simp[zrj]at h
  | 1,h=>simp[zrj]at h
  | 2,h=>simp[zrj]at h
  |n+3,h=>simp[zrj]at h)
def kindOK_bool{T:Tab}{k:TyK}(h:zgh T k .bool=true):k=.bool:=by
 cases k<;>simp only[zgh]at h<;>first | rfl | (cases h;done) | skip
 split at h;·rename_i hf;obtain⟨a,b,h⟩:=zhl hf;cases h
 ·cases h
def zph{T:Tab}{k:TyK}(h:zgh T k .str=true):k=.string:=by
 cases k<;>simp only[zgh]at h<;>first | rfl | (cases h;done) | skip
 split at h;·rename_i hf;obtain⟨a,b,h⟩:=zhl hf;cases h
 ·cases h
def zwh{T:Tab}{k:TyK}{ik:IntKind}(h:zgh T k (.int ik)=true):k=.int ik:=by
 cases k<;>simp only[zgh]at h<;>first | (rw[xbc h];done) | (cases h;done) | skip
 split at h;·rename_i hf;obtain⟨a,b,h⟩:=zhl hf;cases h
 ·cases h
def zdx{T:Tab}{k:TyK}{s:Ty}(h:zgh T k (.slice s)=true):∃e i,k=.slice e/\tl T e=some (i,s)/\0<s.size:=by
 cases k<;>simp only[zgh]at h<;>first | (cases h;done) | skip
 ·grind
 ·split at h;·rename_i hf;obtain⟨a,b,h⟩:=zhl hf;cases h
  ·cases h
def zwi{T:Tab}{k:TyK}{n:Nat}{s:Ty}(h:zgh T k (.arr n s)=true):∃e i,k=.array n e/\tl T e=some (i,s):=by
 cases k<;>simp only[zgh]at h<;>first | (cases h;done) | skip
 ·grind
 ·split at h;·rename_i hf;obtain⟨a,b,h⟩:=zhl hf;cases h
  ·cases h
def zfa{T:Tab}{t:Ty}{offs:List (Nat×Nat)}(h:zgh T (.struct offs) t=true):∃fs,zrj offs.length t=some fs/\offs=zey 0 fs:=by simp only[zgh]at h;grind
def TabOK.kind{T:Tab}(hT:TabOK P T){id:TypeId}{i:TyI}{t:Ty}(h:tl T id=some (i,t)):ty P id=some i/\i.size=t.size/\i.agg=t.agg/\zgh T i.k t=true:=by obtain⟨h1,h2⟩:=hT id i t h;simp only[agree,xal,xak]at h2;grind
def u8_inj{x y:ByteArray}:(x.data.toList=y.data.toList)↔(x.data.toList.map (λc=>(c.toNat:Int))=y.data.toList.map (λc=>(c.toNat:Int))):=by
 refine⟨λh=>by rw[h],λh=>?_⟩;have:∀(l m:List UInt8),l.map (λc=>(c.toNat:Int))=m.map (λc=>(c.toNat:Int))->l=m:=by
  intro l;induction l with
  |nil=>intro m h;cases m<;>simp at h ⊢
  |cons a l ih=>
   intro m h;cases m with
   |nil=>simp at h
   |cons b m=>
    simp at h;rw[ih m h.2];have:a.toNat=b.toNat:=by omega
    rw[UInt8.toNat_inj.1 this]
 exact this _ _ h
def run_bin2{S:St}{op:BinOp}{t:TypeId}{x y z:TV}{m m':Md}{p p':Place}{u v:Value}{ob:Bool}{tt:Tab}(hT:TabOK P tt){i:TyI}(ht:tl tt t=some (i,x.t))(hx:SR P x.t S m p x.x u)(hy:SR P y.t S m' p' y.x v)(hm:m≠ .dead)(hm':m'≠ .dead)
  (h:bin2 op x y=some (ob,z)) (hob:ob=true) (a b:Operand) (w:World) :
  ∃r,(do eqGuard op t a b u v;binOp op t u v:Sem Value).run P w=.ok r w/\Stands P S z r:=by
 have hh:=hT t i x.t ht;obtain⟨j,d,hi,hd,hz,hs,hb,hk⟩:=zbj hh.1;have hc:zgh tt i.k x.t=true:=by have:=hh.2;simp only[agree,xal]at this;exact this.2
 have guard:∀{u v:Value},u≠ .nilIface->(∀cs,u≠ .agg cs)->(eqGuard op t a b u v).run P w=.ok () w:=λ{u v} hu hv=>by unfold eqGuard;simp_all
 unfold bin2 at h;split at h
 ·rename_i k xx k' yy;obtain⟨rfl,hg⟩:=hx.int_inv hm;obtain⟨rfl,hj⟩:=hy.int_inv hm';simp only[Sem.run_bind,guard (show Value.int k xx≠ .nilIface from by simp) (by simp),Result.andThen_ok];split at h;·simp at h;obtain⟨rfl,rfl⟩:=h;have hf:¬(yy:Int)<0:=Int.not_lt.2 (by simpa using hob);exact⟨_,by simp[binOp,Op.shift,hf]<;>rfl,zeb P S k _⟩
  ·simp at h;obtain⟨rfl,rfl⟩:=h;have hf:¬(yy:Int)<0:=Int.not_lt.2 (by simpa using hob);exact⟨_,by simp[binOp,Op.shift,hf]<;>rfl,zmc (fdiv_wrap k _ _ hg)⟩
  ·split at h;·rename_i hk;subst hk;exact run_iop h hob hg t w
   ·cases h
 ·rename_i xx yy;have:=hx.bool_inv hm;subst this;have:=hy.bool_inv hm';subst this;simp;have ha:d=.bool:=tyK_bool (by rw[<-kindOK_bool hc];exact hk);subst ha;split at h<;>first|(cases h;done)|(simp_all;obtain⟨rfl,rfl⟩:=h)
  ·exact⟨_,run_eql_bool (P:=P) w t _ _ hd,zcw P S _⟩
  ·exact⟨_,run_neq_bool (P:=P) w t _ _ hd,zcw P S _⟩
 ·rename_i xx yy;obtain⟨s,rfl,h1,_⟩:=hx.str_inv hm;obtain⟨s',rfl,h2,_⟩:=hy.str_inv hm';simp;have he:(s.toList == s'.toList)=decide ((xx:List Int)=yy):=by rw[xeb,beq_iff_eq,xke,ByteArray.toList_eq,ByteArray.toList_eq,u8_inj,h1,h2]
  split at h<;>first|(cases h;done)|(simp_all;obtain⟨rfl,rfl⟩:=h)
  ·exact⟨_,by rw[binOp_string_eql];rfl,by rw[he];exact zcw P S _⟩
  ·exact⟨_,by rw[binOp_string_neq];rfl,by rw[he];exact zcw P S _⟩
 ·cases h
end
def zke(c:Slot)(t:Ty)(π:List Nat):Nat:=if zjr π t then c.h else c.g
def Pl.deref(p:Pl)(u:Ty):Option Ent:=
 match zbr p.π p.t p.m,zcc p.π p.t p.x with
 |some k,some y=>if y.t=u then
   if k.noown then some (.v y.t (nm y.t k) y.x)else
   match y.t,k with
   | .slice _,.own _ _=>some (.view p.r p.π p.c.h)
   | .ptr _,.own _ _=>some (.ref p.r (p.π++[0]) (zke p.c p.t (p.π++[0])))
   |_,_=>none else none
 |_,_=>none
def Opd.ro:Opd->Option TM
 | .slot _ c _=>match c.e with
  | .v (.ptr u) .sh x=>some ⟨u,.sh,x⟩
  | .v (.ptr u) .bw x=>some ⟨u,.bw,x⟩
  |_=>none
 |_=>none
def zjh(T:Tab)(ty:TypeId)(o:Opd):Option Ent:=
 match o with
 | .con v=>match tl T ty with
  |some (_,t)=>(cval t v).map λx=>.v t .sh x
  |none=>none
 | .slot s c _=>match c.e with
  | .v t m x=>if m.noown then some (.v t m x)else match t,m with
   | .slice _,.own _ _=>some (.view s [] c.h)
   | .ptr _,.own _ _=>some (.ref s [0] c.g)
   |_,_=>none
  | .ref r π s=>some (.ref r π s)
  | .view r π s=>some (.view r π s)
  | .clo f caps=>some (.clo f caps)
  |_=>none
 | .fn f=>some (.clo f [])
 | .bad=>none
def Opd.ival:Opd->Option (IntKind×Int)
 | .con (.int k n)=>if k.wrap n=n then some (k,n)else none
 | .slot _ c _=>match c.e with
  | .v (.int k) .sh n=>some (k,n)
  | .v (.int k) .bw n=>some (k,n)
  |_=>none
 |_=>none
def zld(T:Tab)(s f:Nat)(o:Opd):Option Ent:=
 match tl T s with
 |some (i,ts)=>match i.k with
  | .struct offs=>match offs[f]?,zkj offs.length f with
   |some (_,sz),some ρ=>if sz=0 then none else
    match o.place with
    |some p=>match zcc p.π p.t p.x with
     |some y=>if y.t=ts then some (.ref p.r (p.π++ρ) (zke p.c p.t (p.π++ρ)))else none
     |none=>none
    |none=>match o.ro with
     |some e=>if e.t=ts then match zcc ρ e.t e.x with
      |some y=>some (.v (.ptr y.t) e.m y.x)
      |none=>none else none
     |none=>none
   |_,_=>none
  |_=>none
 |none=>none
def fieldV(T:Tab)(s f:Nat)(o:Opd):Option Ent:=
 match tl T s with
 |some (i,ts)=>match i.k with
  | .struct offs=>match offs[f]?,zkj offs.length f,i.fa[f]? with
   |some (_,_),some ρ,some (some g)=>match o.val ts with
    |some (m,x)=>if m=.sh\/m=.bw then match zcc ρ ts x with
     |some y=>if y.t.agg=g then some (.v y.t m y.x)else none
     |none=>none else none
    |none=>none
   |_,_,_=>none
  |_=>none
 |none=>none
def indexV(T:Tab)(t:Nat)(o:Opd)(ix:Opd):Option (Bool×Ent):=
 match tl T t,ix.ival with
 |some (_,.arr n u),some (_,i)=>match o.val (.arr n u)with
  |some (m,xs)=>if m=.sh\/m=.bw then some (decide (0<=i)&&decide (i<(n:Int)),.v u m (xs.getD i.toNat u.dflt))else none
  |none=>none
 |_,_=>none
def indexE(T:Tab)(t:Nat)(o:Opd)(ix:Opd):Option (Bool×Ent):=
 match tl T t,ix.ival with
 |some (_,.slice u),some (_,i)=>match o.splace with
  |some p=>match zbr p.π p.t p.m,zcc p.π p.t p.x with
   |some (.own _ _),some ⟨.slice u',xs⟩=>if u'=u then some (decide (0<=i)&&decide (i<(xs.length:Int)),.ref p.r (p.π++[i.toNat]) (zke p.c p.t (p.π++[i.toNat])))else none
   |_,_=>none
  |none=>match o.val (.slice u)with
   |some (.sh,xs)=>some (decide (0<=i)&&decide (i<(xs.length:Int)),.v (.ptr u) .sh (xs.getD i.toNat u.dflt))
   |some (.bw,xs)=>some (decide (0<=i)&&decide (i<(xs.length:Int)),.v (.ptr u) .bw (xs.getD i.toNat u.dflt))
   |_=>none
 |some (_,.arr n u),some (_,i)=>match o.place with
  |some p=>match zcc p.π p.t p.x with
   |some y=>if y.t=.arr n u then some (decide (0<=i)&&decide (i<(n:Int)),.ref p.r (p.π++[i.toNat]) (zke p.c p.t (p.π++[i.toNat])))else none
   |none=>none
  |none=>match o.ro with
   |some ⟨.arr n' u',m,xs⟩=>if n'=n/\u'=u then some (decide (0<=i)&&decide (i<(n:Int)),.v (.ptr u') m (xs.getD i.toNat u'.dflt))else none
   |_=>none
 |_,_=>none
def Opd.rb:Opd->Option (Nat×List Nat×Nat)
 | .slot _ c _=>match c.e with
  | .rbox r π s=>some (r,π,s)
  |_=>none
 |_=>none
def loadE(T:Tab)(t:Nat)(o:Opd):Option Ent:=
 match o.rb with
 |some (r,π,s)=>match tl T t with
  |some (_,.ptr _)=>some (.ref r π s)
  |_=>none
 |none=>match tl T t with
 |some (_,u)=>match o.place with
  |some p=>p.deref u
  |none=>match o.ro with
   |some e=>if e.t=u then some (.v e.t (nm e.t e.m) e.x)else none
   |none=>none
 |none=>none
def lenE(T:Tab)(t:Nat)(o:Opd):Option Ent:=
 match tl T t with
 |some (_,.slice u)=>match o.val (.slice u)with
  |some (m,xs)=>if m=.dead then none else some (.v (.int .i64) .sh (xs.length:Int))
  |none=>none
 |some (_,.str)=>match o.val .str with
  |some (m,x)=>if m=.dead then none else some (.v (.int .i64) .sh ((x:List Int).length:Int))
  |none=>none
 |_=>none
def zfj(T:Tab)(o:Oper)(l:Operand->Opd):Option (Bool×Ent):=
 match o.op with
 | .move x=>(zjh T o.type (l x)).map λe=>(true,e)
 | .binOp op t x y t'=>match tl T t,tl T t' with
  |some (_,a),some (_,b)=>match(l x).val a,(l y).val b with
   |some (m,u),some (m',v)=>if m=.dead\/m'=.dead then none else(bin2 op ⟨a,u⟩ ⟨b,v⟩).map λq=>(q.1,.v q.2.t .sh q.2.x)
   |_,_=>none
  |_,_=>none
 | .unOp op t x=>match tl T t with
  |some (_,a)=>match(l x).val a with
   |some (m,u)=>if m=.dead then none else(un1 op ⟨a,u⟩).map λq=>(true,.v q.t .sh q.x)
   |none=>none
  |none=>none
 | .convert s d x=>match tl T s,tl T d with
  |some (_,.int k),some (_,.int k')=>match(l x).val (.int k)with
   |some (m,n)=>if m=.dead then none else some (true,.v (.int k') .sh (k'.wrap n))
   |none=>none
  |_,_=>none
 | .fieldAddr s x f=>(zld T s f (l x)).map λe=>(true,e)
 | .indexAddr t x i=>indexE T t (l x) (l i)
 | .field s x f=>(fieldV T s f (l x)).map λe=>(true,e)
 | .index t x i=>indexV T t (l x) (l i)
 | .load t x=>(loadE T t (l x)).map λe=>(true,e)
 | .call {callee:=.builtin .len,args:=⟨[x]⟩,argTypes:=⟨[t]⟩}=>(lenE T t (l x)).map λe=>(true,e)
 | .call {callee:=.builtin .min,args:=⟨[x,y]⟩,argTypes:=_}=>match(l x).ival,(l y).ival with
  |some (k,u),some (k',v)=>if k=k' then some (true,.v (.int k) .sh (bif decide (v<u)then v else u))else none
  |_,_=>none
 | .call {callee:=.builtin .max,args:=⟨[x,y]⟩,argTypes:=_}=>match(l x).ival,(l y).ival with
  |some (k,u),some (k',v)=>if k=k' then some (true,.v (.int k) .sh (bif decide (v>u)then v else u))else none
  |_,_=>none
 |_=>none
def zik(P:Program)(S:St)(σ:Env)(tm:Nat->Value)(e:Ent)(v:Value):Prop:=
 match e with
 | .v t m x=>m.noown=true/\∃p,SR P t S m p x v
 | .ref r π s=>RefOK S σ r π s v
 | .view r π s=>ViewOK S σ tm r π s v
 | .tail r s lo=>TailOK S σ r s lo v
 | .rbox r π s=>RboxOK S σ r π s v
 | .clo f caps=>∃ps:List Value,v=.func (.func f) #[] ps.toArray/\ps.length=caps.length/\∀(k:Nat) (c:Cap),caps[k]?=some c->∃u,ps[k]?=some u/\CapOK P S σ u c
 | .mth nm e=>∃u,v=.func (.method nm) #[u] #[]/\SR P e.t S .bw (0,[]) e.x u
 | .dead=>True
 |_=>False
section
variable {P:Program} {c:Ctx} {σ:Env} {a:Act} {S:St}
def InvOf.putE(h:InvOf P c σ a S){d:Nat}(hd:d<c.N){e:Ent}{v:Value}(he:zik P S σ (tmv a) e v):InvOf P c (zdv σ d e 0) (a.put (some d) v) S:=by
 cases e with
 |v t m x=>
  obtain⟨hm,p,hs⟩:=he;exact h.putv hd (hs.free hm (.refl S))
 |ref r π s=>exact h.putref hd he
 |view r π s=>exact h.putview hd he
 |tail r s lo=>exact h.puttail hd he
 |rbox r π s=>
  refine h.put (.refl _) rfl rfl hd (λ_ _ _=>rfl) (λ_=>.inl rfl) ?_;unfold SlotOK;rw[zbs];rw[zak (by rw[h.size];exact hd)];refine RboxOK.keep he ?_ λb hb=>⟨hb,rfl⟩;by_cases hrd:r=d;·subst hrd;exact⟨by rw[zah];exact xag _,.inl (by rw[zah];exact xbw _)⟩
  ·exact .refl (h.gens r) (zao σ _ _ hrd) λ_=>rfl
 |clo f caps=>
  refine h.put (.refl _) rfl rfl hd (λ_ _ _=>rfl) (λ_=>.inl rfl) ?_;unfold SlotOK;rw[zbs];obtain⟨ps,h1,h2,h3⟩:=he;refine⟨ps,by rw[zak (by rw[h.size];exact hd)];exact h1,h2,λk c hk=>?_⟩;obtain⟨u,h4,h5⟩:=h3 k c hk;refine⟨u,h4,?_⟩;cases c with
  |ref r π s=>
   refine RefOK.keep h5 ?_;by_cases hrd:r=d;·subst hrd;exact⟨by rw[zah];exact xag _,.inl (by rw[zah];exact xbw _)⟩
   ·exact .refl (h.gens r) (zao σ _ _ hrd) λ_=>rfl
  |rb r π s=>
   refine RboxOK.keep h5 ?_ λb hb=>⟨hb,rfl⟩;by_cases hrd:r=d;·subst hrd;exact⟨by rw[zah];exact xag _,.inl (by rw[zah];exact xbw _)⟩
   ·exact .refl (h.gens r) (zao σ _ _ hrd) λ_=>rfl
  |val e=>exact h5
 |tup es=>exact he.elim
 |skip=>exact he.elim
 |mth nm e=>refine h.put (.refl _) rfl rfl hd (λ_ _ _=>rfl) (λ_=>.inl rfl) ?_;unfold SlotOK;rw[zbs];obtain⟨u,h1,h2⟩:=he;exact⟨u,by rw[zak (by rw[h.size];exact hd)];exact h1,h2⟩
 |dead=>refine h.put (.refl _) rfl rfl hd (λ_ _ _=>rfl) (λ_=>.inl rfl) ?_;unfold SlotOK;rw[zbs];trivial
def InvOf.refTo(h:InvOf P c σ a S){r:Nat}{t:Ty}{m:Md}{x:t.den}{π q:List Nat}{o b:Nat}(hr:(σ r).e=.v t m x)(hl:zbo π t=some (some q,o))(ho:okP S π t (r,[]))(hb:hvB (S.hv (r,q))=some b) :
  RefOK S σ r π (zke (σ r) t π) (.pointer (some ⟨b,o,none⟩)):=by
 refine⟨?_,λt' m' x' hr' _=>?_⟩
 ·unfold zke;split;·exact xag _
  ·exact h.gens r
 ·grind
def InvOf.viewTo(h:InvOf P c σ a S){r:Nat}{t:Ty}{m:Md}{x:t.den}{π:List Nat}(hr:(σ r).e=.v t m x)(ho:okP S π t (r,[]))(ha:t.isAlt=false):ViewOK S σ (tmv a) r π (σ r).h (S.hv (r,π)):=
 ⟨xag _,λt' m' x' hr' _=>by rw[hr]at hr';cases hr';exact⟨ho,λh'=>absurd (ha.symm.trans h') (by decide),λ_=>rfl⟩⟩
def zno{t:Ty}{m:Md}{p:Place}{x:t.den}{v:Value}(h:SR P t S m p x v):SR P t S (nm t m) p x v:=by
 have key:∀(t:Ty) (m:Md),t.flat=true->zkh t m=true->leM t m .sh=true:=by
  intro t;induction t with
  |pair a b iha ihb=>intro m hf hl;simp only[Ty.flat,xal]at hf;simp only[zkh,xal]at hl;simp only[leM,xal];exact⟨iha _ hf.1 hl.1,ihb _ hf.2 hl.2⟩
  |arr n t ih=>intro m hf hl;exact ih m hf hl
  |alt tid a b iha ihb=>intro m hf hl;simp only[Ty.flat,xal]at hf;cases m<;>first | (cases hl;done) | (simp only[zkh,xal]at hl;simp only[leM,xal];exact⟨iha _ hf.1 hl.1,ihb _ hf.2 hl.2⟩)
  |slice t=>intro m hf;cases hf
  |ptr t=>intro m hf;cases hf
  |fn1=>intro m hf;cases hf
  |fn2=>intro m hf;cases hf
  |_=>intro m hf hl;cases m<;>first | rfl | (cases hl;done)
 unfold nm;split;·rename_i hc;simp_all;exact⟨h.1.weaken (key t m hc.1 hc.2),h.2⟩
 ·exact h
def znp{t:Ty}{m:Md}(h:m.noown=true):(nm t m).noown=true:=by
 unfold nm;split;·rfl
 ·exact h
def InvOf.ival(h:InvOf P c σ a S){o:Operand}{k:IntKind}{n:Int}(hv:(zar σ o).ival=some (k,n)):a.eval o=.int k n/\k.wrap n=n:=by
 cases o with
 |const v=>
  simp only[zar]at hv;cases v<;>simp only[Opd.ival]at hv<;>first | (cases hv;done) | skip
  split at hv;·rename_i hw;cases hv;exact⟨rfl,hw⟩
  ·cases hv
 |func f=>simp[zar,Opd.ival]at hv
 |global g=>simp[zar,Opd.ival]at hv
 |tmp t=>
  simp only[zar,Opd.ival]at hv;split at hv;·rename_i k' n' he;cases hv;exact(h.slot he).int_inv (by simp)
  ·rename_i k' n' he;cases hv;exact(h.slot he).int_inv (by simp)
  ·cases hv
def InvOf.ro(h:InvOf P c σ a S){o:Operand}{e:TM}(hv:(zar σ o).ro=some e):(e.m=.sh\/e.m=.bw)/\∃b off,a.eval o=.pointer (some ⟨b,off,none⟩)/\(e.t.size≠0->S.G e.m b)/\∃p,Rel P e.t S e.m p e.x (blk S.w b off):=by
 cases o with
 |const v=>simp[zar,Opd.ro]at hv
 |func f=>simp[zar,Opd.ro]at hv
 |global g=>simp[zar,Opd.ro]at hv
 |tmp t=>
  simp only[zar,Opd.ro]at hv;have hc:∀{u:Ty},zab (.ptr u) (tmv a t) 0=some (tmv a t):=λ{u}=>by simp[zab,Ty.agg]
  split at hv;·rename_i u x he;cases hv;obtain⟨⟨b,o,h1,h2,h3⟩,_⟩:=h.slot he;rw[hc]at h1;exact⟨.inl rfl,b,o,xbi h1,h2,_,h3⟩
  ·rename_i u x he;cases hv;obtain⟨⟨b,o,h1,h2,h3⟩,_⟩:=h.slot he;rw[hc]at h1;exact⟨.inr rfl,b,o,xbi h1,h2,_,h3⟩
  ·cases hv
def InvOf.phdr(h:InvOf P c σ a S){r:Nat}{u:Ty}{e:TypeId}{m:Md}{x:u.den}(he:(σ r).e=.v (.ptr u) (.own e m) x):∃g,tmv a r=S.hv (r,[])/\S.hv (r,[])=.pointer (some ⟨g,0,none⟩):=by
 obtain⟨⟨h0,g,cur,e',h1,_⟩,_⟩:=h.slot he;have:zab (.ptr u) (tmv a r) 0=some (tmv a r):=by simp[zab,Ty.agg]
 grind
def InvOf.move_sound(h:InvOf P c σ a S){T:Tab}{ty:TypeId}{o:Operand}{e:Ent}(hx:zjh T ty (zar σ o)=some e):zik P S σ (tmv a) e (a.eval o):=by
 cases o with
 |const v=>
  simp only[zar,zjh]at hx;split at hx;·simp_all;obtain⟨x,h1,rfl⟩:=hx;exact⟨rfl,(0,[]),zdd h1⟩
  ·cases hx
 |func f=>simp only[zar,zjh,xaq]at hx;subst hx;exact⟨[],rfl,rfl,λk c hk=>by simp at hk⟩
 |global g=>simp[zar,zjh]at hx
 |tmp s=>
  simp only[zar,zjh]at hx;rw[zbf];split at hx
  ·rename_i t m x he;split at hx;·rename_i hm;cases hx;exact⟨hm,_,h.slot he⟩
   ·split at hx;·cases hx;have:=h.viewTo (π:=[]) he trivial rfl;rw[<-h.hdr he]at this;exact this
    ·cases hx;obtain⟨g,h1,h2⟩:=h.phdr he;have:=h.refTo (π:=[0]) (q:=[]) (o:=0) (b:=g) he (by simp[zbo]) trivial (by rw[h2];rfl);rw[h1,h2];exact this
    ·cases hx
  ·rename_i r π s' he;cases hx;exact(h.ent s).ref he
  ·rename_i r π s' he;cases hx;exact(h.ent s).view he
  ·rename_i f caps he;cases hx;have:=h.ent s;unfold SlotOK at this;rw[he]at this;exact this
  ·cases hx
end
section
variable {P:Program} {c:Ctx} {σ:Env} {a:Act} {S:St} {T:Tab}
def Tr.id(S:St)(p:Place):Tr true S S p p:=⟨λ_ h=>h,λ_ _=>rfl,λ_ _ h=>.inr h,λ_ _ _=>rfl,λ_=>rfl,λ_ _ h=>⟨h,rfl⟩⟩
def Rel.cong{t:Ty}{m:Md}{p:Place}{x:t.den}{cs cs':Cs}(h:Rel P t S m p x cs)(hc:∀i,i<t.size->cs' i=cs i):Rel P t S m p x cs':=h.mono (.inl rfl) (.id S p) hc
def zvd{cs:Cs}{n:Nat}(h:∀i,i<n->∃u,cs i=some u/\u.oneCell'=true):∃vs:List Value,vs.length=n/\(∀i,i<n->vs[i]?=cs i)/\∀u∈vs,u.oneCell'=true:=by
 induction n with
 |zero=>exact⟨[],rfl,λi hi=>absurd hi (Nat.not_lt_zero _),by simp⟩
 |succ n ih=>
  obtain⟨vs,h1,h2,h3⟩:=ih λi hi=>h i (by omega);obtain⟨u,h4,h5⟩:=h n (by omega);refine⟨vs++[u],by simp[h1],λi hi=>?_,λw hw=>?_⟩;·grind
  ·grind
def zqx(hT:TabOK P T){t:TypeId}{i:TyI}{u:Ty}(ht:tl T t=some (i,u)){m:Md}{p:Place}{y:u.den}{b off:Nat}(h:Rel P u S m p y (blk S.w b off)) :
  ∃v,(Instr.loadAt t (.pointer (some ⟨b,off,none⟩))).run P S.w=.ok v S.w/\SR P u S m p y v/\∀i,i<u.size->zab u v i=blk S.w b off i:=by
 obtain⟨hb,hf,he,_⟩:=hT.kind ht;obtain⟨j,d,hi,hd,_,hs,_,_⟩:=zbj hb;by_cases hagg:u.agg=true
 ·obtain⟨vs,h1,h2,h3⟩:=zvd h.cells;have hc:∀i,i<u.size->zab u (.agg vs.toArray) i=blk S.w b off i:=λi hi=>by unfold zab;simp_all
  refine⟨.agg vs.toArray,?_,⟨h.cong hc,λ_=>⟨_,rfl,by simpa using h1⟩⟩,hc⟩;have hl:(loadCells ⟨b,off,none⟩ vs.length).run P S.w=.ok vs.toArray S.w:=run_loadCells_list (P:=P) S.w ⟨b,off,none⟩ vs λk v hk=>by
   have hg:k<u.size:=by grind
   rw[zff,<-hk,h2 k hg];rfl
  rw[h1]at hl;simp[Instr.loadAt,Instr.sureAddr,loadVar,znw hb,he,hagg,sizeOf,typeInfo,hi,hs,hf,hl]
 ·have hj:u.size=1:=by cases u<;>first | rfl | exact absurd rfl hagg
  obtain⟨v,h1,h2⟩:=h.cells 0 (by omega);have hc:∀i,i<u.size->zab u v i=blk S.w b off i:=λi hi=>by
   have:i=0:=by omega
   subst this;unfold zab;simp_all
  refine⟨v,?_,⟨h.cong hc,λh=>absurd h hagg⟩,hc⟩;have hh:S.w.cell? ⟨b,off,none⟩=some v:=h1;have ha:u.agg=false:=by simpa using hagg
  simp[Instr.loadAt,Instr.sureAddr,loadVar,znw hb,he,ha,hh]
def InvOf.partAt(h:InvOf P c σ a S){o:Operand}{p:Pl}(hp:(zar σ o).place=some p){k:Md}(hm:zbr p.π p.t p.m=some k) :
  ∃(u:Ty) (y:u.den) (q:List Nat) (off b:Nat) (cur:Array Value) (e:TypeId),zcc p.π p.t p.x=some ⟨u,y⟩/\zbo p.π p.t=some (some q,off)/\hvB (S.hv (p.r,q))=some b/\S.own b=some (p.r,q)/\S.w.heap[b]?=some (.cells cur e (0,0)) /\
   a.eval o=.pointer (some ⟨b,off,none⟩)/\Rel P u S k (p.r,p.π) y (blk S.w b off):=by
 obtain⟨h1,_,_,h2,q,off,b,h3,h4,h5⟩:=h.place hp;obtain⟨u,y,l,cs',h6,h7,h8,h9⟩:=Rel.at (h.slot h1).1 hm h2;rw[h3]at h7;cases h7;obtain⟨b',ha,hb,hd,cur,e,hc⟩:=h9;rw[zbt]at h8 ha hb;grind
def InvOf.deref_sound(h:InvOf P c σ a S)(hT:TabOK P T){t:TypeId}{i:TyI}{u:Ty}(ht:tl T t=some (i,u)){o:Operand}{p:Pl}(hp:(zar σ o).place=some p){e:Ent}(hx:p.deref u=some e) :
  ∃v,(Instr.loadAt t (a.eval o)).run P S.w=.ok v S.w/\zik P S σ (tmv a) e v:=by
 unfold Pl.deref at hx;split at hx;case h_2=>cases hx
 rename_i k y hm hg;split at hx;case isFalse=>cases hx
 rename_i hy;obtain⟨u',y',q,off,b,cur,e',h1,h2,h3,h4,h5,h6,h7⟩:=h.partAt hp hm;rw[hg]at h1;cases h1;simp only at hy;subst hy;obtain⟨v,h8,h9,hf⟩:=zqx hT ht h7;obtain⟨hr,hc,hπ,hb,_⟩:=h.place hp;refine⟨v,by rw[h6];exact h8,?_⟩;split at hx;·rename_i hd;cases hx;exact⟨znp hd,_,zno h9⟩
 ·cases u' with
  |slice w=>
   cases k<;>simp only at hx<;>first | (cases hx;done) | skip
   cases hx;have hv:=h9.1.2.2.1;have:v=S.hv (p.r,p.π):=by simpa[zab,Ty.agg]using hv
   rw[hc,this];exact h.viewTo hr hb (zon hg rfl)
  |ptr w=>
   cases k<;>simp only at hx<;>first | (cases hx;done) | skip
   cases hx;obtain⟨hv,g,cur',e1,ha,hi,hh,_⟩:=h9.1;have he:v=S.hv (p.r,p.π):=by simpa[zab,Ty.agg]using hv
   rw[hc,he,ha];refine h.refTo (q:=p.π) hr ?_ (zie hg hb trivial) (by rw[ha];rfl);rw[zez hg h2 (show zbo [0] (.ptr _)=some (some [],0)from by simp[zbo])];simp[addL]
  |_=>cases k<;>simp at hx
def InvOf.load_sound(h:InvOf P c σ a S)(hT:TabOK P T){t:TypeId}{o:Operand}{e:Ent}(hx:loadE T t (zar σ o)=some e) :
  ∃v,(Instr.loadAt t (a.eval o)).run P S.w=.ok v S.w/\zik P S σ (tmv a) e v:=by
 unfold loadE at hx;split at hx
 ·rename_i r π s ha;split at hx;case h_2=>cases hx
  rename_i i u ht;cases hx;cases o with
  |const v=>simp[zar,Opd.rb]at ha
  |func f=>simp[zar,Opd.rb]at ha
  |global g=>simp[zar,Opd.rb]at ha
  |tmp q=>
   simp only[zar,Opd.rb]at ha;split at ha;case h_2=>cases ha
   rename_i r' π' s' he;cases ha;have hs:=h.slots q;unfold SlotOK at hs;rw[he]at hs;obtain⟨b,v,h1,h2,h3,h4⟩:=hs;obtain⟨hc,hh,hf,_⟩:=hT.kind ht;obtain⟨j,d,hi,hd,_,hs,_,_⟩:=zbj hc;refine⟨v,?_,h4⟩;rw[zbf,h1];have hb:(Ty.ptr u).agg=false:=rfl;simp[Instr.loadAt,Instr.sureAddr,loadVar,znw hc,hf,hb,h3]
 split at hx;case h_2=>cases hx
 rename_i i u ht;split at hx;·rename_i p hp;exact h.deref_sound hT ht hp hx
 ·split at hx;case h_2=>cases hx
  rename_i e' hg;split at hx;case isFalse=>cases hx
  rename_i he;cases hx;obtain⟨h1,b,off,h2,h3,p,h4⟩:=h.ro hg;subst he;obtain⟨v,h5,h6,_⟩:=zqx hT ht h4;exact⟨v,by rw[h2];exact h5,znp (by rcases h1 with h1|h1<;>rw[h1]<;>rfl),p,zno h6⟩
def getP_ro{ρ:List Nat}{t:Ty}{x:t.den}{u:Ty}{y:u.den}{off:Nat}{M:Md}(hM:M=.sh\/M=.bw){p:Place}{cs:Cs}:zcc ρ t x=some ⟨u,y⟩->zbo ρ t=some (none,off)->okP S ρ t p->Rel P t S M p x cs->off+u.size<=t.size/\∃p',Rel P u S M p' y (λi=>cs (off+i)):=by
 have hl:M.l=M/\M.r=M:=by rcases hM with rfl|rfl<;>exact⟨rfl,rfl⟩
 induction ρ generalizing t x off p cs with
 |nil=>intro hg hc ho h;simp only[zcc,xaq]at hg;cases hg;simp only[zbo,xaq,xaw,xgl]at hc;subst hc;grind
 |cons i ρ ih=>
  intro hg hc ho h;cases t with
  |pair A B=>
   match i with
   | 0=>simp only[zcc]at hg;simp only[zbo,xac]at hc;obtain⟨⟨q',o'⟩,h1,h2⟩:=hc;simp at h2;obtain⟨rfl,rfl⟩:=h2;have ha:=h.1;rw[hl.1]at ha;obtain⟨h3,p',h4⟩:=ih hg h1 ho ha;exact⟨by simp only[Ty.size];omega,p',h4⟩
   | 1=>
    simp only[zcc]at hg;simp only[zbo,xac]at hc;obtain⟨⟨q',o'⟩,h1,h2⟩:=hc;cases q' with
    |some q'=>simp at h2
    |none=>simp at h2;subst h2;have hb:=h.2;rw[hl.2]at hb;obtain⟨h3,p',h4⟩:=ih hg h1 ho hb;exact⟨by simp only[Ty.size];omega,p',by simpa only[xdk]using h4⟩
   |i+2=>simp[zcc]at hg
  |arr n t=>
   rw[zlv]at hg;rw[zej]at hc;rw[zex]at ho;simp only[xac]at hc;obtain⟨⟨q',o'⟩,h1,h2⟩:=hc;cases q' with
   |some q'=>simp at h2
   |none=>
    simp at h2;subst h2;have hi:i<x.length:=by rw[h.1];exact ho.1
    rw[zed hi]at hg;obtain⟨h3,p',h4⟩:=ih hg h1 ho.2 (h.2 i hi);have hm:(i+1)*t.size<=n*t.size:=xau _ ho.1;rw[xco]at hm;exact⟨by simp only[Ty.size];omega,p',by simpa only[xdk]using h4⟩
  |slice t=>rw[zec]at hc;simp only[xac]at hc;grind
  |ptr t=>
   match i with
   | 0=>simp only[zbo,xac]at hc;grind
   |i+1=>simp[zbo]at hc
  |_=>simp[zcc]at hg
def blk_shift(w:World)(b o o':Nat):(λi=>blk w b o (o'+i))=blk w b (o+o'):=funext λi=>by simp[blk,xdk]
def InvOf.field_sound(h:InvOf P c σ a S)(hT:TabOK P T){s f:Nat}{o:Operand}{e:Ent}(hx:zld T s f (zar σ o)=some e) :
  ∃v,(Instr.fieldAt s (a.eval o) f).run P S.w=.ok v S.w/\zik P S σ (tmv a) e v:=by
 unfold zld at hx;split at hx;case h_2=>cases hx
 rename_i i ts ht;split at hx;case h_2=>cases hx
 rename_i offs hk;split at hx;case h_2=>cases hx
 rename_i off sz ρ hd hρ;split at hx;·cases hx
 rename_i hr;obtain⟨hv,hq,hu,hb⟩:=hT.kind ht;rw[hk]at hb;obtain⟨fs,ho,ha⟩:=zfa hb;have run:∀b o,(Instr.fieldAt s (.pointer (some ⟨b,o,none⟩)) f).run P S.w=.ok (.pointer (some ⟨b,o+off,none⟩)) S.w:=λb o=>zmf hv hk hd hr b o S.w;split at hx
 ·rename_i p hp;split at hx;case h_2=>cases hx
  rename_i y hg;split at hx;case isFalse=>cases hx
  rename_i hy;cases hx;obtain⟨h1,h2,h3,h4,q,off',b,h5,h6,h7⟩:=h.place hp;obtain⟨yt,yx⟩:=y;simp only at hy;subst hy;obtain⟨u,z,o2,h8,h9,hi,hl,hj⟩:=zhk (S:=S) (o0:=0) (x:=yx) (p:=pa (p.r,[]) p.π) ho hρ;rw[<-ha,hd,xck]at hj;cases hj;refine⟨_,by rw[h7];exact run b off',?_⟩;rw[h2];refine h.refTo (q:=q) h1 ?_ (zie hg h4 hl) h6;rw[zez hg h5 hi];rfl
 ·split at hx;case h_2=>cases hx
  rename_i e' hs;split at hx;case isFalse=>cases hx
  rename_i he;split at hx;case h_2=>cases hx
  rename_i y hg;cases hx;obtain⟨hm,b,off',h7,hG,p,h8⟩:=h.ro hs;subst he;obtain⟨u,z,o2,h9,hi,hl,hj,hn⟩:=zhk (S:=S) (o0:=0) (x:=e'.x) (p:=p) ho hρ;rw[hg]at hi;cases hi;rw[<-ha,hd,xck]at hn;cases hn;obtain⟨hw,p',hf⟩:=getP_ro hm hg hl hj h8;refine⟨_,by rw[h7];exact run b off',by rcases hm with hm|hm<;>rw[hm]<;>rfl,p',?_,λh=>by cases h⟩;have hc:zab (.ptr u) (.pointer (some ⟨b,off'+off,none⟩)) 0=some (.pointer (some ⟨b,off'+off,none⟩)):=by simp[zab,Ty.agg]
  rw[blk_shift]at hf;have hh:∃b0 o0,zab (.ptr u) (.pointer (some ⟨b,off'+off,none⟩)) 0=some (.pointer (some ⟨b0,o0,none⟩))/\(u.size≠0->S.G e'.m b0)/\Rel P u S e'.m (px p' 0) z (blk S.w b0 o0):=⟨b,_,hc,λhne=>hG (by omega),by
   rcases hm with hm|hm
   ·rw[hm]at hf ⊢;exact hf.fut (.inl rfl) ((Fut2.refl S).sh _) λ_ _=>rfl
   ·rw[hm]at hf ⊢;exact hf.fut (.inr rfl) ((Fut2.refl S).sh _) λ_ _=>rfl⟩
  rcases hm with hm|hm<;>rw[hm]at hh⊢ <;>exact hh
end
section
variable {P:Program} {c:Ctx} {σ:Env} {a:Act} {S:St} {T:Tab}
def bnd2{i:Int}{n:Nat}(h:(decide (0<=i)&&decide (i<(n:Int)))=true):0<=i/\i<n/\i.toNat<n:=by grind
def InvOf.index_sound(h:InvOf P c σ a S)(hT:TabOK P T){t:TypeId}{o ix:Operand}{e:Ent}{ob:Bool}(hx:indexE T t (zar σ o) (zar σ ix)=some (ob,e))(hob:ob=true) :
  ∃v,(Instr.indexAt t (a.eval o) (a.eval ix)).run P S.w=.ok v S.w/\zik P S σ (tmv a) e v:=by
 unfold indexE at hx;split at hx;case h_3=>cases hx
 ·rename_i i u k n ht hn;obtain⟨hj,ja,jc,hd⟩:=hT.kind ht;obtain⟨e1,i1,hk,hq,jb⟩:=zdx hd;obtain⟨ha,he,_,_⟩:=hT.kind hq;obtain⟨hz,_⟩:=h.ival hn;rw[hz];split at hx
  ·rename_i p hp;split at hx;case h_2=>cases hx
   rename_i e0 k0 u' xs hm hg;split at hx;case isFalse=>cases hx
   rename_i hu;subst hu;simp at hx;obtain⟨rfl,rfl⟩:=hx;obtain⟨h0,h1,h2⟩:=bnd2 hob;obtain⟨hr,hc,hl,hv⟩:=h.splace hp;obtain⟨u2,y2,l,cs',h5,h6,h7,h8⟩:=Rel.at (h.slot hr).1 hm hl;rw[hg]at h5;cases h5;rw[zbt]at h7;obtain⟨_,_,_,hh⟩:=h7;rcases hh with⟨_,h9⟩|⟨g,cap,cur,h9,h10,h11,_⟩
   ·subst h9;simp at h2
   ·refine⟨_,by rw[hv,h9];exact zme hj hk ha g 0 xs.length cap k n h0 h1 S.w,?_⟩;rw[hc];refine h.refTo (q:=p.π) hr ?_ (zie hg hl ?_) (by rw[h9];rfl);·rw[zez hg h6 (show zbo [n.toNat] (.slice u')=some (some [],n.toNat*u'.size)from by rw[zec];simp[zbo])];simp[addL,he]
    ·rw[zgd,zbt];exact⟨⟨g,_,_,h9,h2⟩,trivial⟩
  ·have key:∀{M:Md} {xs:List u.den},M=.sh\/M=.bw->(zar σ o).val (.slice u)=some (M,xs)->(decide (0<=n)&&decide (n<(xs.length:Int)))=true->∃v,(Instr.indexAt t (a.eval o) (.int k n)).run P S.w=.ok v S.w/\zik P S σ (tmv a) (.v (.ptr u) M (xs.getD n.toNat u.dflt)) v:=by
    intro M xs hM ho hb;obtain⟨h0,h1,h2⟩:=bnd2 hb;obtain⟨p,hs⟩:=h.val ho;obtain⟨_,_,jd⟩:=hs.1;have jf:∃a' len cap,zab (.slice u) (a.eval o) 0=some (.slice a' len cap)/\len=xs.length/\len<=cap/\((xs=[]/\cap=0)\/∃b o',a'=some ⟨b,o',none⟩/\(xs≠ []->S.G M b)/\∀(i:Nat) (h:i<xs.length),Rel P u S M (px p i) xs[i] (blk S.w b (o'+i*u.size))):=by rcases hM with rfl|rfl<;>exact jd
    obtain⟨a',len,cap,h3,h4,h5,h6⟩:=jf;have hv:a.eval o=.slice a' len cap:=by simpa[zab,Ty.agg]using h3
    rcases h6 with⟨_,h6⟩|⟨b,o',rfl,hG,h7⟩
    ·omega
    ·subst h4;refine⟨_,by rw[hv];exact zme hj hk ha b o' _ cap k n h0 h1 S.w,by rcases hM with rfl|rfl<;>rfl,p,?_,λh=>by cases h⟩;have hc:zab (.ptr u) (.pointer (some ⟨b,o'+n.toNat*i1.size,none⟩)) 0=some (.pointer (some ⟨b,o'+n.toNat*i1.size,none⟩)):=by simp[zab,Ty.agg]
     have hw:xs≠ []:=by rintro rfl;simp at h2
     have h8:=h7 n.toNat h2;rw[<-he,<-zed h2 u.dflt]at h8;have hf:∃b0 o0,zab (.ptr u) (.pointer (some ⟨b,o'+n.toNat*i1.size,none⟩)) 0=some (.pointer (some ⟨b0,o0,none⟩))/\(u.size≠0->S.G M b0)/\Rel P u S M (px p 0) (xs.getD n.toNat u.dflt) (blk S.w b0 o0):=⟨b,_,hc,λ_=>hG hw,h8.fut hM ((Fut2.refl S).sh _) λ_ _=>rfl⟩;rcases hM with rfl|rfl<;>exact hf
   grind
 ·rename_i i m u k n ht hn;obtain⟨hj,ja,jc,hd⟩:=hT.kind ht;obtain⟨e1,i1,hk,hq⟩:=zwi hd;obtain⟨ha,he,_,_⟩:=hT.kind hq;obtain⟨hz,_⟩:=h.ival hn;rw[hz];split at hx
  ·rename_i p hp;split at hx;case h_2=>cases hx
   rename_i y hg;split at hx;case isFalse=>cases hx
   rename_i hy;simp at hx;obtain⟨rfl,rfl⟩:=hx;obtain⟨h0,h1,h2⟩:=bnd2 hob;obtain⟨hr,hc,hπ,hl,q,off,b,h3,h4,h5⟩:=h.place hp;obtain⟨yt,yx⟩:=y;simp only at hy;subst hy;refine⟨_,by rw[h5];exact zkp hj hk ha b off k n h0 h1 S.w,?_⟩;rw[hc];refine h.refTo (q:=q) hr ?_ (zie hg hl ?_) h4;·rw[zez hg h3 (show zbo [n.toNat] (.arr m u)=some (none,n.toNat*u.size)from by rw[zej];simp[zbo])];simp[addL,he]
   ·rw[zex];exact⟨h2,trivial⟩
  ·split at hx;case h_2=>cases hx
   rename_i m' u' M xs je;split at hx;case isFalse=>cases hx
   rename_i jg;obtain⟨rfl,rfl⟩:=jg;simp at hx;obtain⟨rfl,rfl⟩:=hx;obtain⟨h0,h1,h2⟩:=bnd2 hob;obtain⟨hM,b,off,h3,hG,p,h4⟩:=h.ro je;simp only at hM h4 hG;have hi:n.toNat<xs.length:=by rw[h4.1];exact h2
   refine⟨_,by rw[h3];exact zkp hj hk ha b off k n h0 h1 S.w,by rcases hM with rfl|rfl<;>rfl,p,?_,λh=>by cases h⟩;have hc:zab (.ptr u') (.pointer (some ⟨b,off+n.toNat*i1.size,none⟩)) 0=some (.pointer (some ⟨b,off+n.toNat*i1.size,none⟩)):=by simp[zab,Ty.agg]
   have h8:=h4.2 n.toNat hi;rw[<-he,<-zed hi u'.dflt,blk_shift]at h8;have hf:∃b0 o0,zab (.ptr u') (.pointer (some ⟨b,off+n.toNat*i1.size,none⟩)) 0=some (.pointer (some ⟨b0,o0,none⟩))/\(u'.size≠0->S.G M b0)/\Rel P u' S M (px p 0) (xs.getD n.toNat u'.dflt) (blk S.w b0 o0):=
    ⟨b,_,hc,λhw=>hG (by simp only[Ty.size];exact xht (by omega) hw),h8.fut hM ((Fut2.refl S).sh _) λ_ _=>rfl⟩
   rcases hM with rfl|rfl<;>exact hf
def zqd{u:Ty}{m:Md}{p:Place}{xs:List u.den}{v:Value}(h:SR P (.slice u) S m p xs v)(hm:m≠ .dead):∃ad cap,v=.slice ad xs.length cap/\xs.length<=zpf:=by
 obtain⟨h1,_,h3⟩:=h.1;have hc:zab (.slice u) v 0=some v:=by simp[zab,Ty.agg]
 grind
def len_wrap{n:Nat}(h:n<=zpf):IntKind.i64.wrap (n:Int)=n:=wrap_in _ (by unfold zpf at h;omega)
def InvOf.len_sound(h:InvOf P c σ a S)(hT:TabOK P T){t rt:TypeId}{o:Operand}{e:Ent}(hx:lenE T t (zar σ o)=some e) :
  ∃v,(Builtin.len_ #[t] rt #[a.eval o]).run P S.w=.ok v S.w/\zik P S σ (tmv a) e v:=by
 unfold lenE at hx;split at hx
 ·rename_i i u ht;obtain⟨hc,_,_,ha⟩:=hT.kind ht;obtain⟨j,d,_,hd,_,_,_,hk⟩:=zbj hc;obtain⟨e1,i1,hg,_⟩:=zdx ha;have:=zfz (hk.trans (xbr some hg));subst this;split at hx;case h_2=>cases hx
  rename_i m xs hv;split at hx;·cases hx
  rename_i hm;cases hx;obtain⟨p,hs⟩:=h.val hv;obtain⟨ad,cap,hf,hl⟩:=zqd hs hm;refine⟨.int .i64 xs.length,?_,rfl,(0,[]),SR.of_int' (len_wrap hl)⟩;rw[hf];simp[Builtin.len_,run_underlying hd,goInt]
 ·rename_i i ht;obtain⟨hc,_,_,ha⟩:=hT.kind ht;obtain⟨j,d,_,hd,_,_,_,hk⟩:=zbj hc;have:=zos (hk.trans (xbr some (zph ha)));subst this;split at hx;case h_2=>cases hx
  rename_i m x hv;split at hx;·cases hx
  rename_i hm;cases hx;obtain⟨p,hs⟩:=h.val hv;obtain⟨s,hh,hi,he⟩:=hs.str_inv hm;have hb:s.size=(x:List Int).length:=by rw[<-hi,xao,xcj];rfl
  refine⟨.int .i64 s.size,?_,rfl,(0,[]),by rw[hb];exact SR.of_int' (len_wrap he)⟩;rw[hh];simp[Builtin.len_,run_underlying hd,goInt]
 ·cases hx
def zkq{S:St}{k:IntKind}{m:Md}{p:Place}{n:Int}{cs:Cs}(hm:m=.sh\/m=.bw)(h:Rel P (.int k) S m p n cs):cs 0=some (.int k n):=by rcases hm with rfl|rfl<;>exact h.1
def eqTV_list{S:St}{m m':Md}(hm:m=.sh\/m=.bw)(hm':m'=.sh\/m'=.bw):∀{n:Nat} {a b:Ty} {x:a.den} {y:b.den} {r:Bool} {fs:List Ty} {o0:Nat} {p p':Place} {cs cs':Cs},eqTV n a b x y=some r->zrj n a=some fs ->
  Rel P a S m p x (λi=>cs (o0+i))->Rel P b S m' p' y (λi=>cs' (o0+i)) ->
  ∃us:List (IntKind×Int×Int),us.length=n/\(us.all λu=>decide (u.2.1=u.2.2))=r/\∀(i:Nat) (o:Nat×Nat) (u:IntKind×Int×Int),(zey o0 fs)[i]?=some o->us[i]?=some u->cs o.1=some (.int u.1 u.2.1)/\cs' o.1=some (.int u.1 u.2.2):=by
 have hl:m.l=m/\m.r=m:=by rcases hm with rfl|rfl<;>exact⟨rfl,rfl⟩
 have ha:m'.l=m'/\m'.r=m':=by rcases hm' with rfl|rfl<;>exact⟨rfl,rfl⟩
 intro n;induction n using Nat.strongRecOn with
 |ind n ih=>
 intro a b x y r fs o0 p p' cs cs' h hf hx hy;unfold eqTV at h;split at h
 ·rename_i k k' x y;split at h;case isFalse=>cases h
  rename_i hk;subst hk;cases h;simp only[zrj,xaq]at hf;subst hf;have h1:=zkq (by rw[hl.1];exact hm) hx.1;have h2:=zkq (by rw[ha.1];exact hm') hy.1;refine⟨[(k,x.1,y.1)],rfl,by simp,λi o u ho hu=>?_⟩;cases i with
  |zero=>cases ho;cases hu;exact⟨h1,h2⟩
  |succ i=>simp at hu
 ·rename_i k l k' l' x y;split at h;case isFalse=>cases h
  rename_i hk;obtain⟨rfl,rfl⟩:=hk;cases h;simp only[zrj,xaq]at hf;subst hf;have h1:=zkq (by rw[hl.1];exact hm) hx.1;have h2:=zkq (by rw[ha.1];exact hm') hy.1;have h3:=zkq (by rw[hl.2];exact hm) hx.2;have h4:=zkq (by rw[ha.2];exact hm') hy.2;refine⟨[(k,x.1,y.1),(l,x.2,y.2)],rfl,by simp,λi o u ho hu=>?_⟩;match i with
  | 0=>cases ho;cases hu;exact⟨h1,h2⟩
  | 1=>cases ho;cases hu;exact⟨h3,h4⟩
  |i+2=>simp at hu
 ·rename_i n k b k' b' x y;split at h;case isFalse=>cases h
  rename_i hk;subst hk;simp only[xac]at h;obtain⟨r',h,rfl⟩:=h;simp only[zrj,xac]at hf;obtain⟨fs',hf,rfl⟩:=hf;have h1:=zkq (by rw[hl.1];exact hm) hx.1;have h2:=zkq (by rw[ha.1];exact hm') hy.1;have hb:=hx.2;have hc:=hy.2;rw[hl.2]at hb;rw[ha.2]at hc;obtain⟨us,h3,h4,h5⟩:=ih (n+2) (by omega) (o0:=o0+1) (cs:=cs) (cs':=cs') h hf (hb.cong λi _=>by show cs (o0+1+i)=cs (o0+(1+i));rw[xdk]) (hc.cong λi _=>by show cs' (o0+1+i)=cs' (o0+(1+i));rw[xdk]);refine⟨(k,x.1,y.1)::us,by simp[h3],by simp[h4],λi o u ho hu=>?_⟩;cases i with
  |zero=>cases ho;cases hu;exact⟨h1,h2⟩
  |succ i=>exact h5 i o u (by simpa[zey,Ty.size]using ho) (by simpa using hu)
 ·cases h
def eqTV_agg{n:Nat}{a b:Ty}{x:a.den}{y:b.den}{r:Bool}(h:eqTV n a b x y=some r):b.agg=true:=by
 unfold eqTV at h;split at h;·rfl
 ·rfl
 ·rfl
 ·cases h
def sub_val{cs:Array Value}{u:Ty}{M:Md}(hM:M=.sh\/M=.bw){p:Place}{y:u.den}{off:Nat}(h:Rel P u S M p y (λi=>cs[off+i]?)){tot:Nat}(hfit:off+u.size<=tot)(hcs:cs.size=tot) :
  ∃v,(u.agg=false->cs[off]?=some v)/\SR P u S M p y (if u.agg then .agg (cs.extract off (off+u.size))else v):=by
 cases hag:u.agg with
 |true=>
  refine⟨.nilFunc,(λh=>by cases h),?_,λ_=>⟨_,rfl,?_⟩⟩;·refine h.cong λi hi=>?_;unfold zab;simp_all
  ·grind
 |false=>
  have h1:u.size=1:=by cases u<;>first | rfl | cases hag
  obtain⟨v,h2,_⟩:=h.cells 0 (by omega);refine⟨v,λ_=>h2,?_,λh=>by rw[hag]at h;cases h⟩;refine h.cong λi hi=>?_;have:i=0:=by omega
  subst this;unfold zab;simp_all
def InvOf.fieldV_sound(h:InvOf P c σ a S)(hT:TabOK P T){s f:Nat}{o:Operand}{e:Ent}(hx:fieldV T s f (zar σ o)=some e) :
  ∃v,(Instr.field s (a.eval o) f).run P S.w=.ok v S.w/\zik P S σ (tmv a) e v:=by
 unfold fieldV at hx;split at hx;case h_2=>cases hx
 rename_i i ts ht;split at hx;case h_2=>cases hx
 rename_i offs hk;split at hx;case h_2=>cases hx
 rename_i off sz ρ g hc hρ hs;obtain⟨h2,ho,he,ha⟩:=hT.kind ht;rw[hk]at ha;obtain⟨fs,hy,hb⟩:=zfa ha;split at hx;case h_2=>cases hx
 rename_i m x hv;split at hx;case isFalse=>cases hx
 rename_i hm;split at hx;case h_2=>cases hx
 rename_i y hg;split at hx;case isFalse=>cases hx
 rename_i hr;cases hx;obtain⟨p,hj⟩:=h.val hv;have hl:ts.agg=true:=by rw[<-he];unfold TyI.agg;rw[hk]
 obtain⟨cs,hh,hf⟩:=hj.2 hl;obtain⟨u,z,o2,h9,hi,hu,hz,hn⟩:=zhk (S:=S) (o0:=0) (x:=x) (p:=p) hy hρ;rw[hg]at hi;cases hi;rw[<-hb,hc,xck]at hn;cases hn;have hd:Rel P ts S m p x (λi=>cs[i]?):=by have:=hj.1;rw[hh]at this;refine this.cong λi _=>?_;unfold zab;rw[hl];rfl
 obtain⟨hq,p',hp⟩:=getP_ro hm hg hu hz hd;obtain⟨v,hw,h0⟩:=sub_val hm hp hq hf;subst hr;exact⟨_,by rw[hh];exact run_field h2 hk hc hs cs hw S.w,by rcases hm with rfl|rfl<;>rfl,p',h0⟩
def InvOf.indexV_sound(h:InvOf P c σ a S)(hT:TabOK P T){t:TypeId}{o ix:Operand}{e:Ent}{ob:Bool}(hx:indexV T t (zar σ o) (zar σ ix)=some (ob,e))(hob:ob=true) :
  ∃v,(Instr.index t (a.eval o) (a.eval ix)).run P S.w=.ok v S.w/\zik P S σ (tmv a) e v:=by
 unfold indexV at hx;split at hx;case h_2=>cases hx
 rename_i i0 n u k i ht hn;split at hx;case h_2=>cases hx
 rename_i m xs hv;split at hx;case isFalse=>cases hx
 rename_i hm;simp at hx;obtain⟨rfl,rfl⟩:=hx;obtain⟨h0,h1,h2⟩:=bnd2 hob;obtain⟨hu,_⟩:=h.ival hn;obtain⟨hs,hp,hr,hb⟩:=hT.kind ht;obtain⟨e1,i1,hk,hq⟩:=zwi hb;obtain⟨hf,hg,he,_⟩:=hT.kind hq;obtain⟨p,ho⟩:=h.val hv;obtain⟨cs,hl,hj⟩:=ho.2 rfl;have ha:Rel P (.arr n u) S m p xs (λi=>cs[i]?):=by have:=ho.1;rw[hl]at this;exact this.cong λi _=>rfl
 have hc:i.toNat<xs.length:=by rw[ha.1];exact h2
 have h8:=ha.2 i.toNat hc;rw[<-zed hc u.dflt]at h8;have hd:i.toNat*u.size+u.size<=n*u.size:=by have:(i.toNat+1)*u.size<=n*u.size:=xau _ h2;grind
 obtain⟨v,hh,hi⟩:=sub_val hm h8 hd (by rw[hj];rfl);rw[<-hg]at hh hi;rw[<-he]at hh hi;exact⟨_,by rw[hl,hu];exact run_index hs hk hf k i h0 h1 cs hh S.w,by rcases hm with rfl|rfl<;>rfl,_,hi⟩
def step1_sound(h:InvOf P c σ a S)(hT:TabOK P T){o:Oper}{e:Ent}{ob:Bool}(hx:zfj T o (zar σ)=some (ob,e))(hob:ob=true) :
  ∃v,(execOp a.eval o).run P S.w=.ok (.value v) S.w/\zik P S σ (tmv a) e v:=by
 obtain⟨dst,op,type,pos,after,guard⟩:=o;unfold zfj at hx;simp only at hx;split at hx;·rename_i x;simp only[xac,xaw]at hx;obtain⟨e',h1,rfl,rfl⟩:=hx;exact⟨_,rfl,h.move_sound h1⟩
 ·rename_i op t x y t';split at hx;case h_2=>cases hx
  rename_i i1 ta i2 tb ht hp;split at hx;case h_2=>cases hx
  rename_i m u m' v hu hv;split at hx;·cases hx
  rename_i hm;simp at hm;obtain⟨p,ha⟩:=h.val hu;obtain⟨p',hq⟩:=h.val hv;simp only[xac,xaw]at hx;obtain⟨q,h1,rfl,rfl⟩:=hx;obtain⟨r,h2,h3⟩:=run_bin2 (S:=S) (x:=⟨ta,u⟩) (y:=⟨tb,v⟩) (z:=q.2) hT ht ha hq hm.1 hm.2 h1 hob x y S.w;refine⟨r,?_,rfl,(0,[]),h3 _⟩;simp only[execOp,Sem.run_bind,Sem.run_pure]at h2 ⊢;rw[h2];rfl
 ·rename_i op t x;split at hx;case h_2=>cases hx
  rename_i i1 ta ht;split at hx;case h_2=>cases hx
  rename_i m u hu;split at hx;·cases hx
  rename_i hm;simp_all;obtain⟨q,h1,rfl,rfl⟩:=hx;obtain⟨p,ha⟩:=h.val hu;unfold un1 at h1;split at h1;·rename_i b hc;cases hc;cases h1;have:=ha.bool_inv hm;exact⟨_,by simp[execOp,this,Op.unary]<;>rfl,rfl,(0,[]),SR.of_bool _⟩
  ·rename_i k n hc;cases hc;cases h1;have:=(ha.int_inv hm).1;exact⟨_,by simp only[execOp,this,Op.unary,Op.intArith,Sem.run_bind,Sem.run_pure,Result.andThen_ok]<;>rfl,rfl,(0,[]),SR.of_int _⟩
  ·rename_i k n hc;cases hc;cases h1;have:=(ha.int_inv hm).1;exact⟨_,by simp[execOp,this,Op.unary,Op.intBits]<;>rfl,rfl,(0,[]),SR.of_int _⟩
  ·cases h1
 ·rename_i s d x;split at hx;case h_2=>cases hx
  rename_i i1 k i2 k' ht hp;split at hx;case h_2=>cases hx
  rename_i m n hu;split at hx;·cases hx
  rename_i hm;simp_all;obtain⟨rfl,rfl⟩:=hx;obtain⟨p,ha⟩:=h.val hu;have hn:=(ha.int_inv hm).1;obtain⟨hj,_,_,h0⟩:=hT.kind ht;obtain⟨hf,_,_,hs⟩:=hT.kind hp;obtain⟨_,ds,_,hw,_⟩:=zbj hj;obtain⟨_,dd,_,ho,_,_,_,hy⟩:=zbj hf;have:=tyK_int (hy.trans (xbr some (zwh hs)));subst this;have he:(TypeDesc.int k')=.int (P.intKind d):=by simp[Program.intKind,ho]
  have hr:=run_convert_int (P:=P) S.w s d k n (by rw[hw];rfl) (by rw[ho,he]);have hz:P.intKind d=k':=by cases he;rfl
  rw[hz]at hr;refine⟨_,?_,rfl,(0,[]),SR.of_int n⟩;simp only[execOp,hn,Sem.run_bind,hr,Result.andThen_ok,Sem.run_pure]
 ·rename_i s x f;simp only[xac,xaw]at hx;obtain⟨e',h1,rfl,rfl⟩:=hx;obtain⟨v,h2,h3⟩:=h.field_sound hT h1;exact⟨v,by simp only[execOp,Sem.run_bind,h2,Result.andThen_ok,Sem.run_pure],h3⟩
 ·rename_i t x i;obtain⟨v,h2,h3⟩:=h.index_sound hT hx hob;exact⟨v,by simp only[execOp,Sem.run_bind,h2,Result.andThen_ok,Sem.run_pure],h3⟩
 ·rename_i s x f;simp only[xac,xaw]at hx;obtain⟨e',h1,rfl,rfl⟩:=hx;obtain⟨v,h2,h3⟩:=h.fieldV_sound hT h1;exact⟨v,by simp only[execOp,Sem.run_bind,h2,Result.andThen_ok,Sem.run_pure],h3⟩
 ·rename_i t x i;obtain⟨v,h2,h3⟩:=h.indexV_sound hT hx hob;exact⟨v,by simp only[execOp,Sem.run_bind,h2,Result.andThen_ok,Sem.run_pure],h3⟩
 ·rename_i t x;simp only[xac,xaw]at hx;obtain⟨e',h1,rfl,rfl⟩:=hx;obtain⟨v,h2,h3⟩:=h.load_sound hT h1;exact⟨v,by simp only[execOp,Sem.run_bind,h2,Result.andThen_ok,Sem.run_pure],h3⟩
 ·rename_i x t;simp only[xac,xaw]at hx;obtain⟨e',h1,rfl,rfl⟩:=hx;obtain⟨v,h2,h3⟩:=h.len_sound (rt:=type) hT h1;exact⟨v,by simp[execOp,resolve,invoke,builtin,h2],h3⟩
 ·rename_i x y ts;split at hx;case h_2=>cases hx
  rename_i k u k' v hu hv;split at hx;case isFalse=>cases hx
  rename_i hk;simp_all;obtain⟨rfl,rfl⟩:=hx;obtain⟨hg,hh⟩:=h.ival hu;obtain⟨hi,hl⟩:=h.ival hv;subst hk;refine⟨.int k (bif decide (v<u)then v else u),?_,rfl,(0,[]),SR.of_int' (by cases decide (v<u)<;>simp[hh,hl])⟩;have hb:(bif decide (v<u)then v else u)=if v<u then v else u:=by cases hd:decide (v<u)<;>simp at hd<;>simp[hd]<;>omega
  rw[hb];simp[execOp,resolve,invoke,builtin,hg,hi,Builtin.min_,Builtin.min2]
 ·rename_i x y ts;split at hx;case h_2=>cases hx
  rename_i k u k' v hu hv;split at hx;case isFalse=>cases hx
  rename_i hk;simp_all;obtain⟨rfl,rfl⟩:=hx;obtain⟨hg,hh⟩:=h.ival hu;obtain⟨hi,hl⟩:=h.ival hv;subst hk;refine⟨.int k (bif decide (v>u)then v else u),?_,rfl,(0,[]),SR.of_int' (by cases decide (v>u)<;>simp[hh,hl])⟩;have hb:(bif decide (v>u)then v else u)=if v>u then v else u:=by cases hd:decide (v>u)<;>simp at hd<;>simp[hd]<;>omega
  rw[hb];simp[execOp,resolve,invoke,builtin,hg,hi,Builtin.max_,Builtin.max2]
 ·cases hx
end
end Go.X
