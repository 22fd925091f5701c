/- A part of the proof. -/
import Derived.Lib.SlKeysI
import Derived.Test.YtamgmpngdmnadaaGreatJ8
set_option linter.defProp false
set_option linter.unusedSimpArgs false
set_option linter.unusedVariables false
namespace Go.Proofs
open Tryz
open Go Go.Shelf Go.RowKit
variable {P:Program} {ρ:Ren}
set_option maxHeartbeats 1000000 in
def zue(L:SlLaysE0.n41 P ρ)(i0:TypeInfo)(z:Value)(size bytes:Nat)(hi:P.info? (ρ.t 23)=some i0)(hz0:i0.zero=some z)(hz1:i0.size=size)(hz2:i0.bytes=bytes)(hzs:z.cells.size=size)(hsz:0<size)
  (z23:∀w,(Go.sizeOf (ρ.t 23)).run P w=.ok size w) (ad:Addr) (c:Nat) (w:World) :
  Calls P (ρ.f 41) #[.slice (some ad) 0 c] w λe w'=>∃v',e=.returned v'/\w'.ownsRow w.heap.size (ρ.t 23) size v' 0 []/\Below w.heap.size w w':=by
 have mixed:=L.mixed;have t4:=L.t4;have a4:=L.a4;have z4:=L.z4;have v4:=L.v4;have t22:=L.t22;have a22:=L.a22;have z22:=L.z22;have v22:=L.v22;have q22:∀(w:World) (a:Option Addr) (n c n' c':Nat),(binOp .eql (ρ.t 22) (.slice a n c) (.slice none n' c')).run P w=.ok (.bool a.isNone) w:=λw a n c n' c'=>Lib.run_eql_slice_nil w _ _ a n c n' c' L.t22;have u22:∀w,Sem.run P (underlying (ρ.t 22)) w=.ok (TypeDesc.slice (ρ.t 23)) w:=run_underlying t22;obtain⟨_,_,FG⟩:=L.f41;go_enter FG,SlBodyN.n41_ntmps ρ;go_wp2_with (at_builtin;refine wpList_append_own _ rfl _ _ (ρ.t 22) rfl w.heap.size (ρ.t 23) i0 z size bytes t22 hi hz0 hz1 hz2 hzs hsz _ _ _ rfl (World.ownsRow_made w #[] 0 (xag _) (xbx _) (by simp)) ad 0 c [] rfl ?qc1 ?qc2 ?qc3 ?qc4 ?qc5 ?qc6 ?_);case qc1=>simp
 case qc2=>intro j u hj;simp at hj
 case qc3=>intro u hu;simp at hu
 case qc4=>exact xbx _
 case qc5=>simp
 case qc6=>simp
 intro v' w1 hb ha hc;go_wp2;go_ret;exact⟨v',rfl,by simpa using hb,((Below.refl _ w).alloc (xag _) _).grown ha (by simp) (by intro k hk;simp[Value.ownBlock]at hk;omega)⟩
end Go.Proofs
namespace Go.Proofs.YtamgmpngdmnadaaGreat
open Tryz
open Go Go.Proofs Go.RowKit Go.X
def enters173:zdn prog 228:=enters_of func228 (by kernel_rfl) rfl
def enters186:zdn prog 78:=enters_of func78 (by kernel_rfl) rfl
def enters200:zdn prog 245:=enters_of func245 (by kernel_rfl) rfl
def enters208:zdn prog 183:=enters_of func183 (by kernel_rfl) rfl
def enters174:zdn prog 98:=enters_of func98 (by kernel_rfl) rfl
def info169:(prog.info? 169).map (λi=>(i.zero,i.size,i.bytes))=some (some (.int .u32 0),1,4):=by kernel_rfl
def info3:(prog.info? 3).map (λi=>(i.zero,i.size,i.bytes))=some (some (.int .i64 0),1,8):=by kernel_rfl
def sz169(w:World):(Go.sizeOf 169).run prog w=.ok 1 w:=sizeOf169 w
def sz3(w:World):(Go.sizeOf 3).run prog w=.ok 1 w:=sizeOf3 w
noncomputable def d228 (xs:List Int):Option (List Int):=bif decide ((xs.length:Int)<=LIM)then some xs else none
def sg228:Sig:=⟨[(y99,.bw)],[(y99,.own 169 .sh)]⟩
def sim228:Sim prog 228 sg228 d228:=by
 obtain⟨i0,hi,he⟩:=xac.1 info169;simp only[xaw]at he;obtain⟨e1,e2,e3⟩:=he;refine sim_clone (k:=.u32) (et:=169) enters173 (λb off n c news w hl hn hc h1=>?_) (λA c w=>?_) (λn c w=>AnyE.slices_Clone_nil Tryz.cloneN n c w);·refine Calls.mono (AnyE.slices_Clone Tryz.cloneN i0 _ 1 4 hi e1 e2 e3 rfl Nat.one_pos sz169 b off n c news w (by simpa using hl) (by unfold maxLen;omega) (by omega) hc h1) λe w' ⟨v,q1,q2,_,q4⟩=>⟨v,q1,q2,q4⟩
 ·exact zue Tryz.cloneN i0 _ 1 4 hi e1 e2 e3 rfl Nat.one_pos sz169 A c w
noncomputable def E228:FnE prog:=⟨228,sg228,d228,sim228⟩
noncomputable def d78 (xs:List Int):Option (List Int):=bif decide ((xs.length:Int)<=LIM)then some xs else none
def sg78:Sig:=⟨[(y26,.bw)],[(y26,.own 3 .sh)]⟩
def sim78:Sim prog 78 sg78 d78:=by
 obtain⟨i0,hi,he⟩:=xac.1 info3;simp only[xaw]at he;obtain⟨e1,e2,e3⟩:=he;refine sim_clone (k:=.i64) (et:=3) enters186 (λb off n c news w hl hn hc h1=>?_) (λA c w=>?_) (λn c w=>AnyE.slices_Clone_nil Tryz.cloneI n c w);·refine Calls.mono (AnyE.slices_Clone Tryz.cloneI i0 _ 1 8 hi e1 e2 e3 rfl Nat.one_pos sz3 b off n c news w (by simpa using hl) (by unfold maxLen;omega) (by omega) hc h1) λe w' ⟨v,q1,q2,_,q4⟩=>⟨v,q1,q2,q4⟩
 ·exact zue Tryz.cloneI i0 _ 1 8 hi e1 e2 e3 rfl Nat.one_pos sz3 A c w
noncomputable def E78:FnE prog:=⟨78,sg78,d78,sim78⟩
def d245(x:Int):Option Int:=some (Lib.bitLen x.toNat)
def sg245:Sig:=⟨[(.int .u32,.sh)],[(.int .i64,.sh)]⟩
def u32_range{x:Int}(h:IntKind.u32.wrap x=x):0<=x/\x<=4294967295:=by simp[IntKind.wrap,IntKind.bits,IntKind.signed]at h;omega
def u64_range{x:Int}(h:IntKind.u64.wrap x=x):0<=x/\x<=18446744073709551615:=by simp[IntKind.wrap,IntKind.bits,IntKind.signed]at h;omega
def zvg{n:Nat}(h:n<=64):IntKind.i64.wrap (n:Int)=n:=by simp[IntKind.wrap,IntKind.bits,IntKind.signed];omega
def sim245:Sim prog 245 sg245 d245:=by
 refine sim_int1 (k:=.u32) (k':=.i64) (g:=λx=>Lib.bitLen x.toNat) enters200 (λx w hx=>?_) (λx hx=>?_);·obtain⟨h0,h1⟩:=u32_range hx;exact Any.bits_Len32 Tryz.len32 x w h0 h1
 ·obtain⟨h0,h1⟩:=u32_range hx;have:=Any.bitLen_le32 x h0 h1;exact zvg (by omega)
noncomputable def E245:FnE prog:=⟨245,sg245,d245,sim245⟩
def d183(x:Int):Option Int:=some (Lib.bitLen x.toNat)
def sg183:Sig:=⟨[(.int .u64,.sh)],[(.int .i64,.sh)]⟩
def sim183:Sim prog 183 sg183 d183:=by
 refine sim_int1 (k:=.u64) (k':=.i64) (g:=λx=>Lib.bitLen x.toNat) enters208 (λx w hx=>?_) (λx hx=>?_);·obtain⟨h0,h1⟩:=u64_range hx;exact Any.bits_Len Tryz.len x w h0 h1
 ·obtain⟨h0,h1⟩:=u64_range hx;have:=Any.bitLen_le64 x h0 h1;exact zvg (by omega)
noncomputable def E183:FnE prog:=⟨183,sg183,d183,sim183⟩
noncomputable def d98 (xs:List Int):Option (List Int):=bif decide ((xs.length:Int)<=LIM)then some (zcf xs)else none
def sg98:Sig:=⟨[(y26,.io (.own 3 .sh))],[]⟩
def sim98:Sim prog 98 sg98 d98:=by refine sim_sort enters174 (λg cap zs cur w hg h1 h2 h3 h4 h5=>?_) λw=>AnyM.slices_Sort_int_none Tryz.sortA none 0 w;have hH:=holds_of_block_i hg h4;have ha:g<w.heap.size:=(xbm.1 hg).1;refine Calls.mono (AnyM.slices_Sort_int Tryz.sortA g 0 cap zs w hH ha (by omega)) λe w' ⟨q1,k,os,q2⟩=>?_;subst q2;exact⟨q1,grownBy_sorted_i _,ownsRow_sorted_i (by simp[zcf]) (xbx _) hg h1 h2 (by simpa using h3)⟩
noncomputable def E98:FnE prog:=⟨98,sg98,d98,sim98⟩
end Go.Proofs.YtamgmpngdmnadaaGreat
