/- Part 9 of what stands below the statement. -/
import Derived.Lib.SlKeysI
import Derived.Test.YtfgjbkjddcjlfaaGreatS8
set_option linter.defProp false
set_option linter.unusedSimpArgs false
set_option linter.unusedVariables false
namespace Go.Proofs
open Tryz
open Go Go.Shelf Go.RowKit
variable {P:Program} {ρ:Ren}
set_option maxHeartbeats 1000000 in
def zsy(L:SlLaysE0.n41 P ρ)(i0:TypeInfo)(z:Value)(size bytes:Nat)(hi:P.info? (ρ.t 23)=some i0)(hz0:i0.zero=some z)(hz1:i0.size=size)(hz2:i0.bytes=bytes)(hzs:z.cells.size=size)(hsz:0<size)
  (z23:∀w,(Go.sizeOf (ρ.t 23)).run P w=.ok size w) (ad:Addr) (c:Nat) (w:World) :
  Calls P (ρ.f 41) #[.slice (some ad) 0 c] w fun e w'=>∃v',e=.returned v'∧w'.ownsRow w.heap.size (ρ.t 23) size v' 0 []∧Below w.heap.size w w':=by
 have mixed:=L.mixed;have t4:=L.t4;have a4:=L.a4;have z4:=L.z4;have v4:=L.v4;have t22:=L.t22;have a22:=L.a22;have z22:=L.z22;have v22:=L.v22
 have q22:∀(w:World) (a:Option Addr) (n c n' c':Nat),(binOp .eql (ρ.t 22) (.slice a n c) (.slice none n' c')).run P w=.ok (.bool a.isNone) w:=fun w a n c n' c'=>Lib.run_eql_slice_nil w _ _ a n c n' c' L.t22
 have u22:∀w,Sem.run P (underlying (ρ.t 22)) w=.ok (TypeDesc.slice (ρ.t 23)) w:=run_underlying t22
 obtain⟨_,_,FG⟩:=L.f41
 go_enter FG,SlBodyN.n41_ntmps ρ
 go_wp2_with (at_builtin;refine wpList_append_own _ rfl _ _ (ρ.t 22) rfl w.heap.size (ρ.t 23) i0 z size bytes t22 hi hz0 hz1 hz2 hzs hsz _ _ _ rfl (World.ownsRow_made w #[] 0 (xak _) (xbz _) (by simp)) ad 0 c [] rfl ?qc1 ?qc2 ?qc3 ?qc4 ?qc5 ?qc6 ?_)
 case qc1=>simp
 case qc2=>intro j u hj;simp at hj
 case qc3=>intro u hu;simp at hu
 case qc4=>exact xbz _
 case qc5=>simp
 case qc6=>simp
 intro v' w1 hown hgrow hnil
 go_wp2
 go_ret
 exact⟨v',rfl,by simpa using hown,((Below.refl _ w).alloc (xak _) _).grown hgrow (by simp) (by intro k hk;simp[Value.ownBlock]at hk;omega)⟩
end Go.Proofs
namespace Go.Proofs.YtfgjbkjddcjlfaaGreat
open Tryz
open Go Go.Proofs Go.RowKit Go.X
def enters173:zcf prog 137:=enters_of func137 (by kernel_rfl) rfl
def enters186:zcf prog 145:=enters_of func145 (by kernel_rfl) rfl
def enters200:zcf prog 163:=enters_of func163 (by kernel_rfl) rfl
def enters208:zcf prog 160:=enters_of func160 (by kernel_rfl) rfl
def enters174:zcf prog 125:=enters_of func125 (by kernel_rfl) rfl
def info161:(prog.info? 161).map (fun i=>(i.zero,i.size,i.bytes))=some (some (.int .u32 0),1,4):=by kernel_rfl
def info3:(prog.info? 3).map (fun i=>(i.zero,i.size,i.bytes))=some (some (.int .i64 0),1,8):=by kernel_rfl
def sz161(w:World):(Go.sizeOf 161).run prog w=.ok 1 w:=sizeOf161 w
def sz3(w:World):(Go.sizeOf 3).run prog w=.ok 1 w:=sizeOf3 w
noncomputable def d137 (xs:List Int):Option (List Int):=bif decide ((xs.length:Int)≤LIM)then some xs else none
def sg137:Sig:=⟨[(y83,.bw)],[(y83,.own 161 .sh)]⟩
def sim137:Sim prog 137 sg137 d137:=by
 obtain⟨i0,hi,he⟩:=xad.1 info161
 simp only[xba]at he
 obtain⟨e1,e2,e3⟩:=he
 refine sim_clone (k:=.u32) (et:=161) enters173 (fun b off n c news w hl hn hc h1=>?_) (fun A c w=>?_) (fun n c w=>AnyE.slices_Clone_nil Tryz.cloneN n c w)
 ·refine Calls.mono (AnyE.slices_Clone Tryz.cloneN i0 _ 1 4 hi e1 e2 e3 rfl Nat.one_pos sz161 b off n c news w (by simpa using hl) (by unfold maxLen;omega) (by omega) hc h1) fun e w' ⟨v,q1,q2,_,q4⟩=>⟨v,q1,q2,q4⟩
 ·exact zsy Tryz.cloneN i0 _ 1 4 hi e1 e2 e3 rfl Nat.one_pos sz161 A c w
noncomputable def E137:FnE prog:=⟨137,sg137,d137,sim137⟩
noncomputable def d145 (xs:List Int):Option (List Int):=bif decide ((xs.length:Int)≤LIM)then some xs else none
def sg145:Sig:=⟨[(y23,.bw)],[(y23,.own 3 .sh)]⟩
def sim145:Sim prog 145 sg145 d145:=by
 obtain⟨i0,hi,he⟩:=xad.1 info3
 simp only[xba]at he
 obtain⟨e1,e2,e3⟩:=he
 refine sim_clone (k:=.i64) (et:=3) enters186 (fun b off n c news w hl hn hc h1=>?_) (fun A c w=>?_) (fun n c w=>AnyE.slices_Clone_nil Tryz.cloneI n c w)
 ·refine Calls.mono (AnyE.slices_Clone Tryz.cloneI i0 _ 1 8 hi e1 e2 e3 rfl Nat.one_pos sz3 b off n c news w (by simpa using hl) (by unfold maxLen;omega) (by omega) hc h1) fun e w' ⟨v,q1,q2,_,q4⟩=>⟨v,q1,q2,q4⟩
 ·exact zsy Tryz.cloneI i0 _ 1 8 hi e1 e2 e3 rfl Nat.one_pos sz3 A c w
noncomputable def E145:FnE prog:=⟨145,sg145,d145,sim145⟩
def d163(x:Int):Option Int:=some (Lib.bitLen x.toNat)
def sg163:Sig:=⟨[(.int .u32,.sh)],[(.int .i64,.sh)]⟩
def u32_range{x:Int}(h:IntKind.u32.wrap x=x):0≤x∧x≤4294967295:=by
 simp[IntKind.wrap,IntKind.bits,IntKind.signed]at h
 omega
def u64_range{x:Int}(h:IntKind.u64.wrap x=x):0≤x∧x≤18446744073709551615:=by
 simp[IntKind.wrap,IntKind.bits,IntKind.signed]at h
 omega
def ztt{n:Nat}(h:n≤64):IntKind.i64.wrap (n:Int)=n:=by
 simp[IntKind.wrap,IntKind.bits,IntKind.signed]
 omega
def sim163:Sim prog 163 sg163 d163:=by
 refine sim_int1 (k:=.u32) (k':=.i64) (g:=fun x=>Lib.bitLen x.toNat) enters200 (fun x w hx=>?_) (fun x hx=>?_)
 ·obtain⟨h0,h1⟩:=u32_range hx
  exact Any.bits_Len32 Tryz.len32 x w h0 h1
 ·obtain⟨h0,h1⟩:=u32_range hx
  have:=Any.bitLen_le32 x h0 h1
  exact ztt (by omega)
noncomputable def E163:FnE prog:=⟨163,sg163,d163,sim163⟩
def d160(x:Int):Option Int:=some (Lib.bitLen x.toNat)
def sg160:Sig:=⟨[(.int .u64,.sh)],[(.int .i64,.sh)]⟩
def sim160:Sim prog 160 sg160 d160:=by
 refine sim_int1 (k:=.u64) (k':=.i64) (g:=fun x=>Lib.bitLen x.toNat) enters208 (fun x w hx=>?_) (fun x hx=>?_)
 ·obtain⟨h0,h1⟩:=u64_range hx
  exact Any.bits_Len Tryz.len x w h0 h1
 ·obtain⟨h0,h1⟩:=u64_range hx
  have:=Any.bitLen_le64 x h0 h1
  exact ztt (by omega)
noncomputable def E160:FnE prog:=⟨160,sg160,d160,sim160⟩
noncomputable def d125 (xs:List Int):Option (List Int):=bif decide ((xs.length:Int)≤LIM)then some (zdq xs)else none
def sg125:Sig:=⟨[(y23,.io (.own 3 .sh))],[]⟩
def sim125:Sim prog 125 sg125 d125:=by
 refine sim_sort enters174 (fun g cap zs cur w hg h1 h2 h3 h4 h5=>?_) fun w=>AnyM.slices_Sort_int_none Tryz.sortA none 0 w
 have hH:=holds_of_block_i hg h4
 have hgl:g<w.heap.size:=(xbg.1 hg).1
 refine Calls.mono (AnyM.slices_Sort_int Tryz.sortA g 0 cap zs w hH hgl (by omega)) fun e w' ⟨q1,k,os,q2⟩=>?_
 subst q2
 exact⟨q1,grownBy_sorted_i _,ownsRow_sorted_i (by simp[zdq]) (xbz _) hg h1 h2 (by simpa using h3)⟩
noncomputable def E125:FnE prog:=⟨125,sg125,d125,sim125⟩
end Go.Proofs.YtfgjbkjddcjlfaaGreat
