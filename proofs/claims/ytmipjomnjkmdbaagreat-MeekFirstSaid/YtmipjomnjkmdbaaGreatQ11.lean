/- Part 11 of what stands below the statement. -/
import Derived.Test.YtmipjomnjkmdbaaGreatQ10
open Go Go.Proofs Go.X
namespace Go.Proofs.YtmipjomnjkmdbaaGreat
set_option linter.unusedVariables false
set_option maxRecDepth 100000
abbrev ub11:=(Bool × (List Int × List Int))
abbrev ub5:=(List ub11 × (List ub11 × (ub11 × (ub11 × (ub11 × (List Int × (List Int × List Int)))))))
abbrev ub4:=(Int × (Int × (Int × (Int × (List ub5 × List Int)))))
abbrev ub7:=(List Int × (Int × (Int × ub11)))
abbrev ub10:=(List ub11)
abbrev ub8:=(List ub10)
abbrev ub15:=(List Int × Int)
abbrev ub12:=(List ub15)
abbrev ub16:=(List Bool)
abbrev ub9:=(List ub16 × (List Bool × List Int))
abbrev ub13:=(List ub16)
abbrev ub17:=(List Int)
abbrev ub6:=(List Int × (List ub17 × (Int × (Int × (Int × (Int × (Int × (Int × Int))))))))
abbrev ub3:=(ub6 × (List Int × (Int × (Int × (List ub7 × (List Int × (List ub11 × (Int × (List ub10 × ub4)))))))))
abbrev ub0:=(ub4 × ub3)
abbrev ub1:=(ub3 × ub5)
abbrev ub2:=(ub3 × ub10)
abbrev ub14:=(List ub17)
abbrev ub18:=Int × ub12 × ub17 × ub6 × Int × Bool × Bool
noncomputable def d19 (gs:List ub15):Option Bool :=
 (zaa (β:=ub12 ⊕ Bool) (fun ((gs_1,i):ub12 × Int) =>
   bif (decide (i < (gs_1.length:Int))) then
    bif (decide (0≤i) && decide (i < (gs_1.length:Int))) then
     bif (decide (12 < (((List.getD gs_1 (Int.toNat i) ([],0)).1).length:Int))) then
      some (Sum.inr (Sum.inr false))
     else
      some (Sum.inl (gs_1,(w (i+1))))
    else none
   else
    some (Sum.inr (Sum.inl gs_1))) (gs,0)).bind fun
 | Sum.inl gs_2 =>
  some (decide ((gs_2.length:Int)≤60))
 | Sum.inr t2 =>
  some t2
noncomputable def d20 (l:List ub17):Option Bool :=
 (zaa (β:=ub14 ⊕ Bool) (fun ((l_1,i):ub14 × Int) =>
   bif (decide (i < (l_1.length:Int))) then
    bif (decide (0≤i) && decide (i < (l_1.length:Int))) then
     bif (decide (12 < ((List.getD l_1 (Int.toNat i) []).length:Int))) then
      some (Sum.inr (Sum.inr false))
     else
      some (Sum.inl (l_1,(w (i+1))))
    else none
   else
    some (Sum.inr (Sum.inl l_1))) (l,0)).bind fun
 | Sum.inl l_2 =>
  some (decide ((l_2.length:Int)≤16))
 | Sum.inr t2 =>
  some t2
noncomputable def d49 (l:List Int) (x:Int):Option Bool :=
 (zaa (β:=Unit ⊕ Bool) (fun ((l_1,x_1,i):ub17 × Int × Int) =>
   bif (decide (i < (l_1.length:Int))) then
    bif (decide (0≤i) && decide (i < (l_1.length:Int))) then
     bif (decide ((List.getD l_1 (Int.toNat i) 0)=x_1)) then
      some (Sum.inr (Sum.inr true))
     else
      some (Sum.inl (l_1,x_1,(w (i+1))))
    else none
   else
    some (Sum.inr (Sum.inl ()))) (l,x,0)).bind fun
 | Sum.inl _ =>
  some false
 | Sum.inr t4 =>
  some t4
def sg49:Sig:=⟨[(y26,.bw),(y2,.sh)],[(y4,.sh)]⟩
def plan49:Plan:=(.seq (.reg [] []) (.seq (.seq (.reg [] []) (.block (.loop [(0,.v y26 .bw),(1,.v y2 .sh),(5,.v y2 .sh)] [(.brk 0,[]),(.ret,[(4,.v y4 .sh)])] (.seq (.seq (.reg [] []) (.cond .nil .nil)) (.seq (.block (.seq (.reg [] []) (.cond (.seq (.reg [] []) .nil) .nil))) (.reg [] [])))))) (.seq (.reg [] []) .nil)))
theorem ev49 (xs:Vals (ptys sg49.ps)):evF (P:=Tryz.prog) tab [] sg49 Tryz.f49.results.toList (code Tryz.f49) plan49 xs=d49 xs.1 xs.2.1:=by kernel_rfl
theorem sim49:Sim Tryz.prog 49 sg49 d49:=zah mixd zan Tryz.func49 (zac rfl) Tryz.call49 (Nat.le_of_ble_eq_true (by kernel_rfl)) (by kernel_rfl) plan49 _ fun xs y h=>(ev49 xs).trans h
noncomputable def E49:FnE Tryz.prog:=⟨49,sg49,d49,sim49⟩
noncomputable def d32 (n:Int) (p:List Int):Option Bool :=
 (zaa (β:=Unit ⊕ Bool) (fun ((n_1,p_1,i):Int × ub17 × Int) =>
   bif (decide (i < (p_1.length:Int))) then
    letJ (fun ((n_2,p_2,i_1,t34):Int × ub17 × Int × Bool) =>
      bif t34 then
       some (Sum.inr (Sum.inr false))
      else
       some (Sum.inl (n_2,p_2,(w (i_1+1))))) fun j_ =>
    bif (decide (0≤i) && decide (i < (p_1.length:Int))) then
     bif !(decide ((List.getD p_1 (Int.toNat i) 0) < 0)) then
      bif (decide (0≤i) && decide (i < (p_1.length:Int))) then
       bif !(decide (n_1≤(List.getD p_1 (Int.toNat i) 0))) then
        bif (zcf 0 i p_1.length) then
         bif (decide (0≤i) && decide (i < (p_1.length:Int))) then
          (d49 (List.drop 0 (List.take (Int.toNat i) p_1)) (List.getD p_1 (Int.toNat i) 0)).bind fun r =>
          j_ (n_1,p_1,i,r)
         else none
        else none
       else
        j_ (n_1,p_1,i,true)
      else none
     else
      j_ (n_1,p_1,i,true)
    else none
   else
    some (Sum.inr (Sum.inl ()))) (n,p,0)).bind fun
 | Sum.inl _ =>
  some true
 | Sum.inr t4 =>
  some t4
def sg32:Sig:=⟨[(y2,.sh),(y26,.bw)],[(y4,.sh)]⟩
def plan32:Plan:=(.seq (.reg [] []) (.seq (.seq (.reg [] []) (.block (.loop [(0,.v y2 .sh),(1,.v y26 .bw),(5,.v y2 .sh)] [(.brk 0,[]),(.ret,[(4,.v y4 .sh)])] (.seq (.seq (.reg [] []) (.cond .nil .nil)) (.seq (.block (.join (.reg [] []) [(0,.v y2 .sh),(1,.v y26 .bw),(5,.v y2 .sh),(34,.v y4 .sh)] (.cond (.seq (.reg [] []) .nil) .nil))) (.reg [] [])))))) (.seq (.reg [] []) .nil)))
theorem ev32 (xs:Vals (ptys sg32.ps)):evF (P:=Tryz.prog) tab [.fn E49] sg32 Tryz.f32.results.toList (code Tryz.f32) plan32 xs=d32 xs.1 xs.2.1:=by kernel_rfl
theorem sim32:Sim Tryz.prog 32 sg32 d32:=zah mixd zan Tryz.func32 (zac rfl) Tryz.call32 (Nat.le_of_ble_eq_true (by kernel_rfl)) (by kernel_rfl) plan32 _ fun xs y h=>(ev32 xs).trans h
noncomputable def E32:FnE Tryz.prog:=⟨32,sg32,d32,sim32⟩
noncomputable def d97 (a:List Int) (b:List Int):Option Bool :=
 (zaa (β:=(ub17 × ub17) ⊕ Bool) (fun ((a_1,b_1,i):ub17 × ub17 × Int) =>
   letJ (fun ((a_2,b_2,i_1,t15):ub17 × ub17 × Int × Bool) =>
     bif t15 then
      bif (decide (0≤i_1) && decide (i_1 < (a_2.length:Int))) then
       bif (decide (0≤i_1) && decide (i_1 < (b_2.length:Int))) then
        bif !(decide ((List.getD a_2 (Int.toNat i_1) 0)=(List.getD b_2 (Int.toNat i_1) 0))) then
         bif (decide (0≤i_1) && decide (i_1 < (a_2.length:Int))) then
          bif (decide (0≤i_1) && decide (i_1 < (b_2.length:Int))) then
           some (Sum.inr (Sum.inr (decide ((List.getD a_2 (Int.toNat i_1) 0) < (List.getD b_2 (Int.toNat i_1) 0)))))
          else none
         else none
        else
         some (Sum.inl (a_2,b_2,(w (i_1+1))))
       else none
      else none
     else
      some (Sum.inr (Sum.inl (a_2,b_2)))) fun j_ =>
   bif (decide (i < (a_1.length:Int))) then
    j_ (a_1,b_1,i,(decide (i < (b_1.length:Int))))
   else
    j_ (a_1,b_1,i,false)) (a,b,0)).bind fun
 | Sum.inl (a_3,b_3) =>
  some (decide ((a_3.length:Int) < (b_3.length:Int)))
 | Sum.inr t4 =>
  some t4
def sg97:Sig:=⟨[(y26,.bw),(y26,.bw)],[(y4,.sh)]⟩
def plan97:Plan:=(.seq (.reg [] []) (.seq (.seq (.reg [] []) (.block (.loop [(0,.v y26 .bw),(1,.v y26 .bw),(5,.v y2 .sh)] [(.brk 0,[(0,.v y26 .bw),(1,.v y26 .bw)]),(.ret,[(4,.v y4 .sh)])] (.seq (.join (.reg [] []) [(0,.v y26 .bw),(1,.v y26 .bw),(5,.v y2 .sh),(15,.v y4 .sh)] (.cond .nil .nil)) (.seq (.block (.seq (.reg [] []) (.cond (.seq (.reg [] []) .nil) .nil))) (.reg [] [])))))) (.seq (.reg [] []) .nil)))
theorem ev97 (xs:Vals (ptys sg97.ps)):evF (P:=Tryz.prog) tab [] sg97 Tryz.f97.results.toList (code Tryz.f97) plan97 xs=d97 xs.1 xs.2.1:=by kernel_rfl
theorem sim97:Sim Tryz.prog 97 sg97 d97:=zah mixd zan Tryz.func97 (zac rfl) Tryz.call97 (Nat.le_of_ble_eq_true (by kernel_rfl)) (by kernel_rfl) plan97 _ fun xs y h=>(ev97 xs).trans h
noncomputable def E97:FnE Tryz.prog:=⟨97,sg97,d97,sim97⟩
noncomputable def d38 (a:List Int) (b:List Int):Option Bool :=
 (d97 a b).bind fun r =>
 bif !r then
  (d97 b a).bind fun r_1 =>
  some (!r_1)
 else
  some false
def sg38:Sig:=⟨[(y26,.bw),(y26,.bw)],[(y4,.sh)]⟩
def plan38:Plan:=(.seq (.reg [] []) (.seq (.reg [] []) .nil))
theorem ev38 (xs:Vals (ptys sg38.ps)):evF (P:=Tryz.prog) tab [.fn E97] sg38 Tryz.f38.results.toList (code Tryz.f38) plan38 xs=d38 xs.1 xs.2.1:=by kernel_rfl
theorem sim38:Sim Tryz.prog 38 sg38 d38:=zah mixd zan Tryz.func38 (zac rfl) Tryz.call38 (Nat.le_of_ble_eq_true (by kernel_rfl)) (by kernel_rfl) plan38 _ fun xs y h=>(ev38 xs).trans h
noncomputable def E38:FnE Tryz.prog:=⟨38,sg38,d38,sim38⟩
noncomputable def d98 (gs:List ub15) (p:List Int) (k:Int):Option ub12 :=
 (zaa (β:=(ub17 × Int × ub12 × Bool)) (fun ((gs_1,p_1,k_1,out,done,i):ub12 × ub17 × Int × ub12 × Bool × Int) =>
   bif (decide (i < (gs_1.length:Int))) then
    letJ (fun ((gs_4,p_4,k_4,out_3,done_3,i_3):ub12 × ub17 × Int × ub12 × Bool × Int) =>
      some (Sum.inl (gs_4,p_4,k_4,out_3,done_3,(w (i_3+1))))) fun j__2 =>
    bif (decide (0≤i) && decide (i < (gs_1.length:Int))) then
     letJ (fun ((gs_3,p_3,k_3,out_2,done_2,i_2,g_1):ub12 × ub17 × Int × ub12 × Bool × Int × ub15) =>
       bif (decide ((out_2.length:Int)+(([g_1]:List ub15).length:Int)≤LIM)) then
        j__2 (gs_3,p_3,k_3,(out_2++[g_1]),done_2,i_2)
       else none) fun j__1 =>
     letJ (fun ((gs_2,p_2,k_2,out_1,done_1,i_1,g,t29):ub12 × ub17 × Int × ub12 × Bool × Int × ub15 × Bool) =>
       bif t29 then
        (d38 g.1 p_2).bind fun r_1 =>
        bif r_1 then
         bif (decide ((out_1.length:Int)+(([(g.1,(w (g.2+k_2)))]:List ub15).length:Int)≤LIM)) then
          j__2 (gs_2,p_2,k_2,(out_1++[(g.1,(w (g.2+k_2)))]),true,i_1)
         else none
        else
         bif (decide ((out_1.length:Int)+(([(p_2,k_2)]:List ub15).length:Int)≤LIM)) then
          j__1 (gs_2,p_2,k_2,(out_1++[(p_2,k_2)]),true,i_1,g)
         else none
       else
        j__1 (gs_2,p_2,k_2,out_1,done_1,i_1,g)) fun j_ =>
     bif !done then
      (d97 ((List.getD gs_1 (Int.toNat i) ([],0)).1) p_1).bind fun r =>
      j_ (gs_1,p_1,k_1,out,done,i,(List.getD gs_1 (Int.toNat i) ([],0)),!r)
     else
      j_ (gs_1,p_1,k_1,out,done,i,(List.getD gs_1 (Int.toNat i) ([],0)),false)
    else none
   else
    some (Sum.inr (p_1,k_1,out,done))) (gs,p,k,[],false,0)).bind fun ((p_5,k_5,out_4,done_4):ub17 × Int × ub12 × Bool) =>
 letJ (fun (out_5:List ub15) =>
   some out_5) fun j__3 =>
 bif !done_4 then
  bif (decide ((out_4.length:Int)+(([(p_5,k_5)]:List ub15).length:Int)≤LIM)) then
   j__3 (out_4++[(p_5,k_5)])
  else none
 else
  j__3 out_4
def sg98:Sig:=⟨[(y25,.sh),(y26,.sh),(y2,.sh)],[(y25,(.own 92 .sh))]⟩
def plan98:Plan:=(.seq (.reg [] []) (.seq (.reg [] [{ fl:=2 }]) (.seq (.reg [] []) (.seq (.seq (.reg [] []) (.block (.loop [(0,.v y25 .sh),(1,.v y26 .sh),(2,.v y2 .sh),(7,.v y25 (.own 92 .sh)),(8,.v y4 .sh),(9,.v y2 .sh)] [(.brk 0,[(1,.v y26 .sh),(2,.v y2 .sh),(7,.v y25 (.own 92 .sh)),(8,.v y4 .sh)])] (.seq (.seq (.reg [] []) (.cond .nil .nil)) (.join (.block (.seq (.reg [] []) (.join (.join (.reg [] []) [(0,.v y25 .sh),(1,.v y26 .sh),(2,.v y2 .sh),(7,.v y25 (.own 92 .sh)),(8,.v y4 .sh),(9,.v y2 .sh),(10,.v (.ptr y92) (.own 0 .sh)),(29,.v y4 .sh)] (.cond (.seq (.reg [] []) (.seq (.seq (.reg [] []) (.cond (.seq (.reg [] []) .nil) .nil)) (.reg [] []))) .nil)) [(0,.v y25 .sh),(1,.v y26 .sh),(2,.v y2 .sh),(7,.v y25 (.own 92 .sh)),(8,.v y4 .sh),(9,.v y2 .sh),(10,.v (.ptr y92) (.own 0 .sh))] (.reg [] [])))) [(0,.v y25 .sh),(1,.v y26 .sh),(2,.v y2 .sh),(7,.v y25 (.own 92 .sh)),(8,.v y4 .sh),(9,.v y2 .sh)] (.reg [] [])))))) (.join (.seq (.reg [] []) (.cond (.reg [] []) .nil)) [(7,.v y25 (.own 92 .sh))] (.seq (.reg [] []) .nil))))))
theorem ev98 (xs:Vals (ptys sg98.ps)):evF (P:=Tryz.prog) tab [.fn E97,.fn E38] sg98 Tryz.f98.results.toList (code Tryz.f98) plan98 xs=d98 xs.1 xs.2.1 xs.2.2.1:=by kernel_rfl
theorem sim98:Sim Tryz.prog 98 sg98 d98:=zah mixd zan Tryz.func98 (zac rfl) Tryz.call98 (Nat.le_of_ble_eq_true (by kernel_rfl)) (by kernel_rfl) plan98 _ fun xs y h=>(ev98 xs).trans h
noncomputable def E98:FnE Tryz.prog:=⟨98,sg98,d98,sim98⟩
noncomputable def d48 (n:Int) (ballots:List ub17):Option (ub12 × Int) :=
 letJ (fun ((n_1,ballots_1,t13):Int × ub14 × Bool) =>
   bif t13 then
    some ([],4)
   else
    bif (decide (100000 < (ballots_1.length:Int))) then
     some ([],7)
    else
     (zaa (β:=ub12 ⊕ (ub12 × Int)) (fun ((n_2,ballots_2,gs,i):Int × ub14 × ub12 × Int) =>
       bif (decide (i < (ballots_2.length:Int))) then
        bif (decide (0≤i) && decide (i < (ballots_2.length:Int))) then
         (d32 n_2 (List.getD ballots_2 (Int.toNat i) [])).bind fun r =>
         bif !r then
          some (Sum.inr (Sum.inr ([],8)))
         else
          bif (decide (0≤i) && decide (i < (ballots_2.length:Int))) then
           bif (decide ((([]:List Int).length:Int)+((List.getD ballots_2 (Int.toNat i) []).length:Int)≤LIM)) then
            (d98 gs (List.getD ballots_2 (Int.toNat i) []) 1).bind fun r_1 =>
            some (Sum.inl (n_2,ballots_2,r_1,(w (i+1))))
           else none
          else none
        else none
       else
        some (Sum.inr (Sum.inl gs))) (n_1,ballots_1,[],0)).bind fun
     | Sum.inl gs_1 =>
      some (gs_1,0)
     | Sum.inr (t4,t5) =>
      some (t4,t5)) fun j_ =>
 bif !(decide (n < 1)) then
  j_ (n,ballots,(decide (7 < n)))
 else
  j_ (n,ballots,true)
def sg48:Sig:=⟨[(y2,.sh),(y27,.bw)],[(y25,.sh),(y2,.sh)]⟩
def plan48:Plan:=(.post (.seq (.reg [] []) (.seq (.join (.reg [] []) [(0,.v y2 .sh),(1,.v y27 .bw),(13,.v y4 .sh)] (.cond (.seq (.reg [] []) .nil) .nil)) (.seq (.seq (.reg [] []) (.cond (.seq (.reg [] []) .nil) .nil)) (.seq (.reg [] [{ fl:=2 }]) (.seq (.seq (.reg [] []) (.block (.loop [(0,.v y2 .sh),(1,.v y27 .bw),(6,.v y25 (.own 92 .sh)),(7,.v y2 .sh)] [(.brk 0,[(6,.v y25 (.own 92 .sh))]),(.ret,[(4,.v y25 .sh),(5,.v y2 .sh)])] (.seq (.seq (.reg [] []) (.cond .nil .nil)) (.seq (.block (.seq (.seq (.reg [] []) (.cond (.seq (.reg [] []) .nil) .nil)) (.reg [(6,[])] [{},{},{},{},{},{},{ frz:=[(35,[])] }]))) (.reg [] [])))))) (.seq (.reg [] []) .nil)))))) [(4,[])])
theorem ev48 (xs:Vals (ptys sg48.ps)):evF (P:=Tryz.prog) tab [.fn E32,.fn E98] sg48 Tryz.f48.results.toList (code Tryz.f48) plan48 xs=d48 xs.1 xs.2.1:=by kernel_rfl
theorem sim48:Sim Tryz.prog 48 sg48 d48:=zah mixd zan Tryz.func48 (zac rfl) Tryz.call48 (Nat.le_of_ble_eq_true (by kernel_rfl)) (by kernel_rfl) plan48 _ fun xs y h=>(ev48 xs).trans h
noncomputable def E48:FnE Tryz.prog:=⟨48,sg48,d48,sim48⟩
noncomputable def d72 (n:Int):Option ub14 :=
 (zaa (β:=ub14) (fun ((n_1,out,i):Int × ub14 × Int) =>
   bif (decide (i < n_1)) then
    bif (decide ((out.length:Int)+(([[(wu8 (w (97+i)))]]:List ub17).length:Int)≤LIM)) then
     some (Sum.inl (n_1,(out++[[(wu8 (w (97+i)))]]),(w (i+1))))
    else none
   else
    some (Sum.inr out)) (n,[],0)).bind fun (out_1:List ub17) =>
 some out_1
def sg72:Sig:=⟨[(y2,.sh)],[(y22,(.own 9 .sh))]⟩
def plan72:Plan:=(.seq (.reg [] []) (.seq (.reg [] [{ fl:=2 }]) (.seq (.seq (.reg [] []) (.block (.loop [(0,.v y2 .sh),(3,.v y22 (.own 9 .sh)),(4,.v y2 .sh)] [(.brk 0,[(3,.v y22 (.own 9 .sh))])] (.seq (.seq (.reg [] []) (.cond .nil .nil)) (.seq (.block (.reg [] [])) (.reg [] [])))))) (.seq (.reg [] []) .nil))))
theorem ev72 (xs:Vals (ptys sg72.ps)):evF (P:=Tryz.prog) tab [] sg72 Tryz.f72.results.toList (code Tryz.f72) plan72 xs=d72 xs.1:=by kernel_rfl
theorem sim72:Sim Tryz.prog 72 sg72 d72:=zah mixd zan Tryz.func72 (zac rfl) Tryz.call72 (Nat.le_of_ble_eq_true (by kernel_rfl)) (by kernel_rfl) plan72 _ fun xs y h=>(ev72 xs).trans h
noncomputable def E72:FnE Tryz.prog:=⟨72,sg72,d72,sim72⟩
noncomputable def d24 (x:Int) (n:Int):Option Int :=
 bif (!decide (n=0)) then
  bif (!decide (n=0)) then
   some (w (Int.tmod (w ((w (Int.tmod x n))+n)) n))
  else none
 else none
def sg24:Sig:=⟨[(y2,.sh),(y2,.sh)],[(y2,.sh)]⟩
def plan24:Plan:=(.seq (.reg [] []) (.seq (.reg [] []) .nil))
theorem ev24 (xs:Vals (ptys sg24.ps)):evF (P:=Tryz.prog) tab [] sg24 Tryz.f24.results.toList (code Tryz.f24) plan24 xs=d24 xs.1 xs.2.1:=by kernel_rfl
theorem sim24:Sim Tryz.prog 24 sg24 d24:=zah mixd zan Tryz.func24 (zac rfl) Tryz.call24 (Nat.le_of_ble_eq_true (by kernel_rfl)) (by kernel_rfl) plan24 _ fun xs y h=>(ev24 xs).trans h
noncomputable def E24:FnE Tryz.prog:=⟨24,sg24,d24,sim24⟩
noncomputable def d25 (method:Int) (n:Int) (seats:Int) (digits:Int) (ties:Int):Option ub6 :=
 (d72 n).bind fun r =>
 (d24 method 3).bind fun r_1 =>
 (d24 seats 5).bind fun r_2 =>
 (d24 ties 3).bind fun r_3 =>
 letJ (fun ((t10,c):ub6 × ub6) =>
   letJ (fun ((t10_1,c_1):ub6 × ub6) =>
     some c_1) fun j__1 =>
   bif (decide (c.2.2.1=1)) then
    j__1 (t10,(c.1,c.2.1,c.2.2.1,1,c.2.2.2.2))
   else
    j__1 (t10,c)) fun j_ =>
 bif (decide ((w (1+r_1))=2)) then
  (d24 digits 6).bind fun r_4 =>
  j_ (([],[],0,0,0,0,0,0,0),([99],r,(w (1+r_1)),(w (1+r_2)),0,(w (1+r_4)),(w (1+r_3)),0,0))
 else
  j_ (([],[],0,0,0,0,0,0,0),([99],r,(w (1+r_1)),(w (1+r_2)),0,0,(w (1+r_3)),0,0))
def sg25:Sig:=⟨[(y2,.sh),(y2,.sh),(y2,.sh),(y2,.sh),(y2,.sh)],[(y23,.sh)]⟩
def plan25:Plan:=(.seq (.reg [] []) (.seq (.reg [] [{},{},{},{},{},{},{},{},{},{},{},{ frz:=[(13,[])] }]) (.join (.seq (.reg [] []) (.cond (.reg [] []) .nil)) [(10,.v (.ptr y23) (.own 0 .sh)),(11,.v (.ptr y23) (.own 0 (.pr .sh (.pr .sh (.pr .sh (.pr .sh (.pr .sh (.pr .sh (.pr .sh .sh)))))))))] (.join (.seq (.reg [] []) (.cond (.reg [] []) .nil)) [(10,.v (.ptr y23) (.own 0 .sh)),(11,.v (.ptr y23) (.own 0 (.pr .sh (.pr .sh (.pr .sh (.pr .sh (.pr .sh (.pr .sh (.pr .sh .sh)))))))))] (.seq (.reg [] []) .nil)))))
theorem ev25 (xs:Vals (ptys sg25.ps)):evF (P:=Tryz.prog) tab [.fn E72,.fn E24] sg25 Tryz.f25.results.toList (code Tryz.f25) plan25 xs=d25 xs.1 xs.2.1 xs.2.2.1 xs.2.2.2.1 xs.2.2.2.2.1:=by kernel_rfl
theorem sim25:Sim Tryz.prog 25 sg25 d25:=zah mixd zan Tryz.func25 (zac rfl) Tryz.call25 (Nat.le_of_ble_eq_true (by kernel_rfl)) (by kernel_rfl) plan25 _ fun xs y h=>(ev25 xs).trans h
noncomputable def E25:FnE Tryz.prog:=⟨25,sg25,d25,sim25⟩
noncomputable def d165 (n:Int) (prefs:List Int):Option Bool :=
 (zaa (β:=Unit ⊕ Bool) (fun ((n_1,seen,t8,t9,t10):Int × ub16 × ub17 × Int × Int) =>
   bif (decide (t10 < t9)) then
    bif (decide (0≤t10) && decide (t10 < (t8.length:Int))) then
     letJ (fun ((n_2,seen_1,p,t8_1,t9_1,t10_1,t25):Int × ub16 × Int × ub17 × Int × Int × Bool) =>
       bif t25 then
        some (Sum.inr (Sum.inr false))
       else
        bif (decide (0≤p) && decide (p < 7)) then
         some (Sum.inl (n_2,(List.set seen_1 (Int.toNat p) true),t8_1,t9_1,(w (t10_1+1))))
        else none) fun j_ =>
     bif !(decide ((List.getD t8 (Int.toNat t10) 0) < 0)) then
      bif !(decide (n_1≤(List.getD t8 (Int.toNat t10) 0))) then
       bif (decide (0≤(List.getD t8 (Int.toNat t10) 0)) && decide ((List.getD t8 (Int.toNat t10) 0) < 7)) then
        j_ (n_1,seen,(List.getD t8 (Int.toNat t10) 0),t8,t9,t10,(List.getD seen (Int.toNat (List.getD t8 (Int.toNat t10) 0)) false))
       else none
      else
       j_ (n_1,seen,(List.getD t8 (Int.toNat t10) 0),t8,t9,t10,true)
     else
      j_ (n_1,seen,(List.getD t8 (Int.toNat t10) 0),t8,t9,t10,true)
    else none
   else
    some (Sum.inr (Sum.inl ()))) (n,[false,false,false,false,false,false,false],prefs,(prefs.length:Int),0)).bind fun
 | Sum.inl _ =>
  some true
 | Sum.inr t4 =>
  some t4
def sg165:Sig:=⟨[(y2,.sh),(y26,.bw)],[(y4,.sh)]⟩
def plan165:Plan:=(.seq (.reg [] []) (.seq (.reg [] []) (.seq (.seq (.reg [] []) (.block (.loop [(0,.v y2 .sh),(5,.v (.ptr y200) (.own 0 .sh)),(8,.v y26 .bw),(9,.v y2 .sh),(10,.v y2 .sh)] [(.brk 0,[]),(.ret,[(4,.v y4 .sh)])] (.seq (.reg [] []) (.seq (.cond .nil .nil) (.seq (.block (.seq (.reg [] []) (.seq (.join (.reg [] []) [(0,.v y2 .sh),(5,.v (.ptr y200) (.own 0 .sh)),(7,.v y2 .sh),(8,.v y26 .bw),(9,.v y2 .sh),(10,.v y2 .sh),(25,.v y4 .sh)] (.cond (.seq (.reg [] []) .nil) .nil)) (.reg [] [])))) (.reg [] []))))))) (.seq (.reg [] []) .nil))))
theorem ev165 (xs:Vals (ptys sg165.ps)):evF (P:=Tryz.prog) tab [] sg165 Tryz.f165.results.toList (code Tryz.f165) plan165 xs=d165 xs.1 xs.2.1:=by kernel_rfl
theorem sim165:Sim Tryz.prog 165 sg165 d165:=zah mixd zan Tryz.func165 (zac rfl) Tryz.call165 (Nat.le_of_ble_eq_true (by kernel_rfl)) (by kernel_rfl) plan165 _ fun xs y h=>(ev165 xs).trans h
noncomputable def E165:FnE Tryz.prog:=⟨165,sg165,d165,sim165⟩
noncomputable def d215 (x:Int):Option Bool :=
 some (!(decide (x=x)))
def sg215:Sig:=⟨[(y2,.sh)],[(y4,.sh)]⟩
def plan215:Plan:=(.seq (.reg [] []) (.seq (.reg [] []) .nil))
theorem ev215 (xs:Vals (ptys sg215.ps)):evF (P:=Tryz.prog) tab [] sg215 Tryz.f215.results.toList (code Tryz.f215) plan215 xs=d215 xs.1:=by kernel_rfl
theorem sim215:Sim Tryz.prog 215 sg215 d215:=zah mixd zan Tryz.func215 (zac rfl) Tryz.call215 (Nat.le_of_ble_eq_true (by kernel_rfl)) (by kernel_rfl) plan215 _ fun xs y h=>(ev215 xs).trans h
noncomputable def E215:FnE Tryz.prog:=⟨215,sg215,d215,sim215⟩
noncomputable def d198 (x:Int) (y:Int):Option Int :=
 (d215 x).bind fun r =>
 (d215 y).bind fun r_1 =>
 bif r then
  bif r_1 then
   some 0
  else
   some (-1)
 else
  bif r_1 then
   some 1
  else
   bif (decide (x < y)) then
    some (-1)
   else
    bif (decide (y < x)) then
     some 1
    else
     some 0
def sg198:Sig:=⟨[(y2,.sh),(y2,.sh)],[(y2,.sh)]⟩
def plan198:Plan:=(.seq (.reg [] []) (.seq (.reg [] []) (.seq (.reg [] []) (.seq (.seq (.reg [] []) (.cond (.seq (.seq (.reg [] []) (.cond (.seq (.reg [] []) .nil) .nil)) (.seq (.reg [] []) .nil)) .nil)) (.seq (.seq (.reg [] []) (.cond (.seq (.reg [] []) .nil) .nil)) (.seq (.seq (.reg [] []) (.cond (.seq (.reg [] []) .nil) .nil)) (.seq (.seq (.reg [] []) (.cond (.seq (.reg [] []) .nil) .nil)) (.seq (.reg [] []) .nil))))))))
theorem ev198 (xs:Vals (ptys sg198.ps)):evF (P:=Tryz.prog) tab [.fn E215] sg198 Tryz.f198.results.toList (code Tryz.f198) plan198 xs=d198 xs.1 xs.2.1:=by kernel_rfl
theorem sim198:Sim Tryz.prog 198 sg198 d198:=zah mixd zan Tryz.func198 (zac rfl) Tryz.call198 (Nat.le_of_ble_eq_true (by kernel_rfl)) (by kernel_rfl) plan198 _ fun xs y h=>(ev198 xs).trans h
noncomputable def E198:FnE Tryz.prog:=⟨198,sg198,d198,sim198⟩
noncomputable def d166 (s1:List Int) (s2:List Int):Option Int :=
 (zaa (β:=(ub17 × ub17) ⊕ Int) (fun ((s1_1,s2_1,t9,t10,t11):ub17 × ub17 × ub17 × Int × Int) =>
   bif (decide (t11 < t10)) then
    bif (decide (0≤t11) && decide (t11 < (t9.length:Int))) then
     bif (decide ((s2_1.length:Int)≤t11)) then
      some (Sum.inr (Sum.inr 1))
     else
      bif (decide (0≤t11) && decide (t11 < (s2_1.length:Int))) then
       (d198 (List.getD t9 (Int.toNat t11) 0) (List.getD s2_1 (Int.toNat t11) 0)).bind fun r =>
       bif !(decide (r=0)) then
        some (Sum.inr (Sum.inr r))
       else
        some (Sum.inl (s1_1,s2_1,t9,t10,(w (t11+1))))
      else none
    else none
   else
    some (Sum.inr (Sum.inl (s1_1,s2_1)))) (s1,s2,s1,(s1.length:Int),0)).bind fun
 | Sum.inl (s1_2,s2_2) =>
  bif (decide ((s1_2.length:Int) < (s2_2.length:Int))) then
   some (-1)
  else
   some 0
 | Sum.inr t4 =>
  some t4
def sg166:Sig:=⟨[(y26,.bw),(y26,.bw)],[(y2,.sh)]⟩
def plan166:Plan:=(.seq (.reg [] []) (.seq (.seq (.reg [] []) (.block (.loop [(0,.v y26 .bw),(1,.v y26 .bw),(9,.v y26 .bw),(10,.v y2 .sh),(11,.v y2 .sh)] [(.brk 0,[(0,.v y26 .bw),(1,.v y26 .bw)]),(.ret,[(4,.v y2 .sh)])] (.seq (.reg [] []) (.seq (.cond .nil .nil) (.seq (.block (.seq (.reg [] []) (.seq (.seq (.reg [] []) (.cond (.seq (.reg [] []) .nil) .nil)) (.seq (.reg [] []) (.seq (.reg [] []) (.seq (.reg [] []) (.cond (.seq (.reg [] []) .nil) .nil))))))) (.reg [] []))))))) (.seq (.seq (.reg [] []) (.cond (.seq (.reg [] []) .nil) .nil)) (.seq (.reg [] []) .nil))))
theorem ev166 (xs:Vals (ptys sg166.ps)):evF (P:=Tryz.prog) tab [.fn E198] sg166 Tryz.f166.results.toList (code Tryz.f166) plan166 xs=d166 xs.1 xs.2.1:=by kernel_rfl
theorem sim166:Sim Tryz.prog 166 sg166 d166:=zah mixd zan Tryz.func166 (zac rfl) Tryz.call166 (Nat.le_of_ble_eq_true (by kernel_rfl)) (by kernel_rfl) plan166 _ fun xs y h=>(ev166 xs).trans h
noncomputable def E166:FnE Tryz.prog:=⟨166,sg166,d166,sim166⟩
noncomputable def d124 (n:Int) (gs:List ub15):Option Bool :=
 (zaa (β:=Unit ⊕ Bool) (fun ((n_1,gs_1,total,t8,t9,t10):Int × ub12 × Int × ub12 × Int × Int) =>
   bif (decide (t10 < t9)) then
    bif (decide (0≤t10) && decide (t10 < (t8.length:Int))) then
     letJ (fun ((n_2,gs_2,total_1,i,g,t8_1,t9_1,t10_1,t31):Int × ub12 × Int × Int × ub15 × ub12 × Int × Int × Bool) =>
       bif t31 then
        some (Sum.inr (Sum.inr false))
       else
        letJ (fun ((n_3,gs_3,total_2,g_1,t8_2,t9_2,t10_2,t45):Int × ub12 × Int × ub15 × ub12 × Int × Int × Bool) =>
          bif t45 then
           some (Sum.inr (Sum.inr false))
          else
           some (Sum.inl (n_3,gs_3,(w (total_2+g_1.2)),t8_2,t9_2,(w (t10_2+1))))) fun j__1 =>
        bif (decide (0 < i)) then
         bif (decide (0≤(w (i - 1))) && decide ((w (i - 1)) < (gs_2.length:Int))) then
          (d166 ((List.getD gs_2 (Int.toNat (w (i - 1))) ([],0)).1) g.1).bind fun r_1 =>
          j__1 (n_2,gs_2,total_1,g,t8_1,t9_1,t10_1,(decide (0≤r_1)))
         else none
        else
         j__1 (n_2,gs_2,total_1,g,t8_1,t9_1,t10_1,false)) fun j_ =>
     bif !(decide ((List.getD t8 (Int.toNat t10) ([],0)).2 < 1)) then
      bif !(decide ((w (100000 - total)) < (List.getD t8 (Int.toNat t10) ([],0)).2)) then
       (d165 n_1 ((List.getD t8 (Int.toNat t10) ([],0)).1)).bind fun r =>
       j_ (n_1,gs_1,total,t10,(List.getD t8 (Int.toNat t10) ([],0)),t8,t9,t10,!r)
      else
       j_ (n_1,gs_1,total,t10,(List.getD t8 (Int.toNat t10) ([],0)),t8,t9,t10,true)
     else
      j_ (n_1,gs_1,total,t10,(List.getD t8 (Int.toNat t10) ([],0)),t8,t9,t10,true)
    else none
   else
    some (Sum.inr (Sum.inl ()))) (n,gs,0,gs,(gs.length:Int),0)).bind fun
 | Sum.inl _ =>
  some true
 | Sum.inr t4 =>
  some t4
def sg124:Sig:=⟨[(y2,.sh),(y25,.bw)],[(y4,.sh)]⟩
def plan124:Plan:=(.seq (.reg [] []) (.seq (.reg [] []) (.seq (.seq (.reg [] []) (.block (.loop [(0,.v y2 .sh),(1,.v y25 .bw),(5,.v y2 .sh),(8,.v y25 .bw),(9,.v y2 .sh),(10,.v y2 .sh)] [(.brk 0,[]),(.ret,[(4,.v y4 .sh)])] (.seq (.reg [] []) (.seq (.cond .nil .nil) (.seq (.block (.seq (.reg [] []) (.seq (.join (.reg [] []) [(0,.v y2 .sh),(1,.v y25 .bw),(5,.v y2 .sh),(6,.v y2 .sh),(7,.v (.ptr y92) (.own 0 .bw)),(8,.v y25 .bw),(9,.v y2 .sh),(10,.v y2 .sh),(31,.v y4 .sh)] (.cond (.seq (.reg [] []) .nil) .nil)) (.seq (.join (.reg [] []) [(0,.v y2 .sh),(1,.v y25 .bw),(5,.v y2 .sh),(7,.v (.ptr y92) (.own 0 .bw)),(8,.v y25 .bw),(9,.v y2 .sh),(10,.v y2 .sh),(45,.v y4 .sh)] (.cond (.seq (.reg [] []) .nil) .nil)) (.reg [] []))))) (.reg [] []))))))) (.seq (.reg [] []) .nil))))
theorem ev124 (xs:Vals (ptys sg124.ps)):evF (P:=Tryz.prog) tab [.fn E165,.fn E166] sg124 Tryz.f124.results.toList (code Tryz.f124) plan124 xs=d124 xs.1 xs.2.1:=by kernel_rfl
theorem sim124:Sim Tryz.prog 124 sg124 d124:=zah mixd zan Tryz.func124 (zac rfl) Tryz.call124 (Nat.le_of_ble_eq_true (by kernel_rfl)) (by kernel_rfl) plan124 _ fun xs y h=>(ev124 xs).trans h
noncomputable def E124:FnE Tryz.prog:=⟨124,sg124,d124,sim124⟩
noncomputable def d125 (l:List Int) (n:Int):Option Bool :=
 bif (decide ((l.length:Int)=n)) then
  (d165 n l).bind fun r =>
  some r
 else
  some false
def sg125:Sig:=⟨[(y26,.bw),(y2,.sh)],[(y4,.sh)]⟩
def plan125:Plan:=(.seq (.reg [] []) (.seq (.reg [] []) .nil))
theorem ev125 (xs:Vals (ptys sg125.ps)):evF (P:=Tryz.prog) tab [.fn E165] sg125 Tryz.f125.results.toList (code Tryz.f125) plan125 xs=d125 xs.1 xs.2.1:=by kernel_rfl
theorem sim125:Sim Tryz.prog 125 sg125 d125:=zah mixd zan Tryz.func125 (zac rfl) Tryz.call125 (Nat.le_of_ble_eq_true (by kernel_rfl)) (by kernel_rfl) plan125 _ fun xs y h=>(ev125 xs).trans h
noncomputable def E125:FnE Tryz.prog:=⟨125,sg125,d125,sim125⟩
noncomputable def d66 (p0:Int) (p1:ub6) (p2:List ub15) (p3:List Int):Option Int :=
 letJ (fun ((t0,t2,t3,t5,t9,t10):Int × ub12 × ub17 × ub6 × Int × Bool) =>
   letJ (fun ((t0_1,t2_1,t3_1,t5_1,t9_1,t10_1,t27):ub18) =>
     bif t27 then
      some 5
     else
      letJ (fun ((t2_5,t3_5,t9_5,t40_3):ub12 × ub17 × Int × Bool) =>
        bif t40_3 then
         some 4
        else
         (d124 t9_5 t2_5).bind fun r =>
         bif !r then
          some 8
         else
          (d125 t3_5 t9_5).bind fun r_1 =>
          bif !r_1 then
           some 13
          else
           some 0) fun j__5 =>
      letJ (fun ((t0_2,t2_2,t3_2,t5_2,t9_2,t10_2,t40):ub18) =>
        bif t40 then
         j__5 (t2_2,t3_2,t9_2,t40)
        else
         letJ (fun ((t0_3,t2_3,t3_3,t5_3,t9_3,t10_3,t40_1):ub18) =>
           bif t40_1 then
            j__5 (t2_3,t3_3,t9_3,t40_1)
           else
            letJ (fun ((t2_4,t3_4,t5_4,t9_4,t10_4,t40_2):ub12 × ub17 × ub6 × Int × Bool × Bool) =>
              bif t40_2 then
               j__5 (t2_4,t3_4,t9_4,t40_2)
              else
               bif !t10_4 then
                j__5 (t2_4,t3_4,t9_4,!t10_4)
               else
                bif !(decide (t5_4.2.2.2.2.2.2.1 < 1)) then
                 j__5 (t2_4,t3_4,t9_4,(decide (3 < t5_4.2.2.2.2.2.2.1)))
                else
                 j__5 (t2_4,t3_4,t9_4,true)) fun j__4 =>
            bif (decide (t0_3=1)) then
             j__4 (t2_3,t3_3,t5_3,t9_3,t10_3,!(decide (t5_3.2.2.2.1=1)))
            else
             j__4 (t2_3,t3_3,t5_3,t9_3,t10_3,false)) fun j__3 =>
         bif !(decide (t5_2.2.2.2.1 < 1)) then
          j__3 (t0_2,t2_2,t3_2,t5_2,t9_2,t10_2,(decide (5 < t5_2.2.2.2.1)))
         else
          j__3 (t0_2,t2_2,t3_2,t5_2,t9_2,t10_2,true)) fun j__2 =>
      bif !(decide (t9_1 < 1)) then
       j__2 (t0_1,t2_1,t3_1,t5_1,t9_1,t10_1,(decide (7 < t9_1)))
      else
       j__2 (t0_1,t2_1,t3_1,t5_1,t9_1,t10_1,true)) fun j__1 =>
   bif !(decide (t0 < 1)) then
    bif !(decide (3 < t0)) then
     j__1 (t0,t2,t3,t5,t9,t10,!(decide (t5.2.2.1=t0)))
    else
     j__1 (t0,t2,t3,t5,t9,t10,true)
   else
    j__1 (t0,t2,t3,t5,t9,t10,true)) fun j_ =>
 bif (decide (p0=2)) then
  bif (decide (1≤p1.2.2.2.2.2.1)) then
   j_ (p0,p2,p3,p1,(p1.2.1.length:Int),(decide (p1.2.2.2.2.2.1≤6)))
  else
   j_ (p0,p2,p3,p1,(p1.2.1.length:Int),false)
 else
  j_ (p0,p2,p3,p1,(p1.2.1.length:Int),(decide (p1.2.2.2.2.2.1=0)))
def sg66:Sig:=⟨[(y2,.sh),(y23,.bw),(y25,.bw),(y26,.bw)],[(y2,.sh)]⟩
def plan66:Plan:=(.seq (.reg [] []) (.seq (.reg [] []) (.seq (.reg [] []) (.join (.seq (.reg [] []) (.cond (.reg [] []) .nil)) [(0,.v y2 .sh),(2,.v y25 .bw),(3,.v y26 .bw),(5,.v (.ptr y23) (.own 0 .bw)),(9,.v y2 .sh),(10,.v y4 .sh)] (.seq (.block (.join (.reg [] []) [(0,.v y2 .sh),(2,.v y25 .bw),(3,.v y26 .bw),(5,.v (.ptr y23) (.own 0 .bw)),(9,.v y2 .sh),(10,.v y4 .sh),(27,.v y4 .sh)] (.cond (.seq (.reg [] []) .nil) (.join (.join (.reg [] []) [(0,.v y2 .sh),(2,.v y25 .bw),(3,.v y26 .bw),(5,.v (.ptr y23) (.own 0 .bw)),(9,.v y2 .sh),(10,.v y4 .sh),(40,.v y4 .sh)] (.cond .nil (.join (.reg [] []) [(0,.v y2 .sh),(2,.v y25 .bw),(3,.v y26 .bw),(5,.v (.ptr y23) (.own 0 .bw)),(9,.v y2 .sh),(10,.v y4 .sh),(40,.v y4 .sh)] (.cond .nil (.join (.reg [] []) [(2,.v y25 .bw),(3,.v y26 .bw),(5,.v (.ptr y23) (.own 0 .bw)),(9,.v y2 .sh),(10,.v y4 .sh),(40,.v y4 .sh)] (.cond .nil (.seq (.reg [] []) (.cond .nil (.reg [] []))))))))) [(2,.v y25 .bw),(3,.v y26 .bw),(9,.v y2 .sh),(40,.v y4 .sh)] (.cond (.seq (.reg [] []) .nil) (.seq (.reg [] []) (.cond (.seq (.reg [] []) .nil) (.seq (.reg [] []) (.cond (.seq (.reg [] []) .nil) .nil))))))))) (.seq (.reg [] []) .nil))))))
theorem ev66 (xs:Vals (ptys sg66.ps)):evF (P:=Tryz.prog) tab [.fn E124,.fn E125] sg66 Tryz.f66.results.toList (code Tryz.f66) plan66 xs=d66 xs.1 xs.2.1 xs.2.2.1 xs.2.2.2.1:=by kernel_rfl
theorem sim66:Sim Tryz.prog 66 sg66 d66:=zah mixd zan Tryz.func66 (zac rfl) Tryz.call66 (Nat.le_of_ble_eq_true (by kernel_rfl)) (by kernel_rfl) plan66 _ fun xs y h=>(ev66 xs).trans h
noncomputable def E66:FnE Tryz.prog:=⟨66,sg66,d66,sim66⟩
noncomputable def d100 (gs:List ub15):Option Bool :=
 (d124 7 gs).bind fun r =>
 some r
def sg100:Sig:=⟨[(y25,.bw)],[(y4,.sh)]⟩
def plan100:Plan:=(.seq (.reg [] []) (.seq (.reg [] []) .nil))
theorem ev100 (xs:Vals (ptys sg100.ps)):evF (P:=Tryz.prog) tab [.fn E124] sg100 Tryz.f100.results.toList (code Tryz.f100) plan100 xs=d100 xs.1:=by kernel_rfl
theorem sim100:Sim Tryz.prog 100 sg100 d100:=zah mixd zan Tryz.func100 (zac rfl) Tryz.call100 (Nat.le_of_ble_eq_true (by kernel_rfl)) (by kernel_rfl) plan100 _ fun xs y h=>(ev100 xs).trans h
noncomputable def E100:FnE Tryz.prog:=⟨100,sg100,d100,sim100⟩
noncomputable def d104 (l:List ub15) (number:(ub15→Option Int)):Option Int :=
 (zaa (β:=Int) (fun ((number_1,n,t8,t9,t10):(ub15→Option Int) × Int × ub12 × Int × Int) =>
   bif (decide (t10 < t9)) then
    bif (decide (0≤t10) && decide (t10 < (t8.length:Int))) then
     (number_1 (List.getD t8 (Int.toNat t10) ([],0))).bind fun r =>
     some (Sum.inl (number_1,(w (n+r)),t8,t9,(w (t10+1))))
    else none
   else
    some (Sum.inr n)) (number,0,l,(l.length:Int),0)).bind fun (n_1:Int) =>
 some n_1
def sg104:Sig:=⟨[(y25,.bw),(y130,.bw)],[(y2,.sh)]⟩
def plan104:Plan:=(.seq (.reg [] []) (.seq (.reg [] []) (.seq (.seq (.reg [] []) (.block (.loop [(1,.v y130 .bw),(5,.v y2 .sh),(8,.v y25 .bw),(9,.v y2 .sh),(10,.v y2 .sh)] [(.brk 0,[(5,.v y2 .sh)])] (.seq (.reg [] []) (.seq (.cond .nil .nil) (.seq (.block (.seq (.reg [] []) (.reg [] []))) (.reg [] []))))))) (.seq (.reg [] []) .nil))))
theorem ev104 (xs:Vals (ptys sg104.ps)):evF (P:=Tryz.prog) tab [] sg104 Tryz.f104.results.toList (code Tryz.f104) plan104 xs=d104 xs.1 xs.2.1:=by kernel_rfl
theorem sim104:Sim Tryz.prog 104 sg104 d104:=zah mixd zan Tryz.func104 (zac rfl) Tryz.call104 (Nat.le_of_ble_eq_true (by kernel_rfl)) (by kernel_rfl) plan104 _ fun xs y h=>(ev104 xs).trans h
noncomputable def E104:FnE Tryz.prog:=⟨104,sg104,d104,sim104⟩
noncomputable def d126 (g:ub15):Option Int :=
 some g.2
noncomputable def d67 (gs:List ub15):Option Int :=
 (d100 gs).bind fun r =>
 bif !r then
  some 0
 else
  (d104 gs (fun a=>d126 a)).bind fun r_1 =>
  some r_1
noncomputable def d105 (g:ub15):Option Int :=
 bif (decide ((g.1.length:Int)=0)) then
  some 0
 else
  some g.2
def sg105:Sig:=⟨[(y92,.bw)],[(y2,.sh)]⟩
def plan105:Plan:=(.seq (.reg [] []) (.seq (.seq (.reg [] []) (.cond (.seq (.reg [] []) .nil) .nil)) (.seq (.reg [] []) .nil)))
theorem ev105 (xs:Vals (ptys sg105.ps)):evF (P:=Tryz.prog) tab [] sg105 Tryz.f105.results.toList (code Tryz.f105) plan105 xs=d105 xs.1:=by kernel_rfl
theorem sim105:Sim Tryz.prog 105 sg105 d105:=zah mixd zan Tryz.func105 (zac rfl) Tryz.call105 (Nat.le_of_ble_eq_true (by kernel_rfl)) (by kernel_rfl) plan105 _ fun xs y h=>(ev105 xs).trans h
noncomputable def E105:FnE Tryz.prog:=⟨105,sg105,d105,sim105⟩
noncomputable def d52 (gs:List ub15):Option Int :=
 (d100 gs).bind fun r =>
 bif !r then
  some 0
 else
  (d104 gs (fun a=>d105 a)).bind fun r_1 =>
  some r_1
def sg52:Sig:=⟨[(y25,.bw)],[(y2,.sh)]⟩
def plan52:Plan:=(.seq (.reg [] []) (.seq (.seq (.reg [] []) (.cond (.seq (.reg [] []) .nil) .nil)) (.seq (.reg [] []) .nil)))
theorem ev52 (xs:Vals (ptys sg52.ps)):evF (P:=Tryz.prog) tab [.fn E100,.fn E104,.fn E105] sg52 Tryz.f52.results.toList (code Tryz.f52) plan52 xs=d52 xs.1:=by kernel_rfl
theorem sim52:Sim Tryz.prog 52 sg52 d52:=zah mixd zan Tryz.func52 (zac rfl) Tryz.call52 (Nat.le_of_ble_eq_true (by kernel_rfl)) (by kernel_rfl) plan52 _ fun xs y h=>(ev52 xs).trans h
noncomputable def E52:FnE Tryz.prog:=⟨52,sg52,d52,sim52⟩
noncomputable def d30 (ballots:Int) (seats:Int):Option Int :=
 letJ (fun ((ballots_1,seats_1,t18):Int × Int × Bool) =>
   bif t18 then
    some 0
   else
    bif (!decide ((w (seats_1+1))=0)) then
     some (w ((w (Int.tdiv ballots_1 (w (seats_1+1))))+1))
    else none) fun j_ =>
 bif !(decide (ballots < 0)) then
  bif !(decide (100000 < ballots)) then
   bif !(decide (seats < 1)) then
    j_ (ballots,seats,(decide (5 < seats)))
   else
    j_ (ballots,seats,true)
  else
   j_ (ballots,seats,true)
 else
  j_ (ballots,seats,true)
noncomputable def d135 (k:ub3) (standing:Int):Option ub17 :=
 (zaa (β:=ub17) (fun ((standing_1,out,t11,t12,t13):Int × ub17 × ub17 × Int × Int) =>
   bif (decide (t13 < t12)) then
    letJ (fun ((standing_2,out_1,t11_1,t12_1,t13_1):Int × ub17 × ub17 × Int × Int) =>
      some (Sum.inl (standing_2,out_1,t11_1,t12_1,(w (t13_1+1))))) fun j_ =>
    bif (decide (0≤t13) && decide (t13 < (t11.length:Int))) then
     bif (decide ((List.getD t11 (Int.toNat t13) 0)=standing_1)) then
      bif (decide ((out.length:Int)+(([t13]:List Int).length:Int)≤LIM)) then
       j_ (standing_1,(out++[t13]),t11,t12,t13)
      else none
     else
      j_ (standing_1,out,t11,t12,t13)
    else none
   else
    some (Sum.inr out)) (standing,[],k.2.2.2.2.2.1,(k.2.2.2.2.2.1.length:Int),0)).bind fun (out_2:List Int) =>
 some out_2
noncomputable def d130 (p0:ub3):Option ub10 :=
 (zaa (β:=ub2) (fun ((t0,t3,t13,t14):ub3 × ub10 × Int × Int) =>
   bif (decide (t14 < t13)) then
    (d68 0).bind fun r =>
    bif (decide ((t3.length:Int)+(([r]:List ub11).length:Int)≤LIM)) then
     some (Sum.inl (t0,(t3++[r]),t13,(w (t14+1))))
    else none
   else
    some (Sum.inr (t0,t3))) (p0,[],(p0.2.2.2.2.2.1.length:Int),0)).bind fun ((t0_1,t3_1):ub3 × ub10) =>
 (zaa (β:=ub2) (fun ((t0_2,t3_2,t24,t25,t26):ub3 × ub10 × (List ub7) × Int × Int) =>
   bif (decide (t26 < t25)) then
    letJ (fun ((t0_3,t3_3,t24_1,t25_1,t26_1):ub3 × ub10 × (List ub7) × Int × Int) =>
      some (Sum.inl (t0_3,t3_3,t24_1,t25_1,(w (t26_1+1))))) fun j_ =>
    bif (decide (0≤t26) && decide (t26 < (t24.length:Int))) then
     bif (decide ((((List.getD t24 (Int.toNat t26) ([],0,0,false,[],[])).2).2).1 < (((List.getD t24 (Int.toNat t26) ([],0,0,false,[],[])).1).length:Int))) then
      bif (decide (0≤(((List.getD t24 (Int.toNat t26) ([],0,0,false,[],[])).2).2).1) && decide ((((List.getD t24 (Int.toNat t26) ([],0,0,false,[],[])).2).2).1 < (((List.getD t24 (Int.toNat t26) ([],0,0,false,[],[])).1).length:Int))) then
       bif (decide (0≤(List.getD ((List.getD t24 (Int.toNat t26) ([],0,0,false,[],[])).1) (Int.toNat ((((List.getD t24 (Int.toNat t26) ([],0,0,false,[],[])).2).2).1)) 0)) && decide ((List.getD ((List.getD t24 (Int.toNat t26) ([],0,0,false,[],[])).1) (Int.toNat ((((List.getD t24 (Int.toNat t26) ([],0,0,false,[],[])).2).2).1)) 0) < (t3_2.length:Int))) then
        (d68 (((List.getD t24 (Int.toNat t26) ([],0,0,false,[],[])).2).1)).bind fun r_1 =>
        (d172 ((((List.getD t24 (Int.toNat t26) ([],0,0,false,[],[])).2).2).2) r_1).bind fun r_2 =>
        (d138 (List.getD t3_2 (Int.toNat (List.getD ((List.getD t24 (Int.toNat t26) ([],0,0,false,[],[])).1) (Int.toNat ((((List.getD t24 (Int.toNat t26) ([],0,0,false,[],[])).2).2).1)) 0)) (false,[],[])) r_2).bind fun r_3 =>
        bif (decide (0≤(List.getD ((List.getD t24 (Int.toNat t26) ([],0,0,false,[],[])).1) (Int.toNat ((((List.getD t24 (Int.toNat t26) ([],0,0,false,[],[])).2).2).1)) 0)) && decide ((List.getD ((List.getD t24 (Int.toNat t26) ([],0,0,false,[],[])).1) (Int.toNat ((((List.getD t24 (Int.toNat t26) ([],0,0,false,[],[])).2).2).1)) 0) < (t3_2.length:Int))) then
         j_ (t0_2,(List.set t3_2 (Int.toNat (List.getD ((List.getD t24 (Int.toNat t26) ([],0,0,false,[],[])).1) (Int.toNat ((((List.getD t24 (Int.toNat t26) ([],0,0,false,[],[])).2).2).1)) 0)) r_3),t24,t25,t26)
        else none
       else none
      else none
     else
      j_ (t0_2,t3_2,t24,t25,t26)
    else none
   else
    some (Sum.inr (t0_2,t3_2))) (t0_1,t3_1,t0_1.2.2.2.2.1,(t0_1.2.2.2.2.1.length:Int),0)).bind fun ((t0_4,t3_4):ub3 × ub10) =>
 (d135 t0_4 2).bind fun r_4 =>
 (zaa (β:=ub10) (fun ((t0_5,t3_5,t58,t59,t60):ub3 × ub10 × ub17 × Int × Int) =>
   bif (decide (t60 < t59)) then
    bif (decide (0≤t60) && decide (t60 < (t58.length:Int))) then
     (d68 t0_5.2.2.2.1).bind fun r_5 =>
     bif (decide (0≤(List.getD t58 (Int.toNat t60) 0)) && decide ((List.getD t58 (Int.toNat t60) 0) < (t3_5.length:Int))) then
      some (Sum.inl (t0_5,(List.set t3_5 (Int.toNat (List.getD t58 (Int.toNat t60) 0)) r_5),t58,t59,(w (t60+1))))
     else none
    else none
   else
    some (Sum.inr t3_5)) (t0_4,t3_4,r_4,(r_4.length:Int),0)).bind fun (t3_6:List ub11) =>
 some t3_6
noncomputable def d131 (l:List ub11):Option ub10 :=
 (zaa (β:=ub10) (fun ((out,t6,t7,t8):ub10 × ub10 × Int × Int) =>
   bif (decide (t8 < t7)) then
    bif (decide (0≤t8) && decide (t8 < (t6.length:Int))) then
     (d173 (((List.getD t6 (Int.toNat t8) (false,[],[])).2).1)).bind fun r =>
     (d173 (((List.getD t6 (Int.toNat t8) (false,[],[])).2).2)).bind fun r_1 =>
     bif (decide ((out.length:Int)+(([((List.getD t6 (Int.toNat t8) (false,[],[])).1,r,r_1)]:List ub11).length:Int)≤LIM)) then
      some (Sum.inl ((out++[((List.getD t6 (Int.toNat t8) (false,[],[])).1,r,r_1)]),t6,t7,(w (t8+1))))
     else none
    else none
   else
    some (Sum.inr out)) ([],l,(l.length:Int),0)).bind fun (out_1:List ub11) =>
 some out_1
noncomputable def d136 (c:Int) (p1:ub5):Option Bool :=
 bif (decide (0≤c) && decide (c < (p1.1.length:Int))) then
  (d137 (List.getD p1.1 (Int.toNat c) (false,[],[])) p1.2.2.1).bind fun r =>
  some (decide (r < 0))
 else none
noncomputable def d101 (s:List Int) (f:(Int→Option Bool)):Option Int :=
 (zaa (β:=Unit ⊕ Int) (fun ((s_1,f_1,t7,t8):ub17 × (Int→Option Bool) × Int × Int) =>
   bif (decide (t8 < t7)) then
    bif (decide (0≤t8) && decide (t8 < (s_1.length:Int))) then
     (f_1 (List.getD s_1 (Int.toNat t8) 0)).bind fun r =>
     bif r then
      some (Sum.inr (Sum.inr t8))
     else
      some (Sum.inl (s_1,f_1,t7,(w (t8+1))))
    else none
   else
    some (Sum.inr (Sum.inl ()))) (s,f,(s.length:Int),0)).bind fun
 | Sum.inl _ =>
  some (-1)
 | Sum.inr t4 =>
  some t4
def sg101:Sig:=⟨[(y26,.bw),(y128,.bw)],[(y2,.sh)]⟩
def plan101:Plan:=(.seq (.reg [] []) (.seq (.seq (.reg [] []) (.block (.loop [(0,.v y26 .bw),(1,.v y128 .bw),(7,.v y2 .sh),(8,.v y2 .sh)] [(.brk 0,[]),(.ret,[(4,.v y2 .sh)])] (.seq (.reg [] []) (.seq (.cond .nil .nil) (.seq (.block (.seq (.reg [] []) (.seq (.reg [] []) (.cond (.seq (.reg [] []) .nil) .nil)))) (.reg [] []))))))) (.seq (.reg [] []) .nil)))
theorem ev101 (xs:Vals (ptys sg101.ps)):evF (P:=Tryz.prog) tab [] sg101 Tryz.f101.results.toList (code Tryz.f101) plan101 xs=d101 xs.1 xs.2.1:=by kernel_rfl
theorem sim101:Sim Tryz.prog 101 sg101 d101:=zah mixd zan Tryz.func101 (zac rfl) Tryz.call101 (Nat.le_of_ble_eq_true (by kernel_rfl)) (by kernel_rfl) plan101 _ fun xs y h=>(ev101 xs).trans h
noncomputable def E101:FnE Tryz.prog:=⟨101,sg101,d101,sim101⟩
noncomputable def d134 (s:List Int) (del:(Int→Option Bool)):Option ub17 :=
 (d101 s del).bind fun r =>
 bif (decide (r=(-1))) then
  some s
 else
  (zaa (β:=(ub17 × Int)) (fun ((s_1,del_1,i,j_):ub17 × (Int→Option Bool) × Int × Int) =>
    bif (decide (j_ < (s_1.length:Int))) then
     letJ (fun ((s_2,del_2,i_1,j__1):ub17 × (Int→Option Bool) × Int × Int) =>
       some (Sum.inl (s_2,del_2,i_1,(w (j__1+1))))) fun j__2 =>
     bif (decide (0≤j_) && decide (j_ < (s_1.length:Int))) then
      (del_1 (List.getD s_1 (Int.toNat j_) 0)).bind fun r_1 =>
      bif !r_1 then
       bif (decide (0≤i) && decide (i < (s_1.length:Int))) then
        j__2 ((List.set s_1 (Int.toNat i) (List.getD s_1 (Int.toNat j_) 0)),del_1,(w (i+1)),j_)
       else none
      else
       j__2 (s_1,del_1,i,j_)
     else none
    else
     some (Sum.inr (s_1,i))) (s,del,r,(w (r+1)))).bind fun ((s_3,i_2):ub17 × Int) =>
  bif (zcf i_2 (s_3.length:Int) s_3.length) then
   bif (zcf 0 i_2 (List.take (Int.toNat i_2) s_3++List.replicate (s_3.length - (Int.toNat i_2)) 0).length) then
    some (List.take (Int.toNat i_2) (List.take (Int.toNat i_2) s_3++List.replicate (s_3.length - (Int.toNat i_2)) 0))
   else none
  else none
def sg134:Sig:=⟨[(y26,(.give (.own 3 .sh))),(y128,.bw)],[(y26,(.own 3 .sh))]⟩
def plan134:Plan:=(.seq (.reg [] []) (.seq (.reg [] []) (.seq (.seq (.reg [] []) (.cond (.seq (.reg [] []) .nil) .nil)) (.seq (.seq (.reg [] []) (.block (.loop [(0,.v y26 (.own 3 .sh)),(1,.v y128 .bw),(5,.v y2 .sh),(6,.v y2 .sh)] [(.brk 0,[(0,.v y26 (.own 3 .sh)),(5,.v y2 .sh)])] (.seq (.seq (.reg [] []) (.cond .nil .nil)) (.join (.block (.seq (.reg [] []) (.seq (.reg [] []) (.cond (.seq (.reg [] []) (.reg [] [])) .nil)))) [(0,.v y26 (.own 3 .sh)),(1,.v y128 .bw),(5,.v y2 .sh),(6,.v y2 .sh)] (.reg [] [])))))) (.seq (.reg [] []) (.seq (.reg [] []) .nil))))))
theorem ev134 (xs:Vals (ptys sg134.ps)):evF (P:=Tryz.prog) tab [.fn E101] sg134 Tryz.f134.results.toList (code Tryz.f134) plan134 xs=d134 xs.1 xs.2.1:=by kernel_rfl
theorem sim134:Sim Tryz.prog 134 sg134 d134:=zah mixd zan Tryz.func134 (zac rfl) Tryz.call134 (Nat.le_of_ble_eq_true (by kernel_rfl)) (by kernel_rfl) plan134 _ fun xs y h=>(ev134 xs).trans h
noncomputable def E134:FnE Tryz.prog:=⟨134,sg134,d134,sim134⟩
noncomputable def d133 (k:ub3) (r:ub5) (candidates:List Int):Option ub1 :=
 (zaa (β:=ub1) (fun ((k_1,r_1,t8,t9,t10):ub3 × ub5 × ub17 × Int × Int) =>
   bif (decide (t10 < t9)) then
    bif (decide (0≤t10) && decide (t10 < (t8.length:Int))) then
     bif (decide (0≤(List.getD t8 (Int.toNat t10) 0)) && decide ((List.getD t8 (Int.toNat t10) 0) < (k_1.2.2.2.2.2.1.length:Int))) then
      bif (decide ((r_1.2.2.2.2.2.1.length:Int)+(([(List.getD t8 (Int.toNat t10) 0)]:List Int).length:Int)≤LIM)) then
       some (Sum.inl ((k_1.1,k_1.2.1,k_1.2.2.1,k_1.2.2.2.1,k_1.2.2.2.2.1,(List.set k_1.2.2.2.2.2.1 (Int.toNat (List.getD t8 (Int.toNat t10) 0)) 1),k_1.2.2.2.2.2.2.1,(w (k_1.2.2.2.2.2.2.2.1+1)),k_1.2.2.2.2.2.2.2.2),(r_1.1,r_1.2.1,r_1.2.2.1,r_1.2.2.2.1,r_1.2.2.2.2.1,(r_1.2.2.2.2.2.1++[(List.getD t8 (Int.toNat t10) 0)]),r_1.2.2.2.2.2.2),t8,t9,(w (t10+1))))
      else none
     else none
    else none
   else
    some (Sum.inr (k_1,r_1))) (k,r,candidates,(candidates.length:Int),0)).bind fun ((k_2,r_2):ub3 × ub5) =>
 (d174 r_2.2.2.2.2.2.1).bind fun r_3 =>
 some (k_2,(r_2.1,r_2.2.1,r_2.2.2.1,r_2.2.2.2.1,r_2.2.2.2.2.1,r_3,r_2.2.2.2.2.2.2))
noncomputable def d185 (p0:Int) (p1:List Int) (p2:List Int):Option Bool :=
 letJ (fun ((t1,t2,t7,t33):ub17 × ub17 × Int × Bool) =>
   bif t33 then
    some false
   else
    (zaa (β:=(ub17 × Int) ⊕ Bool) (fun ((t1_1,t7_1,t8,t34,t35,t36):ub17 × Int × ub16 × ub17 × Int × Int) =>
      bif (decide (t36 < t35)) then
       bif (decide (0≤t36) && decide (t36 < (t34.length:Int))) then
        letJ (fun ((t1_2,t7_2,t8_1,t10,t34_1,t35_1,t36_1,t51):ub17 × Int × ub16 × Int × ub17 × Int × Int × Bool) =>
          bif t51 then
           some (Sum.inr (Sum.inr false))
          else
           bif (decide (0≤t10) && decide (t10 < 7)) then
            some (Sum.inl (t1_2,t7_2,(List.set t8_1 (Int.toNat t10) true),t34_1,t35_1,(w (t36_1+1))))
           else none) fun j__1 =>
        bif !(decide ((List.getD t34 (Int.toNat t36) 0) < 0)) then
         bif !(decide (t7_1≤(List.getD t34 (Int.toNat t36) 0))) then
          bif (decide (0≤(List.getD t34 (Int.toNat t36) 0)) && decide ((List.getD t34 (Int.toNat t36) 0) < 7)) then
           j__1 (t1_1,t7_1,t8,(List.getD t34 (Int.toNat t36) 0),t34,t35,t36,(List.getD t8 (Int.toNat (List.getD t34 (Int.toNat t36) 0)) false))
          else none
         else
          j__1 (t1_1,t7_1,t8,(List.getD t34 (Int.toNat t36) 0),t34,t35,t36,true)
        else
         j__1 (t1_1,t7_1,t8,(List.getD t34 (Int.toNat t36) 0),t34,t35,t36,true)
       else none
      else
       some (Sum.inr (Sum.inl (t1_1,t7_1)))) (t1,t7,[false,false,false,false,false,false,false],t2,(t2.length:Int),0)).bind fun
    | Sum.inl (t1_3,t7_3) =>
     (zaa (β:=Unit ⊕ Bool) (fun ((t1_4,t7_4,t55,t56,t57):ub17 × Int × ub17 × Int × Int) =>
       bif (decide (t57 < t56)) then
        bif (decide (0≤t57) && decide (t57 < (t55.length:Int))) then
         letJ (fun ((t1_5,t7_5,t55_1,t56_1,t57_1,t81):ub17 × Int × ub17 × Int × Int × Bool) =>
           bif t81 then
            some (Sum.inr (Sum.inr false))
           else
            some (Sum.inl (t1_5,t7_5,t55_1,t56_1,(w (t57_1+1))))) fun j__2 =>
         bif !(decide ((List.getD t55 (Int.toNat t57) 0) < 0)) then
          bif !(decide (t7_4≤(List.getD t55 (Int.toNat t57) 0))) then
           bif (decide (0 < t57)) then
            bif (decide (0≤(w (t57 - 1))) && decide ((w (t57 - 1)) < (t1_4.length:Int))) then
             j__2 (t1_4,t7_4,t55,t56,t57,(decide ((List.getD t55 (Int.toNat t57) 0)≤(List.getD t1_4 (Int.toNat (w (t57 - 1))) 0))))
            else none
           else
            j__2 (t1_4,t7_4,t55,t56,t57,false)
          else
           j__2 (t1_4,t7_4,t55,t56,t57,true)
         else
          j__2 (t1_4,t7_4,t55,t56,t57,true)
        else none
       else
        some (Sum.inr (Sum.inl ()))) (t1_3,t7_3,t1_3,(t1_3.length:Int),0)).bind fun
     | Sum.inl _ =>
      some true
     | Sum.inr t6_1 =>
      some t6_1
    | Sum.inr t6 =>
     some t6) fun j_ =>
 bif !(decide (p0 < 1)) then
  bif !(decide (3 < p0)) then
   bif !(decide ((p2.length:Int) < 1)) then
    bif !(decide (7 < (p2.length:Int))) then
     j_ (p1,p2,(p2.length:Int),(decide ((p1.length:Int)=0)))
    else
     j_ (p1,p2,(p2.length:Int),true)
   else
    j_ (p1,p2,(p2.length:Int),true)
  else
   j_ (p1,p2,(p2.length:Int),true)
 else
  j_ (p1,p2,(p2.length:Int),true)
def sg185:Sig:=⟨[(y2,.sh),(y26,.bw),(y26,.bw)],[(y4,.sh)]⟩
def plan185:Plan:=(.seq (.reg [] []) (.seq (.reg [] []) (.seq (.join (.reg [] []) [(1,.v y26 .bw),(2,.v y26 .bw),(7,.v y2 .sh),(33,.v y4 .sh)] (.cond (.seq (.reg [] []) .nil) .nil)) (.seq (.reg [] []) (.seq (.seq (.reg [] []) (.block (.loop [(1,.v y26 .bw),(7,.v y2 .sh),(8,.v (.ptr y200) (.own 0 .sh)),(34,.v y26 .bw),(35,.v y2 .sh),(36,.v y2 .sh)] [(.brk 0,[(1,.v y26 .bw),(7,.v y2 .sh)]),(.ret,[(6,.v y4 .sh)])] (.seq (.reg [] []) (.seq (.cond .nil .nil) (.seq (.block (.seq (.reg [] []) (.seq (.join (.reg [] []) [(1,.v y26 .bw),(7,.v y2 .sh),(8,.v (.ptr y200) (.own 0 .sh)),(10,.v y2 .sh),(34,.v y26 .bw),(35,.v y2 .sh),(36,.v y2 .sh),(51,.v y4 .sh)] (.cond (.seq (.reg [] []) .nil) .nil)) (.reg [] [])))) (.reg [] []))))))) (.seq (.seq (.reg [] []) (.block (.loop [(1,.v y26 .bw),(7,.v y2 .sh),(55,.v y26 .bw),(56,.v y2 .sh),(57,.v y2 .sh)] [(.brk 2,[]),(.ret,[(6,.v y4 .sh)])] (.seq (.reg [] []) (.seq (.cond .nil .nil) (.seq (.block (.seq (.reg [] []) (.join (.reg [] []) [(1,.v y26 .bw),(7,.v y2 .sh),(55,.v y26 .bw),(56,.v y2 .sh),(57,.v y2 .sh),(81,.v y4 .sh)] (.cond (.seq (.reg [] []) .nil) .nil)))) (.reg [] []))))))) (.seq (.reg [] []) .nil)))))))
theorem ev185 (xs:Vals (ptys sg185.ps)):evF (P:=Tryz.prog) tab [] sg185 Tryz.f185.results.toList (code Tryz.f185) plan185 xs=d185 xs.1 xs.2.1 xs.2.2.1:=by kernel_rfl
theorem sim185:Sim Tryz.prog 185 sg185 d185:=zah mixd zan Tryz.func185 (zac rfl) Tryz.call185 (Nat.le_of_ble_eq_true (by kernel_rfl)) (by kernel_rfl) plan185 _ fun xs y h=>(ev185 xs).trans h
noncomputable def E185:FnE Tryz.prog:=⟨185,sg185,d185,sim185⟩
noncomputable def d213 (round:List ub11) (candidate:Int):Option ub11 :=
 bif (decide (candidate < (round.length:Int))) then
  bif (decide (0≤candidate) && decide (candidate < (round.length:Int))) then
   some (List.getD round (Int.toNat candidate) (false,[],[]))
  else none
 else
  (d68 0).bind fun r =>
  some r
def sg213:Sig:=⟨[(y53,.sh),(y2,.sh)],[(y57,.sh)]⟩
def plan213:Plan:=(.seq (.reg [] []) (.seq (.seq (.reg [] []) (.cond (.seq (.reg [] []) .nil) .nil)) (.seq (.reg [] []) .nil)))
theorem ev213 (xs:Vals (ptys sg213.ps)):evF (P:=Tryz.prog) tab [.fn E68] sg213 Tryz.f213.results.toList (code Tryz.f213) plan213 xs=d213 xs.1 xs.2.1:=by kernel_rfl
theorem sim213:Sim Tryz.prog 213 sg213 d213:=zah mixd zan Tryz.func213 (zac rfl) Tryz.call213 (Nat.le_of_ble_eq_true (by kernel_rfl)) (by kernel_rfl) plan213 _ fun xs y h=>(ev213 xs).trans h
noncomputable def E213:FnE Tryz.prog:=⟨213,sg213,d213,sim213⟩
noncomputable def d187 (candidates:List Int) (round:List ub11) (least:Bool):Option ub17 :=
 (zaa (β:=ub17) (fun ((round_1,least_1,out,t11,t12,t13):ub10 × Bool × ub17 × ub17 × Int × Int) =>
   bif (decide (t13 < t12)) then
    letJ (fun ((round_4,least_4,out_3,t11_3,t12_3,t13_3):ub10 × Bool × ub17 × ub17 × Int × Int) =>
      some (Sum.inl (round_4,least_4,out_3,t11_3,t12_3,(w (t13_3+1))))) fun j__2 =>
    bif (decide (0≤t13) && decide (t13 < (t11.length:Int))) then
     letJ (fun ((round_3,least_3,out_2,c_1,order_1,t11_2,t12_2,t13_2):ub10 × Bool × ub17 × Int × Int × ub17 × Int × Int) =>
       bif (decide (order_1≤0)) then
        bif (decide ((out_2.length:Int)+(([c_1]:List Int).length:Int)≤LIM)) then
         j__2 (round_3,least_3,(out_2++[c_1]),t11_2,t12_2,t13_2)
        else none
       else
        j__2 (round_3,least_3,out_2,t11_2,t12_2,t13_2)) fun j__1 =>
     bif (decide (0 < (out.length:Int))) then
      (d213 round_1 (List.getD t11 (Int.toNat t13) 0)).bind fun r =>
      bif (decide (0≤0) && decide (0 < (out.length:Int))) then
       (d213 round_1 (List.getD out 0 0)).bind fun r_1 =>
       (d137 r r_1).bind fun r_2 =>
       letJ (fun ((round_2,least_2,out_1,c,order,t11_1,t12_1,t13_1):ub10 × Bool × ub17 × Int × Int × ub17 × Int × Int) =>
         bif (decide (order < 0)) then
          bif (zcf 0 0 out_1.length) then
           j__1 (round_2,least_2,(List.take 0 out_1),c,order,t11_1,t12_1,t13_1)
          else none
         else
          j__1 (round_2,least_2,out_1,c,order,t11_1,t12_1,t13_1)) fun j_ =>
       bif !least_1 then
        j_ (round_1,least_1,out,(List.getD t11 (Int.toNat t13) 0),(w (0 - r_2)),t11,t12,t13)
       else
        j_ (round_1,least_1,out,(List.getD t11 (Int.toNat t13) 0),r_2,t11,t12,t13)
      else none
     else
      j__1 (round_1,least_1,out,(List.getD t11 (Int.toNat t13) 0),(-1),t11,t12,t13)
    else none
   else
    some (Sum.inr out)) (round,least,[],candidates,(candidates.length:Int),0)).bind fun (out_4:List Int) =>
 some out_4
def sg187:Sig:=⟨[(y26,.bw),(y53,.sh),(y4,.sh)],[(y26,(.own 3 .sh))]⟩
def plan187:Plan:=(.seq (.reg [] []) (.seq (.reg [] [{ fl:=2 }]) (.seq (.seq (.reg [] []) (.block (.loop [(1,.v y53 .sh),(2,.v y4 .sh),(7,.v y26 (.own 3 .sh)),(11,.v y26 .bw),(12,.v y2 .sh),(13,.v y2 .sh)] [(.brk 0,[(7,.v y26 (.own 3 .sh))])] (.seq (.reg [] []) (.seq (.cond .nil .nil) (.join (.block (.seq (.reg [] []) (.seq (.reg [] []) (.join (.seq (.reg [] []) (.cond (.seq (.reg [] []) (.join (.seq (.reg [] []) (.cond (.reg [] []) .nil)) [(1,.v y53 .sh),(2,.v y4 .sh),(7,.v y26 (.own 3 .sh)),(9,.v y2 .sh),(10,.v y2 .sh),(11,.v y26 .bw),(12,.v y2 .sh),(13,.v y2 .sh)] (.seq (.reg [] []) (.cond (.reg [] []) .nil)))) .nil)) [(1,.v y53 .sh),(2,.v y4 .sh),(7,.v y26 (.own 3 .sh)),(9,.v y2 .sh),(10,.v y2 .sh),(11,.v y26 .bw),(12,.v y2 .sh),(13,.v y2 .sh)] (.seq (.reg [] []) (.cond (.reg [] []) .nil)))))) [(1,.v y53 .sh),(2,.v y4 .sh),(7,.v y26 (.own 3 .sh)),(11,.v y26 .bw),(12,.v y2 .sh),(13,.v y2 .sh)] (.reg [] []))))))) (.seq (.reg [] []) .nil))))
theorem ev187 (xs:Vals (ptys sg187.ps)):evF (P:=Tryz.prog) tab [.fn E213,.fn E137] sg187 Tryz.f187.results.toList (code Tryz.f187) plan187 xs=d187 xs.1 xs.2.1 xs.2.2.1:=by kernel_rfl
theorem sim187:Sim Tryz.prog 187 sg187 d187:=zah mixd zan Tryz.func187 (zac rfl) Tryz.call187 (Nat.le_of_ble_eq_true (by kernel_rfl)) (by kernel_rfl) plan187 _ fun xs y h=>(ev187 xs).trans h
noncomputable def E187:FnE Tryz.prog:=⟨187,sg187,d187,sim187⟩
noncomputable def d189 (s:List Int) (v:Int):Option Int :=
 (zaa (β:=Unit ⊕ Int) (fun ((s_1,v_1,t7,t8):ub17 × Int × Int × Int) =>
   bif (decide (t8 < t7)) then
    bif (decide (0≤t8) && decide (t8 < (s_1.length:Int))) then
     bif (decide (v_1=(List.getD s_1 (Int.toNat t8) 0))) then
      some (Sum.inr (Sum.inr t8))
     else
      some (Sum.inl (s_1,v_1,t7,(w (t8+1))))
    else none
   else
    some (Sum.inr (Sum.inl ()))) (s,v,(s.length:Int),0)).bind fun
 | Sum.inl _ =>
  some (-1)
 | Sum.inr t4 =>
  some t4
def sg189:Sig:=⟨[(y26,.bw),(y2,.sh)],[(y2,.sh)]⟩
def plan189:Plan:=(.seq (.reg [] []) (.seq (.seq (.reg [] []) (.block (.loop [(0,.v y26 .bw),(1,.v y2 .sh),(7,.v y2 .sh),(8,.v y2 .sh)] [(.brk 0,[]),(.ret,[(4,.v y2 .sh)])] (.seq (.reg [] []) (.seq (.cond .nil .nil) (.seq (.block (.seq (.reg [] []) (.seq (.reg [] []) (.cond (.seq (.reg [] []) .nil) .nil)))) (.reg [] []))))))) (.seq (.reg [] []) .nil)))
theorem ev189 (xs:Vals (ptys sg189.ps)):evF (P:=Tryz.prog) tab [] sg189 Tryz.f189.results.toList (code Tryz.f189) plan189 xs=d189 xs.1 xs.2.1:=by kernel_rfl
theorem sim189:Sim Tryz.prog 189 sg189 d189:=zah mixd zan Tryz.func189 (zac rfl) Tryz.call189 (Nat.le_of_ble_eq_true (by kernel_rfl)) (by kernel_rfl) plan189 _ fun xs y h=>(ev189 xs).trans h
noncomputable def E189:FnE Tryz.prog:=⟨189,sg189,d189,sim189⟩
noncomputable def d188 (a:Int) (b:Int) (p2:List Int):Option Int :=
 (d189 p2 a).bind fun r =>
 (d189 p2 b).bind fun r_1 =>
 some (w (r - r_1))
def sg188:Sig:=⟨[(y2,.bw),(y2,.bw),((.ptr y26),.bw)],[(y2,.sh)]⟩
def plan188:Plan:=(.seq (.reg [] []) (.seq (.reg [] []) .nil))
theorem ev188 (xs:Vals (ptys sg188.ps)):evF (P:=Tryz.prog) tab [.fn E189] sg188 Tryz.f188.results.toList (code Tryz.f188) plan188 xs=d188 xs.1 xs.2.1 xs.2.2.1:=by kernel_rfl
theorem sim188:Sim Tryz.prog 188 sg188 d188:=zah mixd zan Tryz.func188 (zac rfl) Tryz.call188 (Nat.le_of_ble_eq_true (by kernel_rfl)) (by kernel_rfl) plan188 _ fun xs y h=>(ev188 xs).trans h
noncomputable def E188:FnE Tryz.prog:=⟨188,sg188,d188,sim188⟩
noncomputable def d190 (x:List Int) (cmp:(Int→Int→Option Int)):Option Int :=
 bif (decide ((x.length:Int) < 1)) then
  none
 else
  bif (decide (0≤0) && decide (0 < (x.length:Int))) then
   (zaa (β:=Int) (fun ((x_1,cmp_1,m,i):ub17 × (Int→Int→Option Int) × Int × Int) =>
     bif (decide (i < (x_1.length:Int))) then
      letJ (fun ((x_2,cmp_2,m_1,i_1):ub17 × (Int→Int→Option Int) × Int × Int) =>
        some (Sum.inl (x_2,cmp_2,m_1,(w (i_1+1))))) fun j_ =>
      bif (decide (0≤i) && decide (i < (x_1.length:Int))) then
       (cmp_1 (List.getD x_1 (Int.toNat i) 0) m).bind fun r =>
       bif (decide (0 < r)) then
        bif (decide (0≤i) && decide (i < (x_1.length:Int))) then
         j_ (x_1,cmp_1,(List.getD x_1 (Int.toNat i) 0),i)
        else none
       else
        j_ (x_1,cmp_1,m,i)
      else none
     else
      some (Sum.inr m)) (x,cmp,(List.getD x 0 0),1)).bind fun (m_2:Int) =>
   some m_2
  else none
def sg190:Sig:=⟨[(y26,.bw),(y38,.bw)],[(y2,.sh)]⟩
def plan190:Plan:=(.seq (.reg [] []) (.seq (.seq (.reg [] []) (.cond (.reg [] []) .nil)) (.seq (.reg [] []) (.seq (.seq (.reg [] []) (.block (.loop [(0,.v y26 .bw),(1,.v y38 .bw),(5,.v y2 .sh),(6,.v y2 .sh)] [(.brk 0,[(5,.v y2 .sh)])] (.seq (.seq (.reg [] []) (.cond .nil .nil)) (.join (.block (.seq (.reg [] []) (.cond (.reg [] []) .nil))) [(0,.v y26 .bw),(1,.v y38 .bw),(5,.v y2 .sh),(6,.v y2 .sh)] (.reg [] [])))))) (.seq (.reg [] []) .nil)))))
theorem ev190 (xs:Vals (ptys sg190.ps)):evF (P:=Tryz.prog) tab [] sg190 Tryz.f190.results.toList (code Tryz.f190) plan190 xs=d190 xs.1 xs.2.1:=by kernel_rfl
theorem sim190:Sim Tryz.prog 190 sg190 d190:=zah mixd zan Tryz.func190 (zac rfl) Tryz.call190 (Nat.le_of_ble_eq_true (by kernel_rfl)) (by kernel_rfl) plan190 _ fun xs y h=>(ev190 xs).trans h
noncomputable def E190:FnE Tryz.prog:=⟨190,sg190,d190,sim190⟩
noncomputable def d191 (x:List Int) (cmp:(Int→Int→Option Int)):Option Int :=
 bif (decide ((x.length:Int) < 1)) then
  none
 else
  bif (decide (0≤0) && decide (0 < (x.length:Int))) then
   (zaa (β:=Int) (fun ((x_1,cmp_1,m,i):ub17 × (Int→Int→Option Int) × Int × Int) =>
     bif (decide (i < (x_1.length:Int))) then
      letJ (fun ((x_2,cmp_2,m_1,i_1):ub17 × (Int→Int→Option Int) × Int × Int) =>
        some (Sum.inl (x_2,cmp_2,m_1,(w (i_1+1))))) fun j_ =>
      bif (decide (0≤i) && decide (i < (x_1.length:Int))) then
       (cmp_1 (List.getD x_1 (Int.toNat i) 0) m).bind fun r =>
       bif (decide (r < 0)) then
        bif (decide (0≤i) && decide (i < (x_1.length:Int))) then
         j_ (x_1,cmp_1,(List.getD x_1 (Int.toNat i) 0),i)
        else none
       else
        j_ (x_1,cmp_1,m,i)
      else none
     else
      some (Sum.inr m)) (x,cmp,(List.getD x 0 0),1)).bind fun (m_2:Int) =>
   some m_2
  else none
def sg191:Sig:=⟨[(y26,.bw),(y38,.bw)],[(y2,.sh)]⟩
def plan191:Plan:=(.seq (.reg [] []) (.seq (.seq (.reg [] []) (.cond (.reg [] []) .nil)) (.seq (.reg [] []) (.seq (.seq (.reg [] []) (.block (.loop [(0,.v y26 .bw),(1,.v y38 .bw),(5,.v y2 .sh),(6,.v y2 .sh)] [(.brk 0,[(5,.v y2 .sh)])] (.seq (.seq (.reg [] []) (.cond .nil .nil)) (.join (.block (.seq (.reg [] []) (.cond (.reg [] []) .nil))) [(0,.v y26 .bw),(1,.v y38 .bw),(5,.v y2 .sh),(6,.v y2 .sh)] (.reg [] [])))))) (.seq (.reg [] []) .nil)))))
theorem ev191 (xs:Vals (ptys sg191.ps)):evF (P:=Tryz.prog) tab [] sg191 Tryz.f191.results.toList (code Tryz.f191) plan191 xs=d191 xs.1 xs.2.1:=by kernel_rfl
theorem sim191:Sim Tryz.prog 191 sg191 d191:=zah mixd zan Tryz.func191 (zac rfl) Tryz.call191 (Nat.le_of_ble_eq_true (by kernel_rfl)) (by kernel_rfl) plan191 _ fun xs y h=>(ev191 xs).trans h
noncomputable def E191:FnE Tryz.prog:=⟨191,sg191,d191,sim191⟩
noncomputable def d155 (p0:Int) (p1:List ub10) (p2:List Int) (p3:List Int) (p4:Bool):Option (Int × Bool × ub8) :=
 (d185 p0 p2 p3).bind fun r =>
 bif !r then
  some ((-1),false,p1)
 else
  (d186 p2).bind fun r_1 =>
  (zaa (β:=(ub8 × Bool × ub17 × ub17)) (fun ((t0,t1,t4,t8,t12,t13):Int × ub8 × Bool × ub17 × ub17 × Int) =>
    letJ (fun ((t0_1,t1_1,t4_1,t8_1,t12_1,t13_1,t35):Int × ub8 × Bool × ub17 × ub17 × Int × Bool) =>
      bif t35 then
       bif (decide (0≤t13_1) && decide (t13_1 < (t1_1.length:Int))) then
        letJ (fun ((t0_2,t1_2,t4_2,t8_2,t12_2,t13_2,t14):Int × ub8 × Bool × ub17 × ub17 × Int × ub10) =>
          (d187 t12_2 t14 t4_2).bind fun r_2 =>
          some (Sum.inl (t0_2,t1_2,t4_2,t8_2,r_2,(w (t13_2+1))))) fun j__1 =>
        bif (decide (t0_1=1)) then
         bif (decide (0≤(w ((w ((t1_1.length:Int) - 1)) - t13_1))) && decide ((w ((w ((t1_1.length:Int) - 1)) - t13_1)) < (t1_1.length:Int))) then
          j__1 (t0_1,t1_1,t4_1,t8_1,t12_1,t13_1,(List.getD t1_1 (Int.toNat (w ((w ((t1_1.length:Int) - 1)) - t13_1))) []))
         else none
        else
         j__1 (t0_1,t1_1,t4_1,t8_1,t12_1,t13_1,(List.getD t1_1 (Int.toNat t13_1) []))
       else none
      else
       some (Sum.inr (t1_1,t4_1,t8_1,t12_1))) fun j_ =>
    bif (decide (t13 < (t1.length:Int))) then
     bif (decide (1 < (t12.length:Int))) then
      j_ (t0,t1,t4,t8,t12,t13,!(decide (t0=3)))
     else
      j_ (t0,t1,t4,t8,t12,t13,false)
    else
     j_ (t0,t1,t4,t8,t12,t13,false)) (p0,p1,p4,p3,r_1,0)).bind fun ((t1_3,t4_3,t8_3,t12_3):ub8 × Bool × ub17 × ub17) =>
  bif (decide ((t12_3.length:Int)=1)) then
   bif (decide (0≤0) && decide (0 < (t12_3.length:Int))) then
    some ((List.getD t12_3 0 0),false,t1_3)
   else none
  else
   bif t4_3 then
    (d190 t12_3 (fun a a_1=>d188 a a_1 t8_3)).bind fun r_3 =>
    some (r_3,true,t1_3)
   else
    (d191 t12_3 (fun a_2 a_3=>d188 a_2 a_3 t8_3)).bind fun r_4 =>
    some (r_4,true,t1_3)
def sg155:Sig:=⟨[(y2,.sh),(y96,(.io (.own 53 .sh))),(y26,.bw),(y26,.bw),(y4,.sh)],[(y2,.sh),(y4,.sh)]⟩
def plan155:Plan:=(.seq (.reg [] []) (.seq (.seq (.reg [] []) (.cond (.seq (.reg [] []) .nil) .nil)) (.seq (.reg [] []) (.seq (.seq (.reg [] []) (.block (.loop [(0,.v y2 .sh),(1,.v y96 (.own 53 .sh)),(4,.v y4 .sh),(8,.v (.ptr y26) (.own 0 .bw)),(12,.v y26 (.own 3 .sh)),(13,.v y2 .sh)] [(.brk 0,[(1,.v y96 (.own 53 .sh)),(4,.v y4 .sh),(8,.v (.ptr y26) (.own 0 .bw)),(12,.v y26 (.own 3 .sh))])] (.seq (.join (.reg [] []) [(0,.v y2 .sh),(1,.v y96 (.own 53 .sh)),(4,.v y4 .sh),(8,.v (.ptr y26) (.own 0 .bw)),(12,.v y26 (.own 3 .sh)),(13,.v y2 .sh),(35,.v y4 .sh)] (.cond .nil .nil)) (.seq (.block (.seq (.reg [] []) (.join (.seq (.reg [] []) (.cond (.reg [] []) .nil)) [(0,.v y2 .sh),(1,.v y96 (.own 53 .sh)),(4,.v y4 .sh),(8,.v (.ptr y26) (.own 0 .bw)),(12,.v y26 (.own 3 .sh)),(13,.v y2 .sh),(14,.v y53 .sh)] (.reg [] [])))) (.reg [] [])))))) (.seq (.seq (.reg [] []) (.cond (.seq (.reg [] []) .nil) .nil)) (.seq (.reg [] []) (.seq (.seq (.reg [] []) (.cond (.seq (.reg [] []) .nil) .nil)) (.seq (.reg [] []) .nil))))))))
theorem ev155 (xs:Vals (ptys sg155.ps)):evF (P:=Tryz.prog) tab [.fn E185,.fn E186,.fn E187,.fn E190,.fn E188,.fn E191] sg155 Tryz.f155.results.toList (code Tryz.f155) plan155 xs=d155 xs.1 xs.2.1 xs.2.2.1 xs.2.2.2.1 xs.2.2.2.2.1:=by kernel_rfl
theorem sim155:Sim Tryz.prog 155 sg155 d155:=zah mixd zan Tryz.func155 (zac rfl) Tryz.call155 (Nat.le_of_ble_eq_true (by kernel_rfl)) (by kernel_rfl) plan155 _ fun xs y h=>(ev155 xs).trans h
noncomputable def E155:FnE Tryz.prog:=⟨155,sg155,d155,sim155⟩
noncomputable def d178 (p0:ub3) (p1:ub5) (p2:List Int) (p3:Bool):Option (Int × ub3 × ub5) :=
 (zaa (β:=(ub3 × ub5 × Bool × ub17)) (fun ((t0,t1,t3,t9,t15,t16,t17):ub3 × ub5 × Bool × ub17 × ub17 × Int × Int) =>
   bif (decide (t17 < t16)) then
    letJ (fun ((t0_2,t1_2,t3_2,t9_2,t15_2,t16_2,t17_2):ub3 × ub5 × Bool × ub17 × ub17 × Int × Int) =>
      some (Sum.inl (t0_2,t1_2,t3_2,t9_2,t15_2,t16_2,(w (t17_2+1))))) fun j__1 =>
    bif (decide (0≤t17) && decide (t17 < (t15.length:Int))) then
     letJ (fun ((t0_1,t1_1,t3_1,t9_1,t11,t12,t15_1,t16_1,t17_1):ub3 × ub5 × Bool × ub17 × Int × Int × ub17 × Int × Int) =>
       bif (decide (t12 < 0)) then
        j__1 (t0_1,t1_1,t3_1,[t11],t15_1,t16_1,t17_1)
       else
        bif (decide (t12=0)) then
         bif (decide ((t9_1.length:Int)+(([t11]:List Int).length:Int)≤LIM)) then
          j__1 (t0_1,t1_1,t3_1,(t9_1++[t11]),t15_1,t16_1,t17_1)
         else none
        else
         j__1 (t0_1,t1_1,t3_1,t9_1,t15_1,t16_1,t17_1)) fun j_ =>
     bif (decide (0 < (t9.length:Int))) then
      bif (decide (0≤(List.getD t15 (Int.toNat t17) 0)) && decide ((List.getD t15 (Int.toNat t17) 0) < (t1.1.length:Int))) then
       bif (decide (0≤0) && decide (0 < (t9.length:Int))) then
        bif (decide (0≤(List.getD t9 0 0)) && decide ((List.getD t9 0 0) < (t1.1.length:Int))) then
         (d137 (List.getD t1.1 (Int.toNat (List.getD t15 (Int.toNat t17) 0)) (false,[],[])) (List.getD t1.1 (Int.toNat (List.getD t9 0 0)) (false,[],[]))).bind fun r =>
         bif !t3 then
          j_ (t0,t1,t3,t9,(List.getD t15 (Int.toNat t17) 0),(w (0 - r)),t15,t16,t17)
         else
          j_ (t0,t1,t3,t9,(List.getD t15 (Int.toNat t17) 0),r,t15,t16,t17)
        else none
       else none
      else none
     else
      j_ (t0,t1,t3,t9,(List.getD t15 (Int.toNat t17) 0),(-1),t15,t16,t17)
    else none
   else
    some (Sum.inr (t0,t1,t3,t9))) (p0,p1,p3,[],p2,(p2.length:Int),0)).bind fun ((t0_3,t1_3,t3_3,t9_3):ub3 × ub5 × Bool × ub17) =>
 bif (decide ((t9_3.length:Int)=1)) then
  bif (decide (0≤0) && decide (0 < (t9_3.length:Int))) then
   some ((List.getD t9_3 0 0),t0_3,t1_3)
  else none
 else
  (d155 t0_3.1.2.2.2.2.2.2.1 t0_3.2.2.2.2.2.2.2.2.1 t9_3 t0_3.2.1 t3_3).bind fun r_1 =>
  some (r_1.1,(t0_3.1,t0_3.2.1,t0_3.2.2.1,t0_3.2.2.2.1,t0_3.2.2.2.2.1,t0_3.2.2.2.2.2.1,t0_3.2.2.2.2.2.2.1,t0_3.2.2.2.2.2.2.2.1,r_1.2.2,t0_3.2.2.2.2.2.2.2.2.2),(t1_3.1,t1_3.2.1,t1_3.2.2.1,t1_3.2.2.2.1,t1_3.2.2.2.2.1,t1_3.2.2.2.2.2.1,t1_3.2.2.2.2.2.2.1,t9_3))
noncomputable def d180 (p0:ub3) (p1:Int) (p2:ub11):Option ub3 :=
 (zaa (β:=ub3) (fun ((t0,t1,t5,t12,t13):ub3 × Int × ub11 × Int × Int) =>
   bif (decide (t13 < t12)) then
    letJ (fun ((t0_5,t1_5,t5_5,t12_5,t13_5):ub3 × Int × ub11 × Int × Int) =>
      some (Sum.inl (t0_5,t1_5,t5_5,t12_5,(w (t13_5+1))))) fun j__2 =>
    bif (decide (0≤t13) && decide (t13 < (t0.2.2.2.2.1.length:Int))) then
     letJ (fun ((t0_1,t1_1,t5_1,t7x,t12_1,t13_1,t45):ub3 × Int × ub11 × Int × Int × Int × Bool) =>
       bif t45 then
        j__2 (t0_1,t1_1,t5_1,t12_1,t13_1)
       else
        (d172 ((((List.getD t0_1.2.2.2.2.1 (Int.toNat t7x) ([],0,0,false,[],[])).2).2).2) t5_1).bind fun r =>
        (zaa (β:=(ub3 × Int × ub11 × Int × Int)) (fun ((t0_2,t1_2,t5_2,t7x_1,t12_2,t13_2):ub3 × Int × ub11 × Int × Int × Int) =>
          letJ (fun ((t0_3,t1_3,t5_3,t7x_2,t12_3,t13_3,t90):ub3 × Int × ub11 × Int × Int × Int × Bool) =>
            bif t90 then
             some (Sum.inl ((t0_3.1,t0_3.2.1,t0_3.2.2.1,t0_3.2.2.2.1,(List.set t0_3.2.2.2.2.1 (Int.toNat t7x_2) ((List.getD t0_3.2.2.2.2.1 (Int.toNat t7x_2) ([],0,0,false,[],[])).1,((List.getD t0_3.2.2.2.2.1 (Int.toNat t7x_2) ([],0,0,false,[],[])).2).1,(w (((((List.getD t0_3.2.2.2.2.1 (Int.toNat t7x_2) ([],0,0,false,[],[])).2).2).1)+1)),(((List.getD t0_3.2.2.2.2.1 (Int.toNat t7x_2) ([],0,0,false,[],[])).2).2).2)),t0_3.2.2.2.2.2),t1_3,t5_3,(((Int.toNat t7x_2):Nat):Int),t12_3,t13_3))
            else
             some (Sum.inr (t0_3,t1_3,t5_3,t12_3,t13_3))) fun j__1 =>
          bif (decide ((((List.getD t0_2.2.2.2.2.1 (Int.toNat t7x_1) ([],0,0,false,[],[])).2).2).1 < (((List.getD t0_2.2.2.2.2.1 (Int.toNat t7x_1) ([],0,0,false,[],[])).1).length:Int))) then
           bif (decide (0≤(((List.getD t0_2.2.2.2.2.1 (Int.toNat t7x_1) ([],0,0,false,[],[])).2).2).1) && decide ((((List.getD t0_2.2.2.2.2.1 (Int.toNat t7x_1) ([],0,0,false,[],[])).2).2).1 < (((List.getD t0_2.2.2.2.2.1 (Int.toNat t7x_1) ([],0,0,false,[],[])).1).length:Int))) then
            bif (decide (0≤(List.getD ((List.getD t0_2.2.2.2.2.1 (Int.toNat t7x_1) ([],0,0,false,[],[])).1) (Int.toNat ((((List.getD t0_2.2.2.2.2.1 (Int.toNat t7x_1) ([],0,0,false,[],[])).2).2).1)) 0)) && decide ((List.getD ((List.getD t0_2.2.2.2.2.1 (Int.toNat t7x_1) ([],0,0,false,[],[])).1) (Int.toNat ((((List.getD t0_2.2.2.2.2.1 (Int.toNat t7x_1) ([],0,0,false,[],[])).2).2).1)) 0) < (t0_2.2.2.2.2.2.1.length:Int))) then
             j__1 (t0_2,t1_2,t5_2,(((Int.toNat t7x_1):Nat):Int),t12_2,t13_2,!(decide ((List.getD t0_2.2.2.2.2.2.1 (Int.toNat (List.getD ((List.getD t0_2.2.2.2.2.1 (Int.toNat t7x_1) ([],0,0,false,[],[])).1) (Int.toNat ((((List.getD t0_2.2.2.2.2.1 (Int.toNat t7x_1) ([],0,0,false,[],[])).2).2).1)) 0)) 0)=0)))
            else none
           else none
          else
           j__1 (t0_2,t1_2,t5_2,(((Int.toNat t7x_1):Nat):Int),t12_2,t13_2,false)) ((t0_1.1,t0_1.2.1,t0_1.2.2.1,t0_1.2.2.2.1,(List.set (List.set t0_1.2.2.2.2.1 (Int.toNat t7x) ((List.getD t0_1.2.2.2.2.1 (Int.toNat t7x) ([],0,0,false,[],[])).1,((List.getD t0_1.2.2.2.2.1 (Int.toNat t7x) ([],0,0,false,[],[])).2).1,(((List.getD t0_1.2.2.2.2.1 (Int.toNat t7x) ([],0,0,false,[],[])).2).2).1,r)) (Int.toNat t7x) ((List.getD (List.set t0_1.2.2.2.2.1 (Int.toNat t7x) ((List.getD t0_1.2.2.2.2.1 (Int.toNat t7x) ([],0,0,false,[],[])).1,((List.getD t0_1.2.2.2.2.1 (Int.toNat t7x) ([],0,0,false,[],[])).2).1,(((List.getD t0_1.2.2.2.2.1 (Int.toNat t7x) ([],0,0,false,[],[])).2).2).1,r)) (Int.toNat t7x) ([],0,0,false,[],[])).1,((List.getD (List.set t0_1.2.2.2.2.1 (Int.toNat t7x) ((List.getD t0_1.2.2.2.2.1 (Int.toNat t7x) ([],0,0,false,[],[])).1,((List.getD t0_1.2.2.2.2.1 (Int.toNat t7x) ([],0,0,false,[],[])).2).1,(((List.getD t0_1.2.2.2.2.1 (Int.toNat t7x) ([],0,0,false,[],[])).2).2).1,r)) (Int.toNat t7x) ([],0,0,false,[],[])).2).1,(w (((((List.getD (List.set t0_1.2.2.2.2.1 (Int.toNat t7x) ((List.getD t0_1.2.2.2.2.1 (Int.toNat t7x) ([],0,0,false,[],[])).1,((List.getD t0_1.2.2.2.2.1 (Int.toNat t7x) ([],0,0,false,[],[])).2).1,(((List.getD t0_1.2.2.2.2.1 (Int.toNat t7x) ([],0,0,false,[],[])).2).2).1,r)) (Int.toNat t7x) ([],0,0,false,[],[])).2).2).1)+1)),(((List.getD (List.set t0_1.2.2.2.2.1 (Int.toNat t7x) ((List.getD t0_1.2.2.2.2.1 (Int.toNat t7x) ([],0,0,false,[],[])).1,((List.getD t0_1.2.2.2.2.1 (Int.toNat t7x) ([],0,0,false,[],[])).2).1,(((List.getD t0_1.2.2.2.2.1 (Int.toNat t7x) ([],0,0,false,[],[])).2).2).1,r)) (Int.toNat t7x) ([],0,0,false,[],[])).2).2).2)),t0_1.2.2.2.2.2),t1_1,t5_1,(((Int.toNat t7x):Nat):Int),t12_1,t13_1)).bind fun ((t0_4,t1_4,t5_4,t12_4,t13_4):ub3 × Int × ub11 × Int × Int) =>
        j__2 (t0_4,t1_4,t5_4,t12_4,t13_4)) fun j_ =>
     bif !(decide ((((List.getD t0.2.2.2.2.1 (Int.toNat t13) ([],0,0,false,[],[])).1).length:Int)≤(((List.getD t0.2.2.2.2.1 (Int.toNat t13) ([],0,0,false,[],[])).2).2).1)) then
      bif (decide (0≤(((List.getD t0.2.2.2.2.1 (Int.toNat t13) ([],0,0,false,[],[])).2).2).1) && decide ((((List.getD t0.2.2.2.2.1 (Int.toNat t13) ([],0,0,false,[],[])).2).2).1 < (((List.getD t0.2.2.2.2.1 (Int.toNat t13) ([],0,0,false,[],[])).1).length:Int))) then
       j_ (t0,t1,t5,(((Int.toNat t13):Nat):Int),t12,t13,!(decide ((List.getD ((List.getD t0.2.2.2.2.1 (Int.toNat t13) ([],0,0,false,[],[])).1) (Int.toNat ((((List.getD t0.2.2.2.2.1 (Int.toNat t13) ([],0,0,false,[],[])).2).2).1)) 0)=t1)))
      else none
     else
      j_ (t0,t1,t5,(((Int.toNat t13):Nat):Int),t12,t13,true)
    else none
   else
    some (Sum.inr t0)) (p0,p1,p2,(p0.2.2.2.2.1.length:Int),0)).bind fun (t0_6:ub3) =>
 some t0_6
noncomputable def d139 (k:ub3) (r:ub5):Option ub1 :=
 (d135 k 1).bind fun r_1 =>
 (d178 k r r_1 false).bind fun r_2 =>
 bif (decide (0≤r_2.1) && decide (r_2.1 < (r_2.2.2.1.length:Int))) then
  (d68 r_2.2.1.2.2.2.1).bind fun r_3 =>
  (d132 (List.getD r_2.2.2.1 (Int.toNat r_2.1) (false,[],[])) r_3).bind fun r_4 =>
  bif (decide (0≤r_2.1) && decide (r_2.1 < (r_2.2.2.1.length:Int))) then
   (d179 r_4 (List.getD r_2.2.2.1 (Int.toNat r_2.1) (false,[],[]))).bind fun r_5 =>
   (d180 r_2.2.1 r_2.1 r_5.1).bind fun r_6 =>
   bif (decide (0≤r_2.1) && decide (r_2.1 < (r_6.2.2.2.2.2.1.length:Int))) then
    bif (decide (0≤r_2.1) && decide (r_2.1 < (r_6.2.2.2.2.2.2.1.length:Int))) then
     some ((r_6.1,r_6.2.1,r_6.2.2.1,r_6.2.2.2.1,r_6.2.2.2.2.1,(List.set r_6.2.2.2.2.2.1 (Int.toNat r_2.1) 2),(List.set r_6.2.2.2.2.2.2.1 (Int.toNat r_2.1) r_5.1),r_6.2.2.2.2.2.2.2),r_2.2.2)
    else none
   else none
  else none
 else none
noncomputable def d140 (k:ub3) (r:ub5):Option ub1 :=
 (d135 k 0).bind fun r_1 =>
 (d178 k r r_1 true).bind fun r_2 =>
 bif (decide (0≤r_2.1) && decide (r_2.1 < (r_2.2.1.2.2.2.2.2.1.length:Int))) then
  (d68 0).bind fun r_3 =>
  bif (decide (0≤r_2.1) && decide (r_2.1 < (r_2.2.1.2.2.2.2.2.2.1.length:Int))) then
   (d68 1).bind fun r_4 =>
   (d180 (r_2.2.1.1,r_2.2.1.2.1,r_2.2.1.2.2.1,r_2.2.1.2.2.2.1,r_2.2.1.2.2.2.2.1,(List.set r_2.2.1.2.2.2.2.2.1 (Int.toNat r_2.1) 3),(List.set r_2.2.1.2.2.2.2.2.2.1 (Int.toNat r_2.1) r_3),r_2.2.1.2.2.2.2.2.2.2) r_2.1 r_4).bind fun r_5 =>
   some (r_5,(r_2.2.2.1,r_2.2.2.2.1,r_2.2.2.2.2.1,r_2.2.2.2.2.2.1,r_2.2.2.2.2.2.2.1,r_2.2.2.2.2.2.2.2.1,[r_2.1],r_2.2.2.2.2.2.2.2.2.2))
  else none
 else none
noncomputable def d69 (p0:ub3):Option (Bool × ub3) :=
 (d130 p0).bind fun r =>
 (d131 p0.2.2.2.2.2.2.1).bind fun r_1 =>
 (d68 p0.2.2.2.1).bind fun r_2 =>
 (d68 p0.2.2.1).bind fun r_3 =>
 (zaa (β:=ub1) (fun ((t0,t3,t29,t30,t31):ub3 × ub5 × ub10 × Int × Int) =>
   bif (decide (t31 < t30)) then
    bif (decide (0≤t31) && decide (t31 < (t29.length:Int))) then
     (d132 t3.2.2.2.1 (List.getD t29 (Int.toNat t31) (false,[],[]))).bind fun r_4 =>
     some (Sum.inl (t0,(t3.1,t3.2.1,t3.2.2.1,r_4,t3.2.2.2.2),t29,t30,(w (t31+1))))
    else none
   else
    some (Sum.inr (t0,t3))) (p0,(r,r_1,r_2,r_3,(false,[],[]),[],[],[]),r,(r.length:Int),0)).bind fun ((t0_1,t3_1):ub3 × ub5) =>
 (d135 t0_1 0).bind fun r_5 =>
 (d134 r_5 (fun a=>d136 a t3_1)).bind fun r_6 =>
 (d133 t0_1 t3_1 r_6).bind fun r_7 =>
 (d68 0).bind fun r_8 =>
 (d135 r_7.1 1).bind fun r_9 =>
 (zaa (β:=ub1) (fun ((t0_2,t3_2,t50,t51,t52):ub3 × ub5 × ub17 × Int × Int) =>
   bif (decide (t52 < t51)) then
    bif (decide (0≤t52) && decide (t52 < (t50.length:Int))) then
     bif (decide (0≤(List.getD t50 (Int.toNat t52) 0)) && decide ((List.getD t50 (Int.toNat t52) 0) < (t3_2.1.length:Int))) then
      (d132 (List.getD t3_2.1 (Int.toNat (List.getD t50 (Int.toNat t52) 0)) (false,[],[])) t3_2.2.2.1).bind fun r_10 =>
      (d138 t3_2.2.2.2.2.1 r_10).bind fun r_11 =>
      some (Sum.inl (t0_2,(t3_2.1,t3_2.2.1,t3_2.2.2.1,t3_2.2.2.2.1,r_11,t3_2.2.2.2.2.2),t50,t51,(w (t52+1))))
     else none
    else none
   else
    some (Sum.inr (t0_2,t3_2))) (r_7.1,(r_7.2.1,r_7.2.2.1,r_7.2.2.2.1,r_7.2.2.2.2.1,r_8,r_7.2.2.2.2.2.2),r_9,(r_9.length:Int),0)).bind fun ((t0_3,t3_3):ub3 × ub5) =>
 letJ (fun ((t0_4,t3_4,t8):ub3 × ub5 × Bool) =>
   bif (decide ((t0_4.2.2.2.2.2.2.2.2.1.length:Int)+(([t3_4.1]:List ub10).length:Int)≤LIM)) then
    bif (decide ((t0_4.2.2.2.2.2.2.2.2.2.2.2.2.2.1.length:Int)+(([t3_4]:List ub5).length:Int)≤LIM)) then
     bif (decide ((t0_4.2.2.2.2.2.2.2.2.2.2.2.2.2.2.length:Int)+(t3_4.2.2.2.2.2.1.length:Int)≤LIM)) then
      some (!t8,(t0_4.1,t0_4.2.1,t0_4.2.2.1,t0_4.2.2.2.1,t0_4.2.2.2.2.1,t0_4.2.2.2.2.2.1,t0_4.2.2.2.2.2.2.1,t0_4.2.2.2.2.2.2.2.1,(t0_4.2.2.2.2.2.2.2.2.1++[t3_4.1]),t0_4.2.2.2.2.2.2.2.2.2.1,t0_4.2.2.2.2.2.2.2.2.2.2.1,t0_4.2.2.2.2.2.2.2.2.2.2.2.1,t0_4.2.2.2.2.2.2.2.2.2.2.2.2.1,(t0_4.2.2.2.2.2.2.2.2.2.2.2.2.2.1++[t3_4]),(t0_4.2.2.2.2.2.2.2.2.2.2.2.2.2.2++t3_4.2.2.2.2.2.1)))
     else none
    else none
   else none) fun j_ =>
 bif (decide (t0_3.2.2.2.2.2.2.2.1=t0_3.1.2.2.2.1)) then
  j_ (t0_3,t3_3,(decide (t0_3.2.2.2.2.2.2.2.1=t0_3.1.2.2.2.1)))
 else
  (d135 t0_3 0).bind fun r_12 =>
  bif (decide ((w (t0_3.2.2.2.2.2.2.2.1+(r_12.length:Int)))≤t0_3.1.2.2.2.1)) then
   (d135 t0_3 0).bind fun r_13 =>
   (d133 t0_3 t3_3 r_13).bind fun r_14 =>
   j_ (r_14.1,r_14.2,true)
  else
   (d135 t0_3 1).bind fun r_15 =>
   bif (decide (0 < (r_15.length:Int))) then
    (d139 t0_3 t3_3).bind fun r_16 =>
    j_ (r_16.1,r_16.2,(decide (t0_3.2.2.2.2.2.2.2.1=t0_3.1.2.2.2.1)))
   else
    (d140 t0_3 t3_3).bind fun r_17 =>
    j_ (r_17.1,r_17.2,(decide (t0_3.2.2.2.2.2.2.2.1=t0_3.1.2.2.2.1)))
noncomputable def d22 (p0:ub6) (p1:List ub15) (p2:List Int):Option (ub4 × Int) :=
 (d66 3 p0 p1 p2).bind fun r =>
 bif !(decide (r=0)) then
  some ((0,0,0,0,[],[]),r)
 else
  (d67 p1).bind fun r_1 =>
  (d52 p1).bind fun r_2 =>
  (d30 r_2 p0.2.2.2.1).bind fun r_3 =>
  bif (decide ((p0.2.1.length:Int)=(p0.2.1.length:Int)) && (decide (0≤(p0.2.1.length:Int)) && decide ((p0.2.1.length:Int)≤LIM))) then
   (zaa (β:=(ub12 × ub4 × ub3)) (fun ((t1,t6,t10,t41,t42):ub12 × ub4 × ub3 × Int × Int) =>
     bif (decide (t42 < t41)) then
      (d68 1).bind fun r_4 =>
      bif (decide ((t10.2.2.2.2.2.2.1.length:Int)+(([r_4]:List ub11).length:Int)≤LIM)) then
       some (Sum.inl (t1,t6,(t10.1,t10.2.1,t10.2.2.1,t10.2.2.2.1,t10.2.2.2.2.1,t10.2.2.2.2.2.1,(t10.2.2.2.2.2.2.1++[r_4]),t10.2.2.2.2.2.2.2),t41,(w (t42+1))))
      else none
     else
      some (Sum.inr (t1,t6,t10))) (p1,(0,0,0,0,[],[]),(p0,p2,r_1,r_3,[],(List.replicate (Int.toNat (p0.2.1.length:Int)) 0),[],0,[],3,p0.2.2.2.1,0,(p0.2.1.length:Int),[],[]),(p0.2.1.length:Int),0)).bind fun ((t1_1,t6_1,t10_1):ub12 × ub4 × ub3) =>
   (zaa (β:=ub0) (fun ((t6_2,t10_2,t55,t56,t57):ub4 × ub3 × ub12 × Int × Int) =>
     bif (decide (t57 < t56)) then
      bif (decide (0≤t57) && decide (t57 < (t55.length:Int))) then
       (d68 1).bind fun r_5 =>
       bif (decide ((t10_2.2.2.2.2.1.length:Int)+(([((List.getD t55 (Int.toNat t57) ([],0)).1,(List.getD t55 (Int.toNat t57) ([],0)).2,0,r_5)]:List ub7).length:Int)≤LIM)) then
        some (Sum.inl (t6_2,(t10_2.1,t10_2.2.1,t10_2.2.2.1,t10_2.2.2.2.1,(t10_2.2.2.2.2.1++[((List.getD t55 (Int.toNat t57) ([],0)).1,(List.getD t55 (Int.toNat t57) ([],0)).2,0,r_5)]),t10_2.2.2.2.2.2),t55,t56,(w (t57+1))))
       else none
      else none
     else
      some (Sum.inr (t6_2,t10_2))) (t6_1,t10_1,t1_1,(t1_1.length:Int),0)).bind fun ((t6_3,t10_3):ub4 × ub3) =>
   (zaa (β:=ub0) (fun ((t6_4,t10_4):ub4 × ub3) =>
     (d69 t10_4).bind fun r_6 =>
     bif r_6.1 then
      some (Sum.inl (t6_4,r_6.2))
     else
      some (Sum.inr (t6_4,r_6.2))) (t6_3,t10_3)).bind fun ((t6_5,t10_5):ub4 × ub3) =>
   some (t10_5.2.2.2.2.2.2.2.2.2,0)
  else none
noncomputable def d122 (a:Int) (b:Int):Option Int :=
 (zaa (β:=Int) (fun ((a_1,b_1):Int × Int) =>
   bif (decide (0 < b_1)) then
    bif (!decide (b_1=0)) then
     some (Sum.inl (b_1,(w (Int.tmod a_1 b_1))))
    else none
   else
    some (Sum.inr a_1)) (a,b)).bind fun (a_2:Int) =>
 some a_2
noncomputable def d123 (n:Int):Option ub17 :=
 (zaa (β:=ub17) (fun ((out,x):ub17 × Int) =>
   bif (decide (0 < x)) then
    bif (decide ((out.length:Int)+(([(wu32 x)]:List Int).length:Int)≤LIM)) then
     some (Sum.inl ((out++[(wu32 x)]),(wu64 (Int.fdiv x (2 ^ (min (Int.toNat 32) 64))))))
    else none
   else
    some (Sum.inr out)) ([],(wu64 n))).bind fun (out_1:List Int) =>
 some out_1
noncomputable def d65 (a:Int) (b:Int):Option ub11 :=
 (d122 a b).bind fun r =>
 bif (!decide (r=0)) then
  (d123 (w (Int.tdiv a r))).bind fun r_1 =>
  bif (!decide (r=0)) then
   (d123 (w (Int.tdiv b r))).bind fun r_2 =>
   some (false,r_1,r_2)
  else none
 else none
noncomputable def d39 (n:Int):Option ub11 :=
 (d65 n 1).bind fun r =>
 some r
noncomputable def d21:Option Bool :=
 (d48 3 [[0,1],[0,1],[0,1],[0,1],[0,1],[0,1],[2],[2],[2]]).bind fun r =>
 (d25 2 3 1 0 2).bind fun r_1 =>
 (d22 r_1 r.1 [0,1,2]).bind fun r_2 =>
 letJ (fun ((t3,t49):ub4 × Bool) =>
   bif t49 then
    some false
   else
    bif (decide (0≤1) && decide (1 < (t3.2.2.2.2.1.length:Int))) then
     bif (decide (0≤0) && decide (0 < ((((List.getD t3.2.2.2.2.1 1 ([],[],(false,[],[]),(false,[],[]),(false,[],[]),[],[],[])).2).1).length:Int))) then
      (d65 1 3).bind fun r_4 =>
      (d37 (List.getD (((List.getD t3.2.2.2.2.1 1 ([],[],(false,[],[]),(false,[],[]),(false,[],[]),[],[],[])).2).1) 0 (false,[],[])) r_4).bind fun r_5 =>
      bif r_5 then
       bif (decide (0≤2) && decide (2 < (t3.2.2.2.2.1.length:Int))) then
        (d39 2).bind fun r_6 =>
        (d37 (((((List.getD t3.2.2.2.2.1 2 ([],[],(false,[],[]),(false,[],[]),(false,[],[]),[],[],[])).2).2).2).1) r_6).bind fun r_7 =>
        bif r_7 then
         (d30 9 2).bind fun r_8 =>
         some (decide (r_8=4))
        else
         some false
       else none
      else
       some false
     else none
    else none) fun j_ =>
 bif !(!(decide (r_2.2=0))) then
  bif !(!(decide ((r_2.1.2.2.2.2.1.length:Int)=3))) then
   bif (decide (0≤1) && decide (1 < (r_2.1.2.2.2.2.1.length:Int))) then
    bif !(!(decide (((((List.getD r_2.1.2.2.2.2.1 1 ([],[],(false,[],[]),(false,[],[]),(false,[],[]),[],[],[])).2).1).length:Int)=3))) then
     (d38 r_2.1.2.2.2.2.2 [0,2]).bind fun r_3 =>
     j_ (r_2.1,!r_3)
    else
     j_ (r_2.1,true)
   else none
  else
   j_ (r_2.1,true)
 else
  j_ (r_2.1,true)
noncomputable def d70 (p0:Int) (p1:List ub15):Option Bool :=
 letJ (fun ((t0,t1,t12):Int × ub12 × Bool) =>
   bif t12 then
    some false
   else
    (zaa (β:=Unit ⊕ Bool) (fun ((t0_1,t1_1,t5,t6):Int × ub12 × Int × Int) =>
      bif (decide (t6 < (t1_1.length:Int))) then
       letJ (fun ((t0_2,t1_2,t5_1,t6_1,t62):Int × ub12 × Int × Int × Bool) =>
         bif t62 then
          some (Sum.inr (Sum.inr false))
         else
          bif (decide (0≤t6_1) && decide (t6_1 < (t1_2.length:Int))) then
           some (Sum.inl (t0_2,t1_2,(w (t5_1 - ((List.getD t1_2 (Int.toNat t6_1) ([],0)).2))),(w (t6_1+1))))
          else none) fun j__1 =>
       bif (decide (0≤t6) && decide (t6 < (t1_1.length:Int))) then
        (d32 t0_1 ((List.getD t1_1 (Int.toNat t6) ([],0)).1)).bind fun r =>
        bif !(!r) then
         bif (decide (0≤t6) && decide (t6 < (t1_1.length:Int))) then
          bif !(decide ((List.getD t1_1 (Int.toNat t6) ([],0)).2 < 1)) then
           bif (decide (0≤t6) && decide (t6 < (t1_1.length:Int))) then
            bif !(decide (t5 < (List.getD t1_1 (Int.toNat t6) ([],0)).2)) then
             bif (decide (0 < t6)) then
              bif (decide (0≤(w (t6 - 1))) && decide ((w (t6 - 1)) < (t1_1.length:Int))) then
               bif (decide (0≤t6) && decide (t6 < (t1_1.length:Int))) then
                (d97 ((List.getD t1_1 (Int.toNat (w (t6 - 1))) ([],0)).1) ((List.getD t1_1 (Int.toNat t6) ([],0)).1)).bind fun r_1 =>
                j__1 (t0_1,t1_1,t5,t6,!r_1)
               else none
              else none
             else
              j__1 (t0_1,t1_1,t5,t6,false)
            else
             j__1 (t0_1,t1_1,t5,t6,true)
           else none
          else
           j__1 (t0_1,t1_1,t5,t6,true)
         else none
        else
         j__1 (t0_1,t1_1,t5,t6,true)
       else none
      else
       some (Sum.inr (Sum.inl ()))) (t0,t1,100000,0)).bind fun
    | Sum.inl _ =>
     some true
    | Sum.inr t4 =>
     some t4) fun j_ =>
 bif !(decide (p0 < 1)) then
  j_ (p0,p1,(decide (7 < p0)))
 else
  j_ (p0,p1,true)
noncomputable def d71 (n:Int) (l:List Int):Option Bool :=
 bif (decide ((l.length:Int)=n)) then
  (d32 n l).bind fun r =>
  some r
 else
  some false
noncomputable def d23 (p0:Int) (p1:ub6) (p2:List ub15) (p3:List Int):Option Int :=
 letJ (fun ((t0,t2,t3,t5,t9,t25):Int × ub12 × ub17 × ub6 × Int × Bool) =>
   bif t25 then
    some 5
   else
    letJ (fun ((t0_1,t2_1,t3_1,t5_1,t9_1,t10):Int × ub12 × ub17 × ub6 × Int × Bool) =>
      letJ (fun ((t2_2,t3_2,t9_2,t77):ub12 × ub17 × Int × Bool) =>
        bif t77 then
         some 4
        else
         (d70 t9_2 t2_2).bind fun r =>
         bif !r then
          some 8
         else
          (d71 t9_2 t3_2).bind fun r_1 =>
          bif !r_1 then
           some 13
          else
           some 0) fun j__2 =>
      bif !(decide (t9_1 < 1)) then
       bif !(decide (7 < t9_1)) then
        bif !(decide (t5_1.2.2.2.1 < 1)) then
         bif !(decide (5 < t5_1.2.2.2.1)) then
          bif (decide (t0_1=1)) then
           bif !(!(decide (t5_1.2.2.2.1=1))) then
            bif !(!t10) then
             bif !(decide (t5_1.2.2.2.2.2.2.1 < 1)) then
              j__2 (t2_1,t3_1,t9_1,(decide (3 < t5_1.2.2.2.2.2.2.1)))
             else
              j__2 (t2_1,t3_1,t9_1,true)
            else
             j__2 (t2_1,t3_1,t9_1,true)
           else
            j__2 (t2_1,t3_1,t9_1,true)
          else
           bif !(!t10) then
            bif !(decide (t5_1.2.2.2.2.2.2.1 < 1)) then
             j__2 (t2_1,t3_1,t9_1,(decide (3 < t5_1.2.2.2.2.2.2.1)))
            else
             j__2 (t2_1,t3_1,t9_1,true)
           else
            j__2 (t2_1,t3_1,t9_1,true)
         else
          j__2 (t2_1,t3_1,t9_1,true)
        else
         j__2 (t2_1,t3_1,t9_1,true)
       else
        j__2 (t2_1,t3_1,t9_1,true)
      else
       j__2 (t2_1,t3_1,t9_1,true)) fun j__1 =>
    bif (decide (t0=2)) then
     bif (decide (1≤t5.2.2.2.2.2.1)) then
      j__1 (t0,t2,t3,t5,t9,(decide (t5.2.2.2.2.2.1≤6)))
     else
      j__1 (t0,t2,t3,t5,t9,false)
    else
     j__1 (t0,t2,t3,t5,t9,(decide (t5.2.2.2.2.2.1=0)))) fun j_ =>
 bif !(decide (p0 < 1)) then
  bif !(decide (3 < p0)) then
   j_ (p0,p2,p3,p1,(p1.2.1.length:Int),!(decide (p1.2.2.1=p0)))
  else
   j_ (p0,p2,p3,p1,(p1.2.1.length:Int),true)
 else
  j_ (p0,p2,p3,p1,(p1.2.1.length:Int),true)
noncomputable def d99 (n:Int) (l:List Int):Option ub17 :=
 (zaa (β:=ub17) (fun ((n_1,l_1,out,i):Int × ub17 × ub17 × Int) =>
   letJ (fun ((n_2,l_2,out_1,i_1,t17):Int × ub17 × ub17 × Int × Bool) =>
     bif t17 then
      letJ (fun ((n_3,l_3,out_2,i_2):Int × ub17 × ub17 × Int) =>
        some (Sum.inl (n_3,l_3,out_2,(w (i_2+1))))) fun j__1 =>
      bif (decide (0≤i_1) && decide (i_1 < (l_2.length:Int))) then
       (d24 (List.getD l_2 (Int.toNat i_1) 0) n_2).bind fun r =>
       (d49 out_1 r).bind fun r_1 =>
       bif !r_1 then
        bif (decide ((out_1.length:Int)+(([r]:List Int).length:Int)≤LIM)) then
         j__1 (n_2,l_2,(out_1++[r]),i_1)
        else none
       else
        j__1 (n_2,l_2,out_1,i_1)
      else none
     else
      some (Sum.inr out_1)) fun j_ =>
   bif (decide (i < (l_1.length:Int))) then
    j_ (n_1,l_1,out,i,(decide ((out.length:Int) < n_1)))
   else
    j_ (n_1,l_1,out,i,false)) (n,l,[],0)).bind fun (out_3:List Int) =>
 some out_3
def sg99:Sig:=⟨[(y2,.sh),(y26,.bw)],[(y26,(.own 3 .sh))]⟩
def plan99:Plan:=(.seq (.reg [] []) (.seq (.reg [] [{ fl:=2 }]) (.seq (.seq (.reg [] []) (.block (.loop [(0,.v y2 .sh),(1,.v y26 .bw),(5,.v y26 (.own 3 .sh)),(6,.v y2 .sh)] [(.brk 0,[(5,.v y26 (.own 3 .sh))])] (.seq (.join (.reg [] []) [(0,.v y2 .sh),(1,.v y26 .bw),(5,.v y26 (.own 3 .sh)),(6,.v y2 .sh),(17,.v y4 .sh)] (.cond .nil .nil)) (.join (.block (.seq (.reg [] []) (.seq (.reg [] []) (.cond (.reg [] []) .nil)))) [(0,.v y2 .sh),(1,.v y26 .bw),(5,.v y26 (.own 3 .sh)),(6,.v y2 .sh)] (.reg [] [])))))) (.seq (.reg [] []) .nil))))
theorem ev99 (xs:Vals (ptys sg99.ps)):evF (P:=Tryz.prog) tab [.fn E24,.fn E49] sg99 Tryz.f99.results.toList (code Tryz.f99) plan99 xs=d99 xs.1 xs.2.1:=by kernel_rfl
theorem sim99:Sim Tryz.prog 99 sg99 d99:=zah mixd zan Tryz.func99 (zac rfl) Tryz.call99 (Nat.le_of_ble_eq_true (by kernel_rfl)) (by kernel_rfl) plan99 _ fun xs y h=>(ev99 xs).trans h
noncomputable def E99:FnE Tryz.prog:=⟨99,sg99,d99,sim99⟩
noncomputable def d46 (n:Int) (l:List ub17) (most:Int):Option ub14 :=
 (zaa (β:=ub14) (fun ((n_1,l_1,most_1,out,i):Int × ub14 × Int × ub14 × Int) =>
   letJ (fun ((n_2,l_2,most_2,out_1,i_1,t17):Int × ub14 × Int × ub14 × Int × Bool) =>
     bif t17 then
      bif (decide (0≤i_1) && decide (i_1 < (l_2.length:Int))) then
       bif (decide (0≤i_1) && decide (i_1 < (l_2.length:Int))) then
        bif (zcf 0 (bif (decide (12 < ((List.getD l_2 (Int.toNat i_1) []).length:Int))) then 12 else ((List.getD l_2 (Int.toNat i_1) []).length:Int)) (List.getD l_2 (Int.toNat i_1) []).length) then
         (d99 n_2 (List.drop 0 (List.take (Int.toNat (bif (decide (12 < ((List.getD l_2 (Int.toNat i_1) []).length:Int))) then 12 else ((List.getD l_2 (Int.toNat i_1) []).length:Int))) (List.getD l_2 (Int.toNat i_1) [])))).bind fun r =>
         bif (decide ((out_1.length:Int)+(([r]:List ub17).length:Int)≤LIM)) then
          some (Sum.inl (n_2,l_2,most_2,(out_1++[r]),(w (i_1+1))))
         else none
        else none
       else none
      else none
     else
      some (Sum.inr out_1)) fun j_ =>
   bif (decide (i < (l_1.length:Int))) then
    j_ (n_1,l_1,most_1,out,i,(decide (i < most_1)))
   else
    j_ (n_1,l_1,most_1,out,i,false)) (n,l,most,[],0)).bind fun (out_2:List ub17) =>
 some out_2
def sg46:Sig:=⟨[(y2,.sh),(y27,.bw),(y2,.sh)],[(y27,(.own 26 .sh))]⟩
def plan46:Plan:=(.seq (.reg [] []) (.seq (.reg [] [{ fl:=2 }]) (.seq (.seq (.reg [] []) (.block (.loop [(0,.v y2 .sh),(1,.v y27 .bw),(2,.v y2 .sh),(7,.v y27 (.own 26 .sh)),(8,.v y2 .sh)] [(.brk 0,[(7,.v y27 (.own 26 .sh))])] (.seq (.join (.reg [] []) [(0,.v y2 .sh),(1,.v y27 .bw),(2,.v y2 .sh),(7,.v y27 (.own 26 .sh)),(8,.v y2 .sh),(17,.v y4 .sh)] (.cond .nil .nil)) (.seq (.block (.reg [] [{},{},{},{},{},{},{},{},{},{},{},{},{},{},{ frz:=[(33,[])] }])) (.reg [] [])))))) (.seq (.reg [] []) .nil))))
theorem ev46 (xs:Vals (ptys sg46.ps)):evF (P:=Tryz.prog) tab [.fn E99] sg46 Tryz.f46.results.toList (code Tryz.f46) plan46 xs=d46 xs.1 xs.2.1 xs.2.2.1:=by kernel_rfl
theorem sim46:Sim Tryz.prog 46 sg46 d46:=zah mixd zan Tryz.func46 (zac rfl) Tryz.call46 (Nat.le_of_ble_eq_true (by kernel_rfl)) (by kernel_rfl) plan46 _ fun xs y h=>(ev46 xs).trans h
noncomputable def E46:FnE Tryz.prog:=⟨46,sg46,d46,sim46⟩
noncomputable def d26 (n:Int) (l:List ub17) (most:Int):Option ub12 :=
 (d46 n l most).bind fun r =>
 (d48 n r).bind fun r_1 =>
 some r_1.1
def sg26:Sig:=⟨[(y2,.sh),(y27,.bw),(y2,.sh)],[(y25,.sh)]⟩
def plan26:Plan:=(.seq (.reg [] []) (.seq (.reg [] [{},{},{},{},{},{},{ fl:=1 }]) (.seq (.reg [] []) .nil)))
theorem ev26 (xs:Vals (ptys sg26.ps)):evF (P:=Tryz.prog) tab [.fn E46,.fn E48] sg26 Tryz.f26.results.toList (code Tryz.f26) plan26 xs=d26 xs.1 xs.2.1 xs.2.2.1:=by kernel_rfl
theorem sim26:Sim Tryz.prog 26 sg26 d26:=zah mixd zan Tryz.func26 (zac rfl) Tryz.call26 (Nat.le_of_ble_eq_true (by kernel_rfl)) (by kernel_rfl) plan26 _ fun xs y h=>(ev26 xs).trans h
noncomputable def E26:FnE Tryz.prog:=⟨26,sg26,d26,sim26⟩
noncomputable def d27 (n:Int) (code_:Int):Option ub17 :=
 (zaa (β:=ub17) (fun ((n_1,code__1,out,i):Int × Int × ub17 × Int) =>
   bif (decide (i < n_1)) then
    (d24 code__1 (w (i+1))).bind fun r =>
    bif (!decide ((w (i+1))=0)) then
     bif (zcf 0 r out.length) then
      bif (decide ((([]:List Int).length:Int)+((List.drop 0 (List.take (Int.toNat r) out)).length:Int)≤LIM)) then
       bif (decide (((List.drop 0 (List.take (Int.toNat r) out)).length:Int)+(([i]:List Int).length:Int)≤LIM)) then
        bif (zcf r (out.length:Int) out.length) then
         bif (decide ((((List.drop 0 (List.take (Int.toNat r) out))++[i]).length:Int)+((List.drop (Int.toNat r) (List.take (Int.toNat (out.length:Int)) out)).length:Int)≤LIM)) then
          some (Sum.inl (n_1,(w (Int.tdiv code__1 (w (i+1)))),(((List.drop 0 (List.take (Int.toNat r) out))++[i])++(List.drop (Int.toNat r) (List.take (Int.toNat (out.length:Int)) out))),(w (i+1))))
         else none
        else none
       else none
      else none
     else none
    else none
   else
    some (Sum.inr out)) (n,code_,[],0)).bind fun (out_1:List Int) =>
 some out_1
def sg27:Sig:=⟨[(y2,.sh),(y2,.sh)],[(y26,(.own 3 .sh))]⟩
def plan27:Plan:=(.seq (.reg [] []) (.seq (.reg [] [{ fl:=2 }]) (.seq (.seq (.reg [] []) (.block (.loop [(0,.v y2 .sh),(1,.v y2 .sh),(5,.v y26 (.own 3 .sh)),(6,.v y2 .sh)] [(.brk 0,[(5,.v y26 (.own 3 .sh))])] (.seq (.seq (.reg [] []) (.cond .nil .nil)) (.seq (.block (.seq (.reg [] []) (.seq (.reg [] []) (.reg [(5,[])] [])))) (.reg [] [])))))) (.seq (.reg [] []) .nil))))
theorem ev27 (xs:Vals (ptys sg27.ps)):evF (P:=Tryz.prog) tab [.fn E24] sg27 Tryz.f27.results.toList (code Tryz.f27) plan27 xs=d27 xs.1 xs.2.1:=by kernel_rfl
theorem sim27:Sim Tryz.prog 27 sg27 d27:=zah mixd zan Tryz.func27 (zac rfl) Tryz.call27 (Nat.le_of_ble_eq_true (by kernel_rfl)) (by kernel_rfl) plan27 _ fun xs y h=>(ev27 xs).trans h
noncomputable def E27:FnE Tryz.prog:=⟨27,sg27,d27,sim27⟩
noncomputable def d146 (gs:List ub15):Option Bool :=
 (d70 7 gs).bind fun r =>
 some r
noncomputable def d83 (gs:List ub15):Option Int :=
 (zaa (β:=Int) (fun ((gs_1,n,i):ub12 × Int × Int) =>
   letJ (fun ((gs_2,n_1,i_1,t12):ub12 × Int × Int × Bool) =>
     bif t12 then
      bif (decide (0≤i_1) && decide (i_1 < (gs_2.length:Int))) then
       some (Sum.inl (gs_2,(w (n_1+((List.getD gs_2 (Int.toNat i_1) ([],0)).2))),(w (i_1+1))))
      else none
     else
      some (Sum.inr n_1)) fun j_ =>
   bif (decide (i < (gs_1.length:Int))) then
    (d146 gs_1).bind fun r =>
    j_ (gs_1,n,i,r)
   else
    j_ (gs_1,n,i,false)) (gs,0,0)).bind fun (n_2:Int) =>
 some n_2
noncomputable def d74 (gs:List ub15):Option Int :=
 (d83 gs).bind fun r =>
 letJ (fun (n_1:Int) =>
   some n_1) fun j__1 =>
 letJ (fun ((gs_1,n,t15):ub12 × Int × Bool) =>
   bif t15 then
    bif (decide (0≤0) && decide (0 < (gs_1.length:Int))) then
     j__1 (w (n - ((List.getD gs_1 0 ([],0)).2)))
    else none
   else
    j__1 n) fun j_ =>
 bif (decide (0 < r)) then
  bif (decide (0≤0) && decide (0 < (gs.length:Int))) then
   j_ (gs,r,(decide ((((List.getD gs 0 ([],0)).1).length:Int)=0)))
  else none
 else
  j_ (gs,r,false)
noncomputable def d73 (ballots:Int) (seats:Int):Option Int :=
 letJ (fun ((ballots_1,seats_1,t18):Int × Int × Bool) =>
   bif t18 then
    some 0
   else
    bif (!decide ((w (seats_1+1))=0)) then
     some (w ((w (Int.tdiv ballots_1 (w (seats_1+1))))+1))
    else none) fun j_ =>
 bif !(decide (ballots < 0)) then
  bif !(decide (100000 < ballots)) then
   bif !(decide (seats < 1)) then
    j_ (ballots,seats,(decide (5 < seats)))
   else
    j_ (ballots,seats,true)
  else
   j_ (ballots,seats,true)
 else
  j_ (ballots,seats,true)
noncomputable def d75 (n:Int):Option ub16 :=
 (d93 (wu64 n)).bind fun r =>
 some r
noncomputable def d76 (p0:ub9) (p1:List ub15) (p2:List Int) (p3:Int):Option ub13 :=
 (zaa (β:=ub13) (fun ((t1,t2,t3,t4,t9,t10):ub12 × ub17 × Int × ub9 × ub13 × Int) =>
   bif (decide (t10 < (t2.length:Int))) then
    (d75 0).bind fun r =>
    letJ (fun ((t1_1,t2_1,t3_1,t4_1,t9_1,t10_1,t11):ub12 × ub17 × Int × ub9 × ub13 × Int × ub16) =>
      (zaa (β:=(ub12 × ub17 × Int × ub9 × ub13 × Int × ub16)) (fun ((t1_2,t2_2,t3_2,t4_2,t9_2,t10_2,t11_1,t12):ub12 × ub17 × Int × ub9 × ub13 × Int × ub16 × Int) =>
        bif (decide (t12 < (t1_2.length:Int))) then
         letJ (fun ((t1_4,t2_4,t3_4,t4_4,t9_4,t10_4,t11_3,t12_2):ub12 × ub17 × Int × ub9 × ub13 × Int × ub16 × Int) =>
           some (Sum.inl (t1_4,t2_4,t3_4,t4_4,t9_4,t10_4,t11_3,(w (t12_2+1))))) fun j__2 =>
         letJ (fun ((t1_3,t2_3,t3_3,t4_3,t9_3,t10_3,t11_2,t12_1,t70):ub12 × ub17 × Int × ub9 × ub13 × Int × ub16 × Int × Bool) =>
           bif t70 then
            bif (decide (0≤t12_1) && decide (t12_1 < (t1_3.length:Int))) then
             (d75 ((List.getD t1_3 (Int.toNat t12_1) ([],0)).2)).bind fun r_3 =>
             bif (decide (0≤t12_1) && decide (t12_1 < (t4_3.1.length:Int))) then
              (d77 r_3 (List.getD t4_3.1 (Int.toNat t12_1) [])).bind fun r_4 =>
              (d79 t11_2 r_4).bind fun r_5 =>
              j__2 (t1_3,t2_3,t3_3,t4_3,t9_3,t10_3,r_5,t12_1)
             else none
            else none
           else
            j__2 (t1_3,t2_3,t3_3,t4_3,t9_3,t10_3,t11_2,t12_1)) fun j__1 =>
         bif (decide (0≤t12) && decide (t12 < (t4_2.2.2.length:Int))) then
          bif (decide (0≤t12) && decide (t12 < (t1_2.length:Int))) then
           bif (decide ((List.getD t4_2.2.2 (Int.toNat t12) 0) < (((List.getD t1_2 (Int.toNat t12) ([],0)).1).length:Int))) then
            bif (decide (0≤t12) && decide (t12 < (t1_2.length:Int))) then
             bif (decide (0≤t12) && decide (t12 < (t4_2.2.2.length:Int))) then
              bif (decide (0≤(List.getD t4_2.2.2 (Int.toNat t12) 0)) && decide ((List.getD t4_2.2.2 (Int.toNat t12) 0) < (((List.getD t1_2 (Int.toNat t12) ([],0)).1).length:Int))) then
               bif (decide ((List.getD ((List.getD t1_2 (Int.toNat t12) ([],0)).1) (Int.toNat (List.getD t4_2.2.2 (Int.toNat t12) 0)) 0)=t10_2)) then
                bif (decide (0≤t10_2) && decide (t10_2 < (t2_2.length:Int))) then
                 j__1 (t1_2,t2_2,t3_2,t4_2,t9_2,t10_2,t11_1,t12,(decide ((List.getD t2_2 (Int.toNat t10_2) 0) < 2)))
                else none
               else
                j__1 (t1_2,t2_2,t3_2,t4_2,t9_2,t10_2,t11_1,t12,false)
              else none
             else none
            else none
           else
            j__1 (t1_2,t2_2,t3_2,t4_2,t9_2,t10_2,t11_1,t12,false)
          else none
         else none
        else
         some (Sum.inr (t1_2,t2_2,t3_2,t4_2,t9_2,t10_2,t11_1))) (t1_1,t2_1,t3_1,t4_1,t9_1,t10_1,t11,0)).bind fun ((t1_5,t2_5,t3_5,t4_5,t9_5,t10_5,t11_4):ub12 × ub17 × Int × ub9 × ub13 × Int × ub16) =>
      bif (decide ((t9_5.length:Int)+(([t11_4]:List ub16).length:Int)≤LIM)) then
       some (Sum.inl (t1_5,t2_5,t3_5,t4_5,(t9_5++[t11_4]),(w (t10_5+1))))
      else none) fun j_ =>
    bif (decide (0≤t10) && decide (t10 < (t2.length:Int))) then
     bif (decide ((List.getD t2 (Int.toNat t10) 0)=2)) then
      (d75 t3).bind fun r_1 =>
      (d77 r_1 t4.2.1).bind fun r_2 =>
      j_ (t1,t2,t3,t4,t9,t10,r_2)
     else
      j_ (t1,t2,t3,t4,t9,t10,r)
    else none
   else
    some (Sum.inr t9)) (p1,p2,p3,p0,[],0)).bind fun (t9_6:List ub16) =>
 some t9_6
noncomputable def d78 (a:List Bool) (d:List Bool):Option ub11 :=
 (d75 1).bind fun r =>
 (d75 1).bind fun r_1 =>
 (d144 (false,a,r) (false,d,r_1)).bind fun r_2 =>
 (d143 r_2).bind fun r_3 =>
 some r_3
noncomputable def d81 (l:List Int) (c:Int):Option ub17 :=
 (zaa (β:=(ub17 × Int × ub17)) (fun ((l_1,c_1,out,i):ub17 × Int × ub17 × Int) =>
   bif (decide (i < (l_1.length:Int))) then
    letJ (fun ((l_2,c_2,out_1,i_1):ub17 × Int × ub17 × Int) =>
      some (Sum.inl (l_2,c_2,out_1,(w (i_1+1))))) fun j_ =>
    bif (decide (0≤i) && decide (i < (l_1.length:Int))) then
     bif (decide ((List.getD l_1 (Int.toNat i) 0) < c_1)) then
      bif (decide (0≤i) && decide (i < (l_1.length:Int))) then
       bif (decide ((out.length:Int)+(([(List.getD l_1 (Int.toNat i) 0)]:List Int).length:Int)≤LIM)) then
        j_ (l_1,c_1,(out++[(List.getD l_1 (Int.toNat i) 0)]),i)
       else none
      else none
     else
      j_ (l_1,c_1,out,i)
    else none
   else
    some (Sum.inr (l_1,c_1,out))) (l,c,[],0)).bind fun ((l_3,c_3,out_2):ub17 × Int × ub17) =>
 bif (decide ((out_2.length:Int)+(([c_3]:List Int).length:Int)≤LIM)) then
  (zaa (β:=ub17) (fun ((l_4,c_4,out_3,i_2):ub17 × Int × ub17 × Int) =>
    bif (decide (i_2 < (l_4.length:Int))) then
     letJ (fun ((l_5,c_5,out_4,i_3):ub17 × Int × ub17 × Int) =>
       some (Sum.inl (l_5,c_5,out_4,(w (i_3+1))))) fun j__1 =>
     bif (decide (0≤i_2) && decide (i_2 < (l_4.length:Int))) then
      bif (decide (c_4 < (List.getD l_4 (Int.toNat i_2) 0))) then
       bif (decide (0≤i_2) && decide (i_2 < (l_4.length:Int))) then
        bif (decide ((out_3.length:Int)+(([(List.getD l_4 (Int.toNat i_2) 0)]:List Int).length:Int)≤LIM)) then
         j__1 (l_4,c_4,(out_3++[(List.getD l_4 (Int.toNat i_2) 0)]),i_2)
        else none
       else none
      else
       j__1 (l_4,c_4,out_3,i_2)
     else none
    else
     some (Sum.inr out_3)) (l_3,c_3,(out_2++[c_3]),0)).bind fun (out_5:List Int) =>
  some out_5
 else none
noncomputable def d84 (state:List Int) (s:Int):Option Int :=
 (zaa (β:=Int) (fun ((state_1,s_1,n,i):ub17 × Int × Int × Int) =>
   bif (decide (i < (state_1.length:Int))) then
    letJ (fun ((state_2,s_2,n_1,i_1):ub17 × Int × Int × Int) =>
      some (Sum.inl (state_2,s_2,n_1,(w (i_1+1))))) fun j_ =>
    bif (decide (0≤i) && decide (i < (state_1.length:Int))) then
     bif (decide ((List.getD state_1 (Int.toNat i) 0)=s_1)) then
      j_ (state_1,s_1,(w (n+1)),i)
     else
      j_ (state_1,s_1,n,i)
    else none
   else
    some (Sum.inr n)) (state,s,0,0)).bind fun (n_2:Int) =>
 some n_2
noncomputable def d85 (elected:List Int) (state:List Int):Option (ub17 × ub17) :=
 (zaa (β:=(ub17 × ub17)) (fun ((elected_1,state_1,i):ub17 × ub17 × Int) =>
   bif (decide (i < (state_1.length:Int))) then
    letJ (fun ((elected_2,state_2,i_1):ub17 × ub17 × Int) =>
      some (Sum.inl (elected_2,state_2,(w (i_1+1))))) fun j_ =>
    bif (decide (0≤i) && decide (i < (state_1.length:Int))) then
     bif (decide ((List.getD state_1 (Int.toNat i) 0)=0)) then
      (d81 elected_1 i).bind fun r =>
      bif (decide (0≤i) && decide (i < (state_1.length:Int))) then
       j_ (r,(List.set state_1 (Int.toNat i) 1),i)
      else none
     else
      j_ (elected_1,state_1,i)
    else none
   else
    some (Sum.inr (elected_1,state_1))) (elected,state,0)).bind fun ((elected_3,state_3):ub17 × ub17) =>
 some (elected_3,state_3)
noncomputable def d86 (t:ub4):Option ub17 :=
 (zaa (β:=ub17) (fun ((t_1,out,i):ub4 × ub17 × Int) =>
   bif (decide (i < (t_1.2.2.2.2.1.length:Int))) then
    bif (decide (0≤i) && decide (i < (t_1.2.2.2.2.1.length:Int))) then
     bif (decide ((out.length:Int)+((((((((List.getD t_1.2.2.2.2.1 (Int.toNat i) ([],[],(false,[],[]),(false,[],[]),(false,[],[]),[],[],[])).2).2).2).2).2).1).length:Int)≤LIM)) then
      some (Sum.inl (t_1,(out++((((((List.getD t_1.2.2.2.2.1 (Int.toNat i) ([],[],(false,[],[]),(false,[],[]),(false,[],[]),[],[],[])).2).2).2).2).2).1),(w (i+1))))
     else none
    else none
   else
    some (Sum.inr out)) (t,[],0)).bind fun (out_1:List Int) =>
 some out_1
end Go.Proofs.YtmipjomnjkmdbaaGreat
