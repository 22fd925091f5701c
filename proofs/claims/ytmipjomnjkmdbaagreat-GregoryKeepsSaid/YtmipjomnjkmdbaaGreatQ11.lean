/- Part 11 of what stands below the statement. -/
import Derived.Test.YtmipjomnjkmdbaaGreatQ10
open Go Go.Proofs Go.X
namespace Go.Proofs.YtmipjomnjkmdbaaGreat
set_option linter.unusedVariables false
set_option maxRecDepth 100000
noncomputable def d19 (gs:List (List Int × Int)):Option Bool :=
 (whileO (β:=(List (List Int × Int)) ⊕ Bool) (fun ((gs_1,i):(List (List Int × Int)) × Int) =>
   bif (decide (i < (gs_1.length:Int))) then
    bif (decide (0≤i) && decide (i < (gs_1.length:Int))) then
     bif (decide (12 < (((List.getD gs_1 (Int.toNat i) ([],0)).1).length:Int))) then
      some (Sum.inr (Sum.inr false))
     else
      some (Sum.inl (gs_1,(w (i+1))))
    else none
   else
    some (Sum.inr (Sum.inl gs_1))) (gs,0)).bind fun
 | Sum.inl gs_2 =>
  some (decide ((gs_2.length:Int)≤60))
 | Sum.inr t2 =>
  some t2
noncomputable def d20 (l:List (List Int)):Option Bool :=
 (whileO (β:=(List (List Int)) ⊕ Bool) (fun ((l_1,i):(List (List Int)) × Int) =>
   bif (decide (i < (l_1.length:Int))) then
    bif (decide (0≤i) && decide (i < (l_1.length:Int))) then
     bif (decide (12 < ((List.getD l_1 (Int.toNat i) []).length:Int))) then
      some (Sum.inr (Sum.inr false))
     else
      some (Sum.inl (l_1,(w (i+1))))
    else none
   else
    some (Sum.inr (Sum.inl l_1))) (l,0)).bind fun
 | Sum.inl l_2 =>
  some (decide ((l_2.length:Int)≤16))
 | Sum.inr t2 =>
  some t2
def sg20:Sig:=⟨[(y27,.bw)],[(y4,.sh)]⟩
def plan20:Plan:=(.seq (.reg [] []) (.seq (.seq (.reg [] []) (.block (.loop [(0,.v y27 .bw),(3,.v y2 .sh)] [(.brk 0,[(0,.v y27 .bw)]),(.ret,[(2,.v y4 .sh)])] (.seq (.seq (.reg [] []) (.cond .nil .nil)) (.seq (.block (.seq (.reg [] []) (.cond (.seq (.reg [] []) .nil) .nil))) (.reg [] [])))))) (.seq (.reg [] []) .nil)))
theorem ev20 (xs:Vals (ptys sg20.ps)):evF (P:=Tryz.prog) tab [] sg20 Tryz.f20.results.toList (code Tryz.f20) plan20 xs=d20 xs.1:=by kernel_rfl
theorem sim20:Sim Tryz.prog 20 sg20 d20:=sim_ev mixd tabOK Tryz.func20 (code_of rfl) Tryz.call20 (Nat.le_of_ble_eq_true (by kernel_rfl)) (by kernel_rfl) plan20 _ fun xs y h=>(ev20 xs).trans h
noncomputable def E20:FnE Tryz.prog:=⟨20,sg20,d20,sim20⟩
noncomputable def d49 (l:List Int) (x:Int):Option Bool :=
 (whileO (β:=Unit ⊕ Bool) (fun ((l_1,x_1,i):(List Int) × Int × Int) =>
   bif (decide (i < (l_1.length:Int))) then
    bif (decide (0≤i) && decide (i < (l_1.length:Int))) then
     bif (decide ((List.getD l_1 (Int.toNat i) 0)=x_1)) then
      some (Sum.inr (Sum.inr true))
     else
      some (Sum.inl (l_1,x_1,(w (i+1))))
    else none
   else
    some (Sum.inr (Sum.inl ()))) (l,x,0)).bind fun
 | Sum.inl _ =>
  some false
 | Sum.inr t4 =>
  some t4
def sg49:Sig:=⟨[(y26,.bw),(y2,.sh)],[(y4,.sh)]⟩
def plan49:Plan:=(.seq (.reg [] []) (.seq (.seq (.reg [] []) (.block (.loop [(0,.v y26 .bw),(1,.v y2 .sh),(5,.v y2 .sh)] [(.brk 0,[]),(.ret,[(4,.v y4 .sh)])] (.seq (.seq (.reg [] []) (.cond .nil .nil)) (.seq (.block (.seq (.reg [] []) (.cond (.seq (.reg [] []) .nil) .nil))) (.reg [] [])))))) (.seq (.reg [] []) .nil)))
theorem ev49 (xs:Vals (ptys sg49.ps)):evF (P:=Tryz.prog) tab [] sg49 Tryz.f49.results.toList (code Tryz.f49) plan49 xs=d49 xs.1 xs.2.1:=by kernel_rfl
theorem sim49:Sim Tryz.prog 49 sg49 d49:=sim_ev mixd tabOK Tryz.func49 (code_of rfl) Tryz.call49 (Nat.le_of_ble_eq_true (by kernel_rfl)) (by kernel_rfl) plan49 _ fun xs y h=>(ev49 xs).trans h
noncomputable def E49:FnE Tryz.prog:=⟨49,sg49,d49,sim49⟩
noncomputable def d32 (n:Int) (p:List Int):Option Bool :=
 (whileO (β:=Unit ⊕ Bool) (fun ((n_1,p_1,i):Int × (List Int) × Int) =>
   bif (decide (i < (p_1.length:Int))) then
    letJ (fun ((n_2,p_2,i_1,t34):Int × (List Int) × Int × Bool) =>
      bif t34 then
       some (Sum.inr (Sum.inr false))
      else
       some (Sum.inl (n_2,p_2,(w (i_1+1))))) fun j_ =>
    bif (decide (0≤i) && decide (i < (p_1.length:Int))) then
     bif !(decide ((List.getD p_1 (Int.toNat i) 0) < 0)) then
      bif (decide (0≤i) && decide (i < (p_1.length:Int))) then
       bif !(decide (n_1≤(List.getD p_1 (Int.toNat i) 0))) then
        bif (cutOK 0 i p_1.length) then
         bif (decide (0≤i) && decide (i < (p_1.length:Int))) then
          (d49 (List.drop 0 (List.take (Int.toNat i) p_1)) (List.getD p_1 (Int.toNat i) 0)).bind fun r =>
          j_ (n_1,p_1,i,r)
         else none
        else none
       else
        j_ (n_1,p_1,i,true)
      else none
     else
      j_ (n_1,p_1,i,true)
    else none
   else
    some (Sum.inr (Sum.inl ()))) (n,p,0)).bind fun
 | Sum.inl _ =>
  some true
 | Sum.inr t4 =>
  some t4
def sg32:Sig:=⟨[(y2,.sh),(y26,.bw)],[(y4,.sh)]⟩
def plan32:Plan:=(.seq (.reg [] []) (.seq (.seq (.reg [] []) (.block (.loop [(0,.v y2 .sh),(1,.v y26 .bw),(5,.v y2 .sh)] [(.brk 0,[]),(.ret,[(4,.v y4 .sh)])] (.seq (.seq (.reg [] []) (.cond .nil .nil)) (.seq (.block (.join (.reg [] []) [(0,.v y2 .sh),(1,.v y26 .bw),(5,.v y2 .sh),(34,.v y4 .sh)] (.cond (.seq (.reg [] []) .nil) .nil))) (.reg [] [])))))) (.seq (.reg [] []) .nil)))
theorem ev32 (xs:Vals (ptys sg32.ps)):evF (P:=Tryz.prog) tab [.fn E49] sg32 Tryz.f32.results.toList (code Tryz.f32) plan32 xs=d32 xs.1 xs.2.1:=by kernel_rfl
theorem sim32:Sim Tryz.prog 32 sg32 d32:=sim_ev mixd tabOK Tryz.func32 (code_of rfl) Tryz.call32 (Nat.le_of_ble_eq_true (by kernel_rfl)) (by kernel_rfl) plan32 _ fun xs y h=>(ev32 xs).trans h
noncomputable def E32:FnE Tryz.prog:=⟨32,sg32,d32,sim32⟩
noncomputable def d97 (a:List Int) (b:List Int):Option Bool :=
 (whileO (β:=((List Int) × (List Int)) ⊕ Bool) (fun ((a_1,b_1,i):(List Int) × (List Int) × Int) =>
   letJ (fun ((a_2,b_2,i_1,t15):(List Int) × (List Int) × Int × Bool) =>
     bif t15 then
      bif (decide (0≤i_1) && decide (i_1 < (a_2.length:Int))) then
       bif (decide (0≤i_1) && decide (i_1 < (b_2.length:Int))) then
        bif !(decide ((List.getD a_2 (Int.toNat i_1) 0)=(List.getD b_2 (Int.toNat i_1) 0))) then
         bif (decide (0≤i_1) && decide (i_1 < (a_2.length:Int))) then
          bif (decide (0≤i_1) && decide (i_1 < (b_2.length:Int))) then
           some (Sum.inr (Sum.inr (decide ((List.getD a_2 (Int.toNat i_1) 0) < (List.getD b_2 (Int.toNat i_1) 0)))))
          else none
         else none
        else
         some (Sum.inl (a_2,b_2,(w (i_1+1))))
       else none
      else none
     else
      some (Sum.inr (Sum.inl (a_2,b_2)))) fun j_ =>
   bif (decide (i < (a_1.length:Int))) then
    j_ (a_1,b_1,i,(decide (i < (b_1.length:Int))))
   else
    j_ (a_1,b_1,i,false)) (a,b,0)).bind fun
 | Sum.inl (a_3,b_3) =>
  some (decide ((a_3.length:Int) < (b_3.length:Int)))
 | Sum.inr t4 =>
  some t4
def sg97:Sig:=⟨[(y26,.bw),(y26,.bw)],[(y4,.sh)]⟩
def plan97:Plan:=(.seq (.reg [] []) (.seq (.seq (.reg [] []) (.block (.loop [(0,.v y26 .bw),(1,.v y26 .bw),(5,.v y2 .sh)] [(.brk 0,[(0,.v y26 .bw),(1,.v y26 .bw)]),(.ret,[(4,.v y4 .sh)])] (.seq (.join (.reg [] []) [(0,.v y26 .bw),(1,.v y26 .bw),(5,.v y2 .sh),(15,.v y4 .sh)] (.cond .nil .nil)) (.seq (.block (.seq (.reg [] []) (.cond (.seq (.reg [] []) .nil) .nil))) (.reg [] [])))))) (.seq (.reg [] []) .nil)))
theorem ev97 (xs:Vals (ptys sg97.ps)):evF (P:=Tryz.prog) tab [] sg97 Tryz.f97.results.toList (code Tryz.f97) plan97 xs=d97 xs.1 xs.2.1:=by kernel_rfl
theorem sim97:Sim Tryz.prog 97 sg97 d97:=sim_ev mixd tabOK Tryz.func97 (code_of rfl) Tryz.call97 (Nat.le_of_ble_eq_true (by kernel_rfl)) (by kernel_rfl) plan97 _ fun xs y h=>(ev97 xs).trans h
noncomputable def E97:FnE Tryz.prog:=⟨97,sg97,d97,sim97⟩
noncomputable def d38 (a:List Int) (b:List Int):Option Bool :=
 (d97 a b).bind fun r =>
 bif !r then
  (d97 b a).bind fun r_1 =>
  some (!r_1)
 else
  some false
def sg38:Sig:=⟨[(y26,.bw),(y26,.bw)],[(y4,.sh)]⟩
def plan38:Plan:=(.seq (.reg [] []) (.seq (.reg [] []) .nil))
theorem ev38 (xs:Vals (ptys sg38.ps)):evF (P:=Tryz.prog) tab [.fn E97] sg38 Tryz.f38.results.toList (code Tryz.f38) plan38 xs=d38 xs.1 xs.2.1:=by kernel_rfl
theorem sim38:Sim Tryz.prog 38 sg38 d38:=sim_ev mixd tabOK Tryz.func38 (code_of rfl) Tryz.call38 (Nat.le_of_ble_eq_true (by kernel_rfl)) (by kernel_rfl) plan38 _ fun xs y h=>(ev38 xs).trans h
noncomputable def E38:FnE Tryz.prog:=⟨38,sg38,d38,sim38⟩
noncomputable def d98 (gs:List (List Int × Int)) (p:List Int) (k:Int):Option (List (List Int × Int)) :=
 (whileO (β:=((List Int) × Int × (List (List Int × Int)) × Bool)) (fun ((gs_1,p_1,k_1,out,done,i):(List (List Int × Int)) × (List Int) × Int × (List (List Int × Int)) × Bool × Int) =>
   bif (decide (i < (gs_1.length:Int))) then
    letJ (fun ((gs_4,p_4,k_4,out_3,done_3,i_3):(List (List Int × Int)) × (List Int) × Int × (List (List Int × Int)) × Bool × Int) =>
      some (Sum.inl (gs_4,p_4,k_4,out_3,done_3,(w (i_3+1))))) fun j__2 =>
    bif (decide (0≤i) && decide (i < (gs_1.length:Int))) then
     letJ (fun ((gs_3,p_3,k_3,out_2,done_2,i_2,g_1):(List (List Int × Int)) × (List Int) × Int × (List (List Int × Int)) × Bool × Int × (List Int × Int)) =>
       bif (decide ((out_2.length:Int)+(([g_1]:List (List Int × Int)).length:Int)≤LIM)) then
        j__2 (gs_3,p_3,k_3,(out_2++[g_1]),done_2,i_2)
       else none) fun j__1 =>
     letJ (fun ((gs_2,p_2,k_2,out_1,done_1,i_1,g,t29):(List (List Int × Int)) × (List Int) × Int × (List (List Int × Int)) × Bool × Int × (List Int × Int) × Bool) =>
       bif t29 then
        (d38 g.1 p_2).bind fun r_1 =>
        bif r_1 then
         bif (decide ((out_1.length:Int)+(([(g.1,(w (g.2+k_2)))]:List (List Int × Int)).length:Int)≤LIM)) then
          j__2 (gs_2,p_2,k_2,(out_1++[(g.1,(w (g.2+k_2)))]),true,i_1)
         else none
        else
         bif (decide ((out_1.length:Int)+(([(p_2,k_2)]:List (List Int × Int)).length:Int)≤LIM)) then
          j__1 (gs_2,p_2,k_2,(out_1++[(p_2,k_2)]),true,i_1,g)
         else none
       else
        j__1 (gs_2,p_2,k_2,out_1,done_1,i_1,g)) fun j_ =>
     bif !done then
      (d97 ((List.getD gs_1 (Int.toNat i) ([],0)).1) p_1).bind fun r =>
      j_ (gs_1,p_1,k_1,out,done,i,(List.getD gs_1 (Int.toNat i) ([],0)),!r)
     else
      j_ (gs_1,p_1,k_1,out,done,i,(List.getD gs_1 (Int.toNat i) ([],0)),false)
    else none
   else
    some (Sum.inr (p_1,k_1,out,done))) (gs,p,k,[],false,0)).bind fun ((p_5,k_5,out_4,done_4):(List Int) × Int × (List (List Int × Int)) × Bool) =>
 letJ (fun (out_5:List (List Int × Int)) =>
   some out_5) fun j__3 =>
 bif !done_4 then
  bif (decide ((out_4.length:Int)+(([(p_5,k_5)]:List (List Int × Int)).length:Int)≤LIM)) then
   j__3 (out_4++[(p_5,k_5)])
  else none
 else
  j__3 out_4
def sg98:Sig:=⟨[(y25,.sh),(y26,.sh),(y2,.sh)],[(y25,(.own 92 .sh))]⟩
def plan98:Plan:=(.seq (.reg [] []) (.seq (.reg [] [{ fl:=2 }]) (.seq (.reg [] []) (.seq (.seq (.reg [] []) (.block (.loop [(0,.v y25 .sh),(1,.v y26 .sh),(2,.v y2 .sh),(7,.v y25 (.own 92 .sh)),(8,.v y4 .sh),(9,.v y2 .sh)] [(.brk 0,[(1,.v y26 .sh),(2,.v y2 .sh),(7,.v y25 (.own 92 .sh)),(8,.v y4 .sh)])] (.seq (.seq (.reg [] []) (.cond .nil .nil)) (.join (.block (.seq (.reg [] []) (.join (.join (.reg [] []) [(0,.v y25 .sh),(1,.v y26 .sh),(2,.v y2 .sh),(7,.v y25 (.own 92 .sh)),(8,.v y4 .sh),(9,.v y2 .sh),(10,.v (.ptr y92) (.own 0 .sh)),(29,.v y4 .sh)] (.cond (.seq (.reg [] []) (.seq (.seq (.reg [] []) (.cond (.seq (.reg [] []) .nil) .nil)) (.reg [] []))) .nil)) [(0,.v y25 .sh),(1,.v y26 .sh),(2,.v y2 .sh),(7,.v y25 (.own 92 .sh)),(8,.v y4 .sh),(9,.v y2 .sh),(10,.v (.ptr y92) (.own 0 .sh))] (.reg [] [])))) [(0,.v y25 .sh),(1,.v y26 .sh),(2,.v y2 .sh),(7,.v y25 (.own 92 .sh)),(8,.v y4 .sh),(9,.v y2 .sh)] (.reg [] [])))))) (.join (.seq (.reg [] []) (.cond (.reg [] []) .nil)) [(7,.v y25 (.own 92 .sh))] (.seq (.reg [] []) .nil))))))
theorem ev98 (xs:Vals (ptys sg98.ps)):evF (P:=Tryz.prog) tab [.fn E97,.fn E38] sg98 Tryz.f98.results.toList (code Tryz.f98) plan98 xs=d98 xs.1 xs.2.1 xs.2.2.1:=by kernel_rfl
theorem sim98:Sim Tryz.prog 98 sg98 d98:=sim_ev mixd tabOK Tryz.func98 (code_of rfl) Tryz.call98 (Nat.le_of_ble_eq_true (by kernel_rfl)) (by kernel_rfl) plan98 _ fun xs y h=>(ev98 xs).trans h
noncomputable def E98:FnE Tryz.prog:=⟨98,sg98,d98,sim98⟩
noncomputable def d48 (n:Int) (ballots:List (List Int)):Option ((List (List Int × Int)) × Int) :=
 letJ (fun ((n_1,ballots_1,t13):Int × (List (List Int)) × Bool) =>
   bif t13 then
    some ([],4)
   else
    bif (decide (100000 < (ballots_1.length:Int))) then
     some ([],7)
    else
     (whileO (β:=(List (List Int × Int)) ⊕ ((List (List Int × Int)) × Int)) (fun ((n_2,ballots_2,gs,i):Int × (List (List Int)) × (List (List Int × Int)) × Int) =>
       bif (decide (i < (ballots_2.length:Int))) then
        bif (decide (0≤i) && decide (i < (ballots_2.length:Int))) then
         (d32 n_2 (List.getD ballots_2 (Int.toNat i) [])).bind fun r =>
         bif !r then
          some (Sum.inr (Sum.inr ([],8)))
         else
          bif (decide (0≤i) && decide (i < (ballots_2.length:Int))) then
           bif (decide ((([]:List Int).length:Int)+((List.getD ballots_2 (Int.toNat i) []).length:Int)≤LIM)) then
            (d98 gs (List.getD ballots_2 (Int.toNat i) []) 1).bind fun r_1 =>
            some (Sum.inl (n_2,ballots_2,r_1,(w (i+1))))
           else none
          else none
        else none
       else
        some (Sum.inr (Sum.inl gs))) (n_1,ballots_1,[],0)).bind fun
     | Sum.inl gs_1 =>
      some (gs_1,0)
     | Sum.inr (t4,t5) =>
      some (t4,t5)) fun j_ =>
 bif !(decide (n < 1)) then
  j_ (n,ballots,(decide (7 < n)))
 else
  j_ (n,ballots,true)
def sg48:Sig:=⟨[(y2,.sh),(y27,.bw)],[(y25,.sh),(y2,.sh)]⟩
def plan48:Plan:=(.post (.seq (.reg [] []) (.seq (.join (.reg [] []) [(0,.v y2 .sh),(1,.v y27 .bw),(13,.v y4 .sh)] (.cond (.seq (.reg [] []) .nil) .nil)) (.seq (.seq (.reg [] []) (.cond (.seq (.reg [] []) .nil) .nil)) (.seq (.reg [] [{ fl:=2 }]) (.seq (.seq (.reg [] []) (.block (.loop [(0,.v y2 .sh),(1,.v y27 .bw),(6,.v y25 (.own 92 .sh)),(7,.v y2 .sh)] [(.brk 0,[(6,.v y25 (.own 92 .sh))]),(.ret,[(4,.v y25 .sh),(5,.v y2 .sh)])] (.seq (.seq (.reg [] []) (.cond .nil .nil)) (.seq (.block (.seq (.seq (.reg [] []) (.cond (.seq (.reg [] []) .nil) .nil)) (.reg [(6,[])] [{},{},{},{},{},{},{ frz:=[(35,[])] }]))) (.reg [] [])))))) (.seq (.reg [] []) .nil)))))) [(4,[])])
theorem ev48 (xs:Vals (ptys sg48.ps)):evF (P:=Tryz.prog) tab [.fn E32,.fn E98] sg48 Tryz.f48.results.toList (code Tryz.f48) plan48 xs=d48 xs.1 xs.2.1:=by kernel_rfl
theorem sim48:Sim Tryz.prog 48 sg48 d48:=sim_ev mixd tabOK Tryz.func48 (code_of rfl) Tryz.call48 (Nat.le_of_ble_eq_true (by kernel_rfl)) (by kernel_rfl) plan48 _ fun xs y h=>(ev48 xs).trans h
noncomputable def E48:FnE Tryz.prog:=⟨48,sg48,d48,sim48⟩
noncomputable def d72 (n:Int):Option (List (List Int)) :=
 (whileO (β:=(List (List Int))) (fun ((n_1,out,i):Int × (List (List Int)) × Int) =>
   bif (decide (i < n_1)) then
    bif (decide ((out.length:Int)+(([[(wu8 (w (97+i)))]]:List (List Int)).length:Int)≤LIM)) then
     some (Sum.inl (n_1,(out++[[(wu8 (w (97+i)))]]),(w (i+1))))
    else none
   else
    some (Sum.inr out)) (n,[],0)).bind fun (out_1:List (List Int)) =>
 some out_1
def sg72:Sig:=⟨[(y2,.sh)],[(y22,(.own 9 .sh))]⟩
def plan72:Plan:=(.seq (.reg [] []) (.seq (.reg [] [{ fl:=2 }]) (.seq (.seq (.reg [] []) (.block (.loop [(0,.v y2 .sh),(3,.v y22 (.own 9 .sh)),(4,.v y2 .sh)] [(.brk 0,[(3,.v y22 (.own 9 .sh))])] (.seq (.seq (.reg [] []) (.cond .nil .nil)) (.seq (.block (.reg [] [])) (.reg [] [])))))) (.seq (.reg [] []) .nil))))
theorem ev72 (xs:Vals (ptys sg72.ps)):evF (P:=Tryz.prog) tab [] sg72 Tryz.f72.results.toList (code Tryz.f72) plan72 xs=d72 xs.1:=by kernel_rfl
theorem sim72:Sim Tryz.prog 72 sg72 d72:=sim_ev mixd tabOK Tryz.func72 (code_of rfl) Tryz.call72 (Nat.le_of_ble_eq_true (by kernel_rfl)) (by kernel_rfl) plan72 _ fun xs y h=>(ev72 xs).trans h
noncomputable def E72:FnE Tryz.prog:=⟨72,sg72,d72,sim72⟩
noncomputable def d24 (x:Int) (n:Int):Option Int :=
 bif (!decide (n=0)) then
  bif (!decide (n=0)) then
   some (w (Int.tmod (w ((w (Int.tmod x n))+n)) n))
  else none
 else none
def sg24:Sig:=⟨[(y2,.sh),(y2,.sh)],[(y2,.sh)]⟩
def plan24:Plan:=(.seq (.reg [] []) (.seq (.reg [] []) .nil))
theorem ev24 (xs:Vals (ptys sg24.ps)):evF (P:=Tryz.prog) tab [] sg24 Tryz.f24.results.toList (code Tryz.f24) plan24 xs=d24 xs.1 xs.2.1:=by kernel_rfl
theorem sim24:Sim Tryz.prog 24 sg24 d24:=sim_ev mixd tabOK Tryz.func24 (code_of rfl) Tryz.call24 (Nat.le_of_ble_eq_true (by kernel_rfl)) (by kernel_rfl) plan24 _ fun xs y h=>(ev24 xs).trans h
noncomputable def E24:FnE Tryz.prog:=⟨24,sg24,d24,sim24⟩
noncomputable def d25 (method:Int) (n:Int) (seats:Int) (digits:Int) (ties:Int):Option (List Int × (List (List Int) × (Int × (Int × (Int × (Int × (Int × (Int × Int)))))))) :=
 (d72 n).bind fun r =>
 (d24 method 3).bind fun r_1 =>
 (d24 seats 5).bind fun r_2 =>
 (d24 ties 3).bind fun r_3 =>
 letJ (fun ((t10,c):(List Int × (List (List Int) × (Int × (Int × (Int × (Int × (Int × (Int × Int)))))))) × (List Int × (List (List Int) × (Int × (Int × (Int × (Int × (Int × (Int × Int))))))))) =>
   letJ (fun ((t10_1,c_1):(List Int × (List (List Int) × (Int × (Int × (Int × (Int × (Int × (Int × Int)))))))) × (List Int × (List (List Int) × (Int × (Int × (Int × (Int × (Int × (Int × Int))))))))) =>
     some c_1) fun j__1 =>
   bif (decide (c.2.2.1=1)) then
    j__1 (t10,(c.1,c.2.1,c.2.2.1,1,c.2.2.2.2))
   else
    j__1 (t10,c)) fun j_ =>
 bif (decide ((w (1+r_1))=2)) then
  (d24 digits 6).bind fun r_4 =>
  j_ (([],[],0,0,0,0,0,0,0),([99],r,(w (1+r_1)),(w (1+r_2)),0,(w (1+r_4)),(w (1+r_3)),0,0))
 else
  j_ (([],[],0,0,0,0,0,0,0),([99],r,(w (1+r_1)),(w (1+r_2)),0,0,(w (1+r_3)),0,0))
def sg25:Sig:=⟨[(y2,.sh),(y2,.sh),(y2,.sh),(y2,.sh),(y2,.sh)],[(y23,.sh)]⟩
def plan25:Plan:=(.seq (.reg [] []) (.seq (.reg [] [{},{},{},{},{},{},{},{},{},{},{},{ frz:=[(13,[])] }]) (.join (.seq (.reg [] []) (.cond (.reg [] []) .nil)) [(10,.v (.ptr y23) (.own 0 .sh)),(11,.v (.ptr y23) (.own 0 (.pr .sh (.pr .sh (.pr .sh (.pr .sh (.pr .sh (.pr .sh (.pr .sh .sh)))))))))] (.join (.seq (.reg [] []) (.cond (.reg [] []) .nil)) [(10,.v (.ptr y23) (.own 0 .sh)),(11,.v (.ptr y23) (.own 0 (.pr .sh (.pr .sh (.pr .sh (.pr .sh (.pr .sh (.pr .sh (.pr .sh .sh)))))))))] (.seq (.reg [] []) .nil)))))
theorem ev25 (xs:Vals (ptys sg25.ps)):evF (P:=Tryz.prog) tab [.fn E72,.fn E24] sg25 Tryz.f25.results.toList (code Tryz.f25) plan25 xs=d25 xs.1 xs.2.1 xs.2.2.1 xs.2.2.2.1 xs.2.2.2.2.1:=by kernel_rfl
theorem sim25:Sim Tryz.prog 25 sg25 d25:=sim_ev mixd tabOK Tryz.func25 (code_of rfl) Tryz.call25 (Nat.le_of_ble_eq_true (by kernel_rfl)) (by kernel_rfl) plan25 _ fun xs y h=>(ev25 xs).trans h
noncomputable def E25:FnE Tryz.prog:=⟨25,sg25,d25,sim25⟩
noncomputable def d165 (n:Int) (prefs:List Int):Option Bool :=
 (whileO (β:=Unit ⊕ Bool) (fun ((n_1,seen,t8,t9,t10):Int × (List Bool) × (List Int) × Int × Int) =>
   bif (decide (t10 < t9)) then
    bif (decide (0≤t10) && decide (t10 < (t8.length:Int))) then
     letJ (fun ((n_2,seen_1,p,t8_1,t9_1,t10_1,t25):Int × (List Bool) × Int × (List Int) × Int × Int × Bool) =>
       bif t25 then
        some (Sum.inr (Sum.inr false))
       else
        bif (decide (0≤p) && decide (p < 7)) then
         some (Sum.inl (n_2,(List.set seen_1 (Int.toNat p) true),t8_1,t9_1,(w (t10_1+1))))
        else none) fun j_ =>
     bif !(decide ((List.getD t8 (Int.toNat t10) 0) < 0)) then
      bif !(decide (n_1≤(List.getD t8 (Int.toNat t10) 0))) then
       bif (decide (0≤(List.getD t8 (Int.toNat t10) 0)) && decide ((List.getD t8 (Int.toNat t10) 0) < 7)) then
        j_ (n_1,seen,(List.getD t8 (Int.toNat t10) 0),t8,t9,t10,(List.getD seen (Int.toNat (List.getD t8 (Int.toNat t10) 0)) false))
       else none
      else
       j_ (n_1,seen,(List.getD t8 (Int.toNat t10) 0),t8,t9,t10,true)
     else
      j_ (n_1,seen,(List.getD t8 (Int.toNat t10) 0),t8,t9,t10,true)
    else none
   else
    some (Sum.inr (Sum.inl ()))) (n,[false,false,false,false,false,false,false],prefs,(prefs.length:Int),0)).bind fun
 | Sum.inl _ =>
  some true
 | Sum.inr t4 =>
  some t4
def sg165:Sig:=⟨[(y2,.sh),(y26,.bw)],[(y4,.sh)]⟩
def plan165:Plan:=(.seq (.reg [] []) (.seq (.reg [] []) (.seq (.seq (.reg [] []) (.block (.loop [(0,.v y2 .sh),(5,.v (.ptr y200) (.own 0 .sh)),(8,.v y26 .bw),(9,.v y2 .sh),(10,.v y2 .sh)] [(.brk 0,[]),(.ret,[(4,.v y4 .sh)])] (.seq (.reg [] []) (.seq (.cond .nil .nil) (.seq (.block (.seq (.reg [] []) (.seq (.join (.reg [] []) [(0,.v y2 .sh),(5,.v (.ptr y200) (.own 0 .sh)),(7,.v y2 .sh),(8,.v y26 .bw),(9,.v y2 .sh),(10,.v y2 .sh),(25,.v y4 .sh)] (.cond (.seq (.reg [] []) .nil) .nil)) (.reg [] [])))) (.reg [] []))))))) (.seq (.reg [] []) .nil))))
theorem ev165 (xs:Vals (ptys sg165.ps)):evF (P:=Tryz.prog) tab [] sg165 Tryz.f165.results.toList (code Tryz.f165) plan165 xs=d165 xs.1 xs.2.1:=by kernel_rfl
theorem sim165:Sim Tryz.prog 165 sg165 d165:=sim_ev mixd tabOK Tryz.func165 (code_of rfl) Tryz.call165 (Nat.le_of_ble_eq_true (by kernel_rfl)) (by kernel_rfl) plan165 _ fun xs y h=>(ev165 xs).trans h
noncomputable def E165:FnE Tryz.prog:=⟨165,sg165,d165,sim165⟩
noncomputable def d215 (x:Int):Option Bool :=
 some (!(decide (x=x)))
def sg215:Sig:=⟨[(y2,.sh)],[(y4,.sh)]⟩
def plan215:Plan:=(.seq (.reg [] []) (.seq (.reg [] []) .nil))
theorem ev215 (xs:Vals (ptys sg215.ps)):evF (P:=Tryz.prog) tab [] sg215 Tryz.f215.results.toList (code Tryz.f215) plan215 xs=d215 xs.1:=by kernel_rfl
theorem sim215:Sim Tryz.prog 215 sg215 d215:=sim_ev mixd tabOK Tryz.func215 (code_of rfl) Tryz.call215 (Nat.le_of_ble_eq_true (by kernel_rfl)) (by kernel_rfl) plan215 _ fun xs y h=>(ev215 xs).trans h
noncomputable def E215:FnE Tryz.prog:=⟨215,sg215,d215,sim215⟩
noncomputable def d198 (x:Int) (y:Int):Option Int :=
 (d215 x).bind fun r =>
 (d215 y).bind fun r_1 =>
 bif r then
  bif r_1 then
   some 0
  else
   some (-1)
 else
  bif r_1 then
   some 1
  else
   bif (decide (x < y)) then
    some (-1)
   else
    bif (decide (y < x)) then
     some 1
    else
     some 0
def sg198:Sig:=⟨[(y2,.sh),(y2,.sh)],[(y2,.sh)]⟩
def plan198:Plan:=(.seq (.reg [] []) (.seq (.reg [] []) (.seq (.reg [] []) (.seq (.seq (.reg [] []) (.cond (.seq (.seq (.reg [] []) (.cond (.seq (.reg [] []) .nil) .nil)) (.seq (.reg [] []) .nil)) .nil)) (.seq (.seq (.reg [] []) (.cond (.seq (.reg [] []) .nil) .nil)) (.seq (.seq (.reg [] []) (.cond (.seq (.reg [] []) .nil) .nil)) (.seq (.seq (.reg [] []) (.cond (.seq (.reg [] []) .nil) .nil)) (.seq (.reg [] []) .nil))))))))
theorem ev198 (xs:Vals (ptys sg198.ps)):evF (P:=Tryz.prog) tab [.fn E215] sg198 Tryz.f198.results.toList (code Tryz.f198) plan198 xs=d198 xs.1 xs.2.1:=by kernel_rfl
theorem sim198:Sim Tryz.prog 198 sg198 d198:=sim_ev mixd tabOK Tryz.func198 (code_of rfl) Tryz.call198 (Nat.le_of_ble_eq_true (by kernel_rfl)) (by kernel_rfl) plan198 _ fun xs y h=>(ev198 xs).trans h
noncomputable def E198:FnE Tryz.prog:=⟨198,sg198,d198,sim198⟩
noncomputable def d166 (s1:List Int) (s2:List Int):Option Int :=
 (whileO (β:=((List Int) × (List Int)) ⊕ Int) (fun ((s1_1,s2_1,t9,t10,t11):(List Int) × (List Int) × (List Int) × Int × Int) =>
   bif (decide (t11 < t10)) then
    bif (decide (0≤t11) && decide (t11 < (t9.length:Int))) then
     bif (decide ((s2_1.length:Int)≤t11)) then
      some (Sum.inr (Sum.inr 1))
     else
      bif (decide (0≤t11) && decide (t11 < (s2_1.length:Int))) then
       (d198 (List.getD t9 (Int.toNat t11) 0) (List.getD s2_1 (Int.toNat t11) 0)).bind fun r =>
       bif !(decide (r=0)) then
        some (Sum.inr (Sum.inr r))
       else
        some (Sum.inl (s1_1,s2_1,t9,t10,(w (t11+1))))
      else none
    else none
   else
    some (Sum.inr (Sum.inl (s1_1,s2_1)))) (s1,s2,s1,(s1.length:Int),0)).bind fun
 | Sum.inl (s1_2,s2_2) =>
  bif (decide ((s1_2.length:Int) < (s2_2.length:Int))) then
   some (-1)
  else
   some 0
 | Sum.inr t4 =>
  some t4
def sg166:Sig:=⟨[(y26,.bw),(y26,.bw)],[(y2,.sh)]⟩
def plan166:Plan:=(.seq (.reg [] []) (.seq (.seq (.reg [] []) (.block (.loop [(0,.v y26 .bw),(1,.v y26 .bw),(9,.v y26 .bw),(10,.v y2 .sh),(11,.v y2 .sh)] [(.brk 0,[(0,.v y26 .bw),(1,.v y26 .bw)]),(.ret,[(4,.v y2 .sh)])] (.seq (.reg [] []) (.seq (.cond .nil .nil) (.seq (.block (.seq (.reg [] []) (.seq (.seq (.reg [] []) (.cond (.seq (.reg [] []) .nil) .nil)) (.seq (.reg [] []) (.seq (.reg [] []) (.seq (.reg [] []) (.cond (.seq (.reg [] []) .nil) .nil))))))) (.reg [] []))))))) (.seq (.seq (.reg [] []) (.cond (.seq (.reg [] []) .nil) .nil)) (.seq (.reg [] []) .nil))))
theorem ev166 (xs:Vals (ptys sg166.ps)):evF (P:=Tryz.prog) tab [.fn E198] sg166 Tryz.f166.results.toList (code Tryz.f166) plan166 xs=d166 xs.1 xs.2.1:=by kernel_rfl
theorem sim166:Sim Tryz.prog 166 sg166 d166:=sim_ev mixd tabOK Tryz.func166 (code_of rfl) Tryz.call166 (Nat.le_of_ble_eq_true (by kernel_rfl)) (by kernel_rfl) plan166 _ fun xs y h=>(ev166 xs).trans h
noncomputable def E166:FnE Tryz.prog:=⟨166,sg166,d166,sim166⟩
noncomputable def d124 (n:Int) (gs:List (List Int × Int)):Option Bool :=
 (whileO (β:=Unit ⊕ Bool) (fun ((n_1,gs_1,total,t8,t9,t10):Int × (List (List Int × Int)) × Int × (List (List Int × Int)) × Int × Int) =>
   bif (decide (t10 < t9)) then
    bif (decide (0≤t10) && decide (t10 < (t8.length:Int))) then
     letJ (fun ((n_2,gs_2,total_1,i,g,t8_1,t9_1,t10_1,t31):Int × (List (List Int × Int)) × Int × Int × (List Int × Int) × (List (List Int × Int)) × Int × Int × Bool) =>
       bif t31 then
        some (Sum.inr (Sum.inr false))
       else
        letJ (fun ((n_3,gs_3,total_2,g_1,t8_2,t9_2,t10_2,t45):Int × (List (List Int × Int)) × Int × (List Int × Int) × (List (List Int × Int)) × Int × Int × Bool) =>
          bif t45 then
           some (Sum.inr (Sum.inr false))
          else
           some (Sum.inl (n_3,gs_3,(w (total_2+g_1.2)),t8_2,t9_2,(w (t10_2+1))))) fun j__1 =>
        bif (decide (0 < i)) then
         bif (decide (0≤(w (i - 1))) && decide ((w (i - 1)) < (gs_2.length:Int))) then
          (d166 ((List.getD gs_2 (Int.toNat (w (i - 1))) ([],0)).1) g.1).bind fun r_1 =>
          j__1 (n_2,gs_2,total_1,g,t8_1,t9_1,t10_1,(decide (0≤r_1)))
         else none
        else
         j__1 (n_2,gs_2,total_1,g,t8_1,t9_1,t10_1,false)) fun j_ =>
     bif !(decide ((List.getD t8 (Int.toNat t10) ([],0)).2 < 1)) then
      bif !(decide ((w (100000 - total)) < (List.getD t8 (Int.toNat t10) ([],0)).2)) then
       (d165 n_1 ((List.getD t8 (Int.toNat t10) ([],0)).1)).bind fun r =>
       j_ (n_1,gs_1,total,t10,(List.getD t8 (Int.toNat t10) ([],0)),t8,t9,t10,!r)
      else
       j_ (n_1,gs_1,total,t10,(List.getD t8 (Int.toNat t10) ([],0)),t8,t9,t10,true)
     else
      j_ (n_1,gs_1,total,t10,(List.getD t8 (Int.toNat t10) ([],0)),t8,t9,t10,true)
    else none
   else
    some (Sum.inr (Sum.inl ()))) (n,gs,0,gs,(gs.length:Int),0)).bind fun
 | Sum.inl _ =>
  some true
 | Sum.inr t4 =>
  some t4
def sg124:Sig:=⟨[(y2,.sh),(y25,.bw)],[(y4,.sh)]⟩
def plan124:Plan:=(.seq (.reg [] []) (.seq (.reg [] []) (.seq (.seq (.reg [] []) (.block (.loop [(0,.v y2 .sh),(1,.v y25 .bw),(5,.v y2 .sh),(8,.v y25 .bw),(9,.v y2 .sh),(10,.v y2 .sh)] [(.brk 0,[]),(.ret,[(4,.v y4 .sh)])] (.seq (.reg [] []) (.seq (.cond .nil .nil) (.seq (.block (.seq (.reg [] []) (.seq (.join (.reg [] []) [(0,.v y2 .sh),(1,.v y25 .bw),(5,.v y2 .sh),(6,.v y2 .sh),(7,.v (.ptr y92) (.own 0 .bw)),(8,.v y25 .bw),(9,.v y2 .sh),(10,.v y2 .sh),(31,.v y4 .sh)] (.cond (.seq (.reg [] []) .nil) .nil)) (.seq (.join (.reg [] []) [(0,.v y2 .sh),(1,.v y25 .bw),(5,.v y2 .sh),(7,.v (.ptr y92) (.own 0 .bw)),(8,.v y25 .bw),(9,.v y2 .sh),(10,.v y2 .sh),(45,.v y4 .sh)] (.cond (.seq (.reg [] []) .nil) .nil)) (.reg [] []))))) (.reg [] []))))))) (.seq (.reg [] []) .nil))))
theorem ev124 (xs:Vals (ptys sg124.ps)):evF (P:=Tryz.prog) tab [.fn E165,.fn E166] sg124 Tryz.f124.results.toList (code Tryz.f124) plan124 xs=d124 xs.1 xs.2.1:=by kernel_rfl
theorem sim124:Sim Tryz.prog 124 sg124 d124:=sim_ev mixd tabOK Tryz.func124 (code_of rfl) Tryz.call124 (Nat.le_of_ble_eq_true (by kernel_rfl)) (by kernel_rfl) plan124 _ fun xs y h=>(ev124 xs).trans h
noncomputable def E124:FnE Tryz.prog:=⟨124,sg124,d124,sim124⟩
noncomputable def d125 (l:List Int) (n:Int):Option Bool :=
 bif (decide ((l.length:Int)=n)) then
  (d165 n l).bind fun r =>
  some r
 else
  some false
def sg125:Sig:=⟨[(y26,.bw),(y2,.sh)],[(y4,.sh)]⟩
def plan125:Plan:=(.seq (.reg [] []) (.seq (.reg [] []) .nil))
theorem ev125 (xs:Vals (ptys sg125.ps)):evF (P:=Tryz.prog) tab [.fn E165] sg125 Tryz.f125.results.toList (code Tryz.f125) plan125 xs=d125 xs.1 xs.2.1:=by kernel_rfl
theorem sim125:Sim Tryz.prog 125 sg125 d125:=sim_ev mixd tabOK Tryz.func125 (code_of rfl) Tryz.call125 (Nat.le_of_ble_eq_true (by kernel_rfl)) (by kernel_rfl) plan125 _ fun xs y h=>(ev125 xs).trans h
noncomputable def E125:FnE Tryz.prog:=⟨125,sg125,d125,sim125⟩
noncomputable def d66 (p0:Int) (p1:(List Int × (List (List Int) × (Int × (Int × (Int × (Int × (Int × (Int × Int))))))))) (p2:List (List Int × Int)) (p3:List Int):Option Int :=
 letJ (fun ((t0,t2,t3,t5,t9,t10):Int × (List (List Int × Int)) × (List Int) × (List Int × (List (List Int) × (Int × (Int × (Int × (Int × (Int × (Int × Int)))))))) × Int × Bool) =>
   letJ (fun ((t0_1,t2_1,t3_1,t5_1,t9_1,t10_1,t27):Int × (List (List Int × Int)) × (List Int) × (List Int × (List (List Int) × (Int × (Int × (Int × (Int × (Int × (Int × Int)))))))) × Int × Bool × Bool) =>
     bif t27 then
      some 5
     else
      letJ (fun ((t2_5,t3_5,t9_5,t40_3):(List (List Int × Int)) × (List Int) × Int × Bool) =>
        bif t40_3 then
         some 4
        else
         (d124 t9_5 t2_5).bind fun r =>
         bif !r then
          some 8
         else
          (d125 t3_5 t9_5).bind fun r_1 =>
          bif !r_1 then
           some 13
          else
           some 0) fun j__5 =>
      letJ (fun ((t0_2,t2_2,t3_2,t5_2,t9_2,t10_2,t40):Int × (List (List Int × Int)) × (List Int) × (List Int × (List (List Int) × (Int × (Int × (Int × (Int × (Int × (Int × Int)))))))) × Int × Bool × Bool) =>
        bif t40 then
         j__5 (t2_2,t3_2,t9_2,t40)
        else
         letJ (fun ((t0_3,t2_3,t3_3,t5_3,t9_3,t10_3,t40_1):Int × (List (List Int × Int)) × (List Int) × (List Int × (List (List Int) × (Int × (Int × (Int × (Int × (Int × (Int × Int)))))))) × Int × Bool × Bool) =>
           bif t40_1 then
            j__5 (t2_3,t3_3,t9_3,t40_1)
           else
            letJ (fun ((t2_4,t3_4,t5_4,t9_4,t10_4,t40_2):(List (List Int × Int)) × (List Int) × (List Int × (List (List Int) × (Int × (Int × (Int × (Int × (Int × (Int × Int)))))))) × Int × Bool × Bool) =>
              bif t40_2 then
               j__5 (t2_4,t3_4,t9_4,t40_2)
              else
               bif !t10_4 then
                j__5 (t2_4,t3_4,t9_4,!t10_4)
               else
                bif !(decide (t5_4.2.2.2.2.2.2.1 < 1)) then
                 j__5 (t2_4,t3_4,t9_4,(decide (3 < t5_4.2.2.2.2.2.2.1)))
                else
                 j__5 (t2_4,t3_4,t9_4,true)) fun j__4 =>
            bif (decide (t0_3=1)) then
             j__4 (t2_3,t3_3,t5_3,t9_3,t10_3,!(decide (t5_3.2.2.2.1=1)))
            else
             j__4 (t2_3,t3_3,t5_3,t9_3,t10_3,false)) fun j__3 =>
         bif !(decide (t5_2.2.2.2.1 < 1)) then
          j__3 (t0_2,t2_2,t3_2,t5_2,t9_2,t10_2,(decide (5 < t5_2.2.2.2.1)))
         else
          j__3 (t0_2,t2_2,t3_2,t5_2,t9_2,t10_2,true)) fun j__2 =>
      bif !(decide (t9_1 < 1)) then
       j__2 (t0_1,t2_1,t3_1,t5_1,t9_1,t10_1,(decide (7 < t9_1)))
      else
       j__2 (t0_1,t2_1,t3_1,t5_1,t9_1,t10_1,true)) fun j__1 =>
   bif !(decide (t0 < 1)) then
    bif !(decide (3 < t0)) then
     j__1 (t0,t2,t3,t5,t9,t10,!(decide (t5.2.2.1=t0)))
    else
     j__1 (t0,t2,t3,t5,t9,t10,true)
   else
    j__1 (t0,t2,t3,t5,t9,t10,true)) fun j_ =>
 bif (decide (p0=2)) then
  bif (decide (1≤p1.2.2.2.2.2.1)) then
   j_ (p0,p2,p3,p1,(p1.2.1.length:Int),(decide (p1.2.2.2.2.2.1≤6)))
  else
   j_ (p0,p2,p3,p1,(p1.2.1.length:Int),false)
 else
  j_ (p0,p2,p3,p1,(p1.2.1.length:Int),(decide (p1.2.2.2.2.2.1=0)))
def sg66:Sig:=⟨[(y2,.sh),(y23,.bw),(y25,.bw),(y26,.bw)],[(y2,.sh)]⟩
def plan66:Plan:=(.seq (.reg [] []) (.seq (.reg [] []) (.seq (.reg [] []) (.join (.seq (.reg [] []) (.cond (.reg [] []) .nil)) [(0,.v y2 .sh),(2,.v y25 .bw),(3,.v y26 .bw),(5,.v (.ptr y23) (.own 0 .bw)),(9,.v y2 .sh),(10,.v y4 .sh)] (.seq (.block (.join (.reg [] []) [(0,.v y2 .sh),(2,.v y25 .bw),(3,.v y26 .bw),(5,.v (.ptr y23) (.own 0 .bw)),(9,.v y2 .sh),(10,.v y4 .sh),(27,.v y4 .sh)] (.cond (.seq (.reg [] []) .nil) (.join (.join (.reg [] []) [(0,.v y2 .sh),(2,.v y25 .bw),(3,.v y26 .bw),(5,.v (.ptr y23) (.own 0 .bw)),(9,.v y2 .sh),(10,.v y4 .sh),(40,.v y4 .sh)] (.cond .nil (.join (.reg [] []) [(0,.v y2 .sh),(2,.v y25 .bw),(3,.v y26 .bw),(5,.v (.ptr y23) (.own 0 .bw)),(9,.v y2 .sh),(10,.v y4 .sh),(40,.v y4 .sh)] (.cond .nil (.join (.reg [] []) [(2,.v y25 .bw),(3,.v y26 .bw),(5,.v (.ptr y23) (.own 0 .bw)),(9,.v y2 .sh),(10,.v y4 .sh),(40,.v y4 .sh)] (.cond .nil (.seq (.reg [] []) (.cond .nil (.reg [] []))))))))) [(2,.v y25 .bw),(3,.v y26 .bw),(9,.v y2 .sh),(40,.v y4 .sh)] (.cond (.seq (.reg [] []) .nil) (.seq (.reg [] []) (.cond (.seq (.reg [] []) .nil) (.seq (.reg [] []) (.cond (.seq (.reg [] []) .nil) .nil))))))))) (.seq (.reg [] []) .nil))))))
theorem ev66 (xs:Vals (ptys sg66.ps)):evF (P:=Tryz.prog) tab [.fn E124,.fn E125] sg66 Tryz.f66.results.toList (code Tryz.f66) plan66 xs=d66 xs.1 xs.2.1 xs.2.2.1 xs.2.2.2.1:=by kernel_rfl
theorem sim66:Sim Tryz.prog 66 sg66 d66:=sim_ev mixd tabOK Tryz.func66 (code_of rfl) Tryz.call66 (Nat.le_of_ble_eq_true (by kernel_rfl)) (by kernel_rfl) plan66 _ fun xs y h=>(ev66 xs).trans h
noncomputable def E66:FnE Tryz.prog:=⟨66,sg66,d66,sim66⟩
noncomputable def d100 (gs:List (List Int × Int)):Option Bool :=
 (d124 7 gs).bind fun r =>
 some r
def sg100:Sig:=⟨[(y25,.bw)],[(y4,.sh)]⟩
def plan100:Plan:=(.seq (.reg [] []) (.seq (.reg [] []) .nil))
theorem ev100 (xs:Vals (ptys sg100.ps)):evF (P:=Tryz.prog) tab [.fn E124] sg100 Tryz.f100.results.toList (code Tryz.f100) plan100 xs=d100 xs.1:=by kernel_rfl
theorem sim100:Sim Tryz.prog 100 sg100 d100:=sim_ev mixd tabOK Tryz.func100 (code_of rfl) Tryz.call100 (Nat.le_of_ble_eq_true (by kernel_rfl)) (by kernel_rfl) plan100 _ fun xs y h=>(ev100 xs).trans h
noncomputable def E100:FnE Tryz.prog:=⟨100,sg100,d100,sim100⟩
noncomputable def d104 (l:List (List Int × Int)) (number:((List Int × Int)→Option Int)):Option Int :=
 (whileO (β:=Int) (fun ((number_1,n,t8,t9,t10):((List Int × Int)→Option Int) × Int × (List (List Int × Int)) × Int × Int) =>
   bif (decide (t10 < t9)) then
    bif (decide (0≤t10) && decide (t10 < (t8.length:Int))) then
     (number_1 (List.getD t8 (Int.toNat t10) ([],0))).bind fun r =>
     some (Sum.inl (number_1,(w (n+r)),t8,t9,(w (t10+1))))
    else none
   else
    some (Sum.inr n)) (number,0,l,(l.length:Int),0)).bind fun (n_1:Int) =>
 some n_1
def sg104:Sig:=⟨[(y25,.bw),(y130,.bw)],[(y2,.sh)]⟩
def plan104:Plan:=(.seq (.reg [] []) (.seq (.reg [] []) (.seq (.seq (.reg [] []) (.block (.loop [(1,.v y130 .bw),(5,.v y2 .sh),(8,.v y25 .bw),(9,.v y2 .sh),(10,.v y2 .sh)] [(.brk 0,[(5,.v y2 .sh)])] (.seq (.reg [] []) (.seq (.cond .nil .nil) (.seq (.block (.seq (.reg [] []) (.reg [] []))) (.reg [] []))))))) (.seq (.reg [] []) .nil))))
theorem ev104 (xs:Vals (ptys sg104.ps)):evF (P:=Tryz.prog) tab [] sg104 Tryz.f104.results.toList (code Tryz.f104) plan104 xs=d104 xs.1 xs.2.1:=by kernel_rfl
theorem sim104:Sim Tryz.prog 104 sg104 d104:=sim_ev mixd tabOK Tryz.func104 (code_of rfl) Tryz.call104 (Nat.le_of_ble_eq_true (by kernel_rfl)) (by kernel_rfl) plan104 _ fun xs y h=>(ev104 xs).trans h
noncomputable def E104:FnE Tryz.prog:=⟨104,sg104,d104,sim104⟩
noncomputable def d126 (g:(List Int × Int)):Option Int :=
 some g.2
def sg126:Sig:=⟨[(y92,.bw)],[(y2,.sh)]⟩
def plan126:Plan:=(.seq (.reg [] []) (.seq (.reg [] []) .nil))
theorem ev126 (xs:Vals (ptys sg126.ps)):evF (P:=Tryz.prog) tab [] sg126 Tryz.f126.results.toList (code Tryz.f126) plan126 xs=d126 xs.1:=by kernel_rfl
theorem sim126:Sim Tryz.prog 126 sg126 d126:=sim_ev mixd tabOK Tryz.func126 (code_of rfl) Tryz.call126 (Nat.le_of_ble_eq_true (by kernel_rfl)) (by kernel_rfl) plan126 _ fun xs y h=>(ev126 xs).trans h
noncomputable def E126:FnE Tryz.prog:=⟨126,sg126,d126,sim126⟩
noncomputable def d67 (gs:List (List Int × Int)):Option Int :=
 (d100 gs).bind fun r =>
 bif !r then
  some 0
 else
  (d104 gs (fun a=>d126 a)).bind fun r_1 =>
  some r_1
def sg67:Sig:=⟨[(y25,.bw)],[(y2,.sh)]⟩
def plan67:Plan:=(.seq (.reg [] []) (.seq (.seq (.reg [] []) (.cond (.seq (.reg [] []) .nil) .nil)) (.seq (.reg [] []) .nil)))
theorem ev67 (xs:Vals (ptys sg67.ps)):evF (P:=Tryz.prog) tab [.fn E100,.fn E104,.fn E126] sg67 Tryz.f67.results.toList (code Tryz.f67) plan67 xs=d67 xs.1:=by kernel_rfl
theorem sim67:Sim Tryz.prog 67 sg67 d67:=sim_ev mixd tabOK Tryz.func67 (code_of rfl) Tryz.call67 (Nat.le_of_ble_eq_true (by kernel_rfl)) (by kernel_rfl) plan67 _ fun xs y h=>(ev67 xs).trans h
noncomputable def E67:FnE Tryz.prog:=⟨67,sg67,d67,sim67⟩
noncomputable def d105 (g:(List Int × Int)):Option Int :=
 bif (decide ((g.1.length:Int)=0)) then
  some 0
 else
  some g.2
def sg105:Sig:=⟨[(y92,.bw)],[(y2,.sh)]⟩
def plan105:Plan:=(.seq (.reg [] []) (.seq (.seq (.reg [] []) (.cond (.seq (.reg [] []) .nil) .nil)) (.seq (.reg [] []) .nil)))
theorem ev105 (xs:Vals (ptys sg105.ps)):evF (P:=Tryz.prog) tab [] sg105 Tryz.f105.results.toList (code Tryz.f105) plan105 xs=d105 xs.1:=by kernel_rfl
theorem sim105:Sim Tryz.prog 105 sg105 d105:=sim_ev mixd tabOK Tryz.func105 (code_of rfl) Tryz.call105 (Nat.le_of_ble_eq_true (by kernel_rfl)) (by kernel_rfl) plan105 _ fun xs y h=>(ev105 xs).trans h
noncomputable def E105:FnE Tryz.prog:=⟨105,sg105,d105,sim105⟩
noncomputable def d52 (gs:List (List Int × Int)):Option Int :=
 (d100 gs).bind fun r =>
 bif !r then
  some 0
 else
  (d104 gs (fun a=>d105 a)).bind fun r_1 =>
  some r_1
def sg52:Sig:=⟨[(y25,.bw)],[(y2,.sh)]⟩
def plan52:Plan:=(.seq (.reg [] []) (.seq (.seq (.reg [] []) (.cond (.seq (.reg [] []) .nil) .nil)) (.seq (.reg [] []) .nil)))
theorem ev52 (xs:Vals (ptys sg52.ps)):evF (P:=Tryz.prog) tab [.fn E100,.fn E104,.fn E105] sg52 Tryz.f52.results.toList (code Tryz.f52) plan52 xs=d52 xs.1:=by kernel_rfl
theorem sim52:Sim Tryz.prog 52 sg52 d52:=sim_ev mixd tabOK Tryz.func52 (code_of rfl) Tryz.call52 (Nat.le_of_ble_eq_true (by kernel_rfl)) (by kernel_rfl) plan52 _ fun xs y h=>(ev52 xs).trans h
noncomputable def E52:FnE Tryz.prog:=⟨52,sg52,d52,sim52⟩
noncomputable def d30 (ballots:Int) (seats:Int):Option Int :=
 letJ (fun ((ballots_1,seats_1,t18):Int × Int × Bool) =>
   bif t18 then
    some 0
   else
    bif (!decide ((w (seats_1+1))=0)) then
     some (w ((w (Int.tdiv ballots_1 (w (seats_1+1))))+1))
    else none) fun j_ =>
 bif !(decide (ballots < 0)) then
  bif !(decide (100000 < ballots)) then
   bif !(decide (seats < 1)) then
    j_ (ballots,seats,(decide (5 < seats)))
   else
    j_ (ballots,seats,true)
  else
   j_ (ballots,seats,true)
 else
  j_ (ballots,seats,true)
def sg30:Sig:=⟨[(y2,.sh),(y2,.sh)],[(y2,.sh)]⟩
def plan30:Plan:=(.seq (.reg [] []) (.seq (.join (.reg [] []) [(0,.v y2 .sh),(1,.v y2 .sh),(18,.v y4 .sh)] (.cond (.seq (.reg [] []) .nil) .nil)) (.seq (.reg [] []) .nil)))
theorem ev30 (xs:Vals (ptys sg30.ps)):evF (P:=Tryz.prog) tab [] sg30 Tryz.f30.results.toList (code Tryz.f30) plan30 xs=d30 xs.1 xs.2.1:=by kernel_rfl
theorem sim30:Sim Tryz.prog 30 sg30 d30:=sim_ev mixd tabOK Tryz.func30 (code_of rfl) Tryz.call30 (Nat.le_of_ble_eq_true (by kernel_rfl)) (by kernel_rfl) plan30 _ fun xs y h=>(ev30 xs).trans h
noncomputable def E30:FnE Tryz.prog:=⟨30,sg30,d30,sim30⟩
noncomputable def d135 (k:((List Int × (List (List Int) × (Int × (Int × (Int × (Int × (Int × (Int × Int)))))))) × (List Int × (Int × (Int × (List (List Int × (Int × (Int × (Bool × (List Int × List Int))))) × (List Int × (List (Bool × (List Int × List Int)) × (Int × (List (List (Bool × (List Int × List Int))) × (Int × (Int × (Int × (Int × (List (List (Bool × (List Int × List Int)) × (List (Bool × (List Int × List Int)) × ((Bool × (List Int × List Int)) × ((Bool × (List Int × List Int)) × ((Bool × (List Int × List Int)) × (List Int × (List Int × List Int))))))) × List Int))))))))))))))) (standing:Int):Option (List Int) :=
 (whileO (β:=(List Int)) (fun ((standing_1,out,t11,t12,t13):Int × (List Int) × (List Int) × Int × Int) =>
   bif (decide (t13 < t12)) then
    letJ (fun ((standing_2,out_1,t11_1,t12_1,t13_1):Int × (List Int) × (List Int) × Int × Int) =>
      some (Sum.inl (standing_2,out_1,t11_1,t12_1,(w (t13_1+1))))) fun j_ =>
    bif (decide (0≤t13) && decide (t13 < (t11.length:Int))) then
     bif (decide ((List.getD t11 (Int.toNat t13) 0)=standing_1)) then
      bif (decide ((out.length:Int)+(([t13]:List Int).length:Int)≤LIM)) then
       j_ (standing_1,(out++[t13]),t11,t12,t13)
      else none
     else
      j_ (standing_1,out,t11,t12,t13)
    else none
   else
    some (Sum.inr out)) (standing,[],k.2.2.2.2.2.1,(k.2.2.2.2.2.1.length:Int),0)).bind fun (out_2:List Int) =>
 some out_2
def sg135:Sig:=⟨[(y94,.bw),(y2,.sh)],[(y26,(.own 3 .sh))]⟩
def plan135:Plan:=(.seq (.reg [] []) (.seq (.reg [] [{ fl:=2 }]) (.seq (.seq (.reg [] []) (.block (.loop [(1,.v y2 .sh),(5,.v y26 (.own 3 .sh)),(11,.v y26 .bw),(12,.v y2 .sh),(13,.v y2 .sh)] [(.brk 0,[(5,.v y26 (.own 3 .sh))])] (.seq (.reg [] []) (.seq (.cond .nil .nil) (.join (.block (.seq (.reg [] []) (.seq (.reg [] []) (.cond (.reg [] []) .nil)))) [(1,.v y2 .sh),(5,.v y26 (.own 3 .sh)),(11,.v y26 .bw),(12,.v y2 .sh),(13,.v y2 .sh)] (.reg [] []))))))) (.seq (.reg [] []) .nil))))
theorem ev135 (xs:Vals (ptys sg135.ps)):evF (P:=Tryz.prog) tab [] sg135 Tryz.f135.results.toList (code Tryz.f135) plan135 xs=d135 xs.1 xs.2.1:=by kernel_rfl
theorem sim135:Sim Tryz.prog 135 sg135 d135:=sim_ev mixd tabOK Tryz.func135 (code_of rfl) Tryz.call135 (Nat.le_of_ble_eq_true (by kernel_rfl)) (by kernel_rfl) plan135 _ fun xs y h=>(ev135 xs).trans h
noncomputable def E135:FnE Tryz.prog:=⟨135,sg135,d135,sim135⟩
noncomputable def d130 (p0:((List Int × (List (List Int) × (Int × (Int × (Int × (Int × (Int × (Int × Int)))))))) × (List Int × (Int × (Int × (List (List Int × (Int × (Int × (Bool × (List Int × List Int))))) × (List Int × (List (Bool × (List Int × List Int)) × (Int × (List (List (Bool × (List Int × List Int))) × (Int × (Int × (Int × (Int × (List (List (Bool × (List Int × List Int)) × (List (Bool × (List Int × List Int)) × ((Bool × (List Int × List Int)) × ((Bool × (List Int × List Int)) × ((Bool × (List Int × List Int)) × (List Int × (List Int × List Int))))))) × List Int))))))))))))))):Option (List (Bool × (List Int × List Int))) :=
 (whileO (β:=(((List Int × (List (List Int) × (Int × (Int × (Int × (Int × (Int × (Int × Int)))))))) × (List Int × (Int × (Int × (List (List Int × (Int × (Int × (Bool × (List Int × List Int))))) × (List Int × (List (Bool × (List Int × List Int)) × (Int × (List (List (Bool × (List Int × List Int))) × (Int × (Int × (Int × (Int × (List (List (Bool × (List Int × List Int)) × (List (Bool × (List Int × List Int)) × ((Bool × (List Int × List Int)) × ((Bool × (List Int × List Int)) × ((Bool × (List Int × List Int)) × (List Int × (List Int × List Int))))))) × List Int)))))))))))))) × (List (Bool × (List Int × List Int))))) (fun ((t0,t3,t13,t14):((List Int × (List (List Int) × (Int × (Int × (Int × (Int × (Int × (Int × Int)))))))) × (List Int × (Int × (Int × (List (List Int × (Int × (Int × (Bool × (List Int × List Int))))) × (List Int × (List (Bool × (List Int × List Int)) × (Int × (List (List (Bool × (List Int × List Int))) × (Int × (Int × (Int × (Int × (List (List (Bool × (List Int × List Int)) × (List (Bool × (List Int × List Int)) × ((Bool × (List Int × List Int)) × ((Bool × (List Int × List Int)) × ((Bool × (List Int × List Int)) × (List Int × (List Int × List Int))))))) × List Int)))))))))))))) × (List (Bool × (List Int × List Int))) × Int × Int) =>
   bif (decide (t14 < t13)) then
    (d68 0).bind fun r =>
    bif (decide ((t3.length:Int)+(([r]:List (Bool × (List Int × List Int))).length:Int)≤LIM)) then
     some (Sum.inl (t0,(t3++[r]),t13,(w (t14+1))))
    else none
   else
    some (Sum.inr (t0,t3))) (p0,[],(p0.2.2.2.2.2.1.length:Int),0)).bind fun ((t0_1,t3_1):((List Int × (List (List Int) × (Int × (Int × (Int × (Int × (Int × (Int × Int)))))))) × (List Int × (Int × (Int × (List (List Int × (Int × (Int × (Bool × (List Int × List Int))))) × (List Int × (List (Bool × (List Int × List Int)) × (Int × (List (List (Bool × (List Int × List Int))) × (Int × (Int × (Int × (Int × (List (List (Bool × (List Int × List Int)) × (List (Bool × (List Int × List Int)) × ((Bool × (List Int × List Int)) × ((Bool × (List Int × List Int)) × ((Bool × (List Int × List Int)) × (List Int × (List Int × List Int))))))) × List Int)))))))))))))) × (List (Bool × (List Int × List Int)))) =>
 (whileO (β:=(((List Int × (List (List Int) × (Int × (Int × (Int × (Int × (Int × (Int × Int)))))))) × (List Int × (Int × (Int × (List (List Int × (Int × (Int × (Bool × (List Int × List Int))))) × (List Int × (List (Bool × (List Int × List Int)) × (Int × (List (List (Bool × (List Int × List Int))) × (Int × (Int × (Int × (Int × (List (List (Bool × (List Int × List Int)) × (List (Bool × (List Int × List Int)) × ((Bool × (List Int × List Int)) × ((Bool × (List Int × List Int)) × ((Bool × (List Int × List Int)) × (List Int × (List Int × List Int))))))) × List Int)))))))))))))) × (List (Bool × (List Int × List Int))))) (fun ((t0_2,t3_2,t24,t25,t26):((List Int × (List (List Int) × (Int × (Int × (Int × (Int × (Int × (Int × Int)))))))) × (List Int × (Int × (Int × (List (List Int × (Int × (Int × (Bool × (List Int × List Int))))) × (List Int × (List (Bool × (List Int × List Int)) × (Int × (List (List (Bool × (List Int × List Int))) × (Int × (Int × (Int × (Int × (List (List (Bool × (List Int × List Int)) × (List (Bool × (List Int × List Int)) × ((Bool × (List Int × List Int)) × ((Bool × (List Int × List Int)) × ((Bool × (List Int × List Int)) × (List Int × (List Int × List Int))))))) × List Int)))))))))))))) × (List (Bool × (List Int × List Int))) × (List (List Int × (Int × (Int × (Bool × (List Int × List Int)))))) × Int × Int) =>
   bif (decide (t26 < t25)) then
    letJ (fun ((t0_3,t3_3,t24_1,t25_1,t26_1):((List Int × (List (List Int) × (Int × (Int × (Int × (Int × (Int × (Int × Int)))))))) × (List Int × (Int × (Int × (List (List Int × (Int × (Int × (Bool × (List Int × List Int))))) × (List Int × (List (Bool × (List Int × List Int)) × (Int × (List (List (Bool × (List Int × List Int))) × (Int × (Int × (Int × (Int × (List (List (Bool × (List Int × List Int)) × (List (Bool × (List Int × List Int)) × ((Bool × (List Int × List Int)) × ((Bool × (List Int × List Int)) × ((Bool × (List Int × List Int)) × (List Int × (List Int × List Int))))))) × List Int)))))))))))))) × (List (Bool × (List Int × List Int))) × (List (List Int × (Int × (Int × (Bool × (List Int × List Int)))))) × Int × Int) =>
      some (Sum.inl (t0_3,t3_3,t24_1,t25_1,(w (t26_1+1))))) fun j_ =>
    bif (decide (0≤t26) && decide (t26 < (t24.length:Int))) then
     bif (decide ((((List.getD t24 (Int.toNat t26) ([],0,0,false,[],[])).2).2).1 < (((List.getD t24 (Int.toNat t26) ([],0,0,false,[],[])).1).length:Int))) then
      bif (decide (0≤(((List.getD t24 (Int.toNat t26) ([],0,0,false,[],[])).2).2).1) && decide ((((List.getD t24 (Int.toNat t26) ([],0,0,false,[],[])).2).2).1 < (((List.getD t24 (Int.toNat t26) ([],0,0,false,[],[])).1).length:Int))) then
       bif (decide (0≤(List.getD ((List.getD t24 (Int.toNat t26) ([],0,0,false,[],[])).1) (Int.toNat ((((List.getD t24 (Int.toNat t26) ([],0,0,false,[],[])).2).2).1)) 0)) && decide ((List.getD ((List.getD t24 (Int.toNat t26) ([],0,0,false,[],[])).1) (Int.toNat ((((List.getD t24 (Int.toNat t26) ([],0,0,false,[],[])).2).2).1)) 0) < (t3_2.length:Int))) then
        (d68 (((List.getD t24 (Int.toNat t26) ([],0,0,false,[],[])).2).1)).bind fun r_1 =>
        (d172 ((((List.getD t24 (Int.toNat t26) ([],0,0,false,[],[])).2).2).2) r_1).bind fun r_2 =>
        (d138 (List.getD t3_2 (Int.toNat (List.getD ((List.getD t24 (Int.toNat t26) ([],0,0,false,[],[])).1) (Int.toNat ((((List.getD t24 (Int.toNat t26) ([],0,0,false,[],[])).2).2).1)) 0)) (false,[],[])) r_2).bind fun r_3 =>
        bif (decide (0≤(List.getD ((List.getD t24 (Int.toNat t26) ([],0,0,false,[],[])).1) (Int.toNat ((((List.getD t24 (Int.toNat t26) ([],0,0,false,[],[])).2).2).1)) 0)) && decide ((List.getD ((List.getD t24 (Int.toNat t26) ([],0,0,false,[],[])).1) (Int.toNat ((((List.getD t24 (Int.toNat t26) ([],0,0,false,[],[])).2).2).1)) 0) < (t3_2.length:Int))) then
         j_ (t0_2,(List.set t3_2 (Int.toNat (List.getD ((List.getD t24 (Int.toNat t26) ([],0,0,false,[],[])).1) (Int.toNat ((((List.getD t24 (Int.toNat t26) ([],0,0,false,[],[])).2).2).1)) 0)) r_3),t24,t25,t26)
        else none
       else none
      else none
     else
      j_ (t0_2,t3_2,t24,t25,t26)
    else none
   else
    some (Sum.inr (t0_2,t3_2))) (t0_1,t3_1,t0_1.2.2.2.2.1,(t0_1.2.2.2.2.1.length:Int),0)).bind fun ((t0_4,t3_4):((List Int × (List (List Int) × (Int × (Int × (Int × (Int × (Int × (Int × Int)))))))) × (List Int × (Int × (Int × (List (List Int × (Int × (Int × (Bool × (List Int × List Int))))) × (List Int × (List (Bool × (List Int × List Int)) × (Int × (List (List (Bool × (List Int × List Int))) × (Int × (Int × (Int × (Int × (List (List (Bool × (List Int × List Int)) × (List (Bool × (List Int × List Int)) × ((Bool × (List Int × List Int)) × ((Bool × (List Int × List Int)) × ((Bool × (List Int × List Int)) × (List Int × (List Int × List Int))))))) × List Int)))))))))))))) × (List (Bool × (List Int × List Int)))) =>
 (d135 t0_4 2).bind fun r_4 =>
 (whileO (β:=(List (Bool × (List Int × List Int)))) (fun ((t0_5,t3_5,t58,t59,t60):((List Int × (List (List Int) × (Int × (Int × (Int × (Int × (Int × (Int × Int)))))))) × (List Int × (Int × (Int × (List (List Int × (Int × (Int × (Bool × (List Int × List Int))))) × (List Int × (List (Bool × (List Int × List Int)) × (Int × (List (List (Bool × (List Int × List Int))) × (Int × (Int × (Int × (Int × (List (List (Bool × (List Int × List Int)) × (List (Bool × (List Int × List Int)) × ((Bool × (List Int × List Int)) × ((Bool × (List Int × List Int)) × ((Bool × (List Int × List Int)) × (List Int × (List Int × List Int))))))) × List Int)))))))))))))) × (List (Bool × (List Int × List Int))) × (List Int) × Int × Int) =>
   bif (decide (t60 < t59)) then
    bif (decide (0≤t60) && decide (t60 < (t58.length:Int))) then
     (d68 t0_5.2.2.2.1).bind fun r_5 =>
     bif (decide (0≤(List.getD t58 (Int.toNat t60) 0)) && decide ((List.getD t58 (Int.toNat t60) 0) < (t3_5.length:Int))) then
      some (Sum.inl (t0_5,(List.set t3_5 (Int.toNat (List.getD t58 (Int.toNat t60) 0)) r_5),t58,t59,(w (t60+1))))
     else none
    else none
   else
    some (Sum.inr t3_5)) (t0_4,t3_4,r_4,(r_4.length:Int),0)).bind fun (t3_6:List (Bool × (List Int × List Int))) =>
 some t3_6
def sg130:Sig:=⟨[(y94,.bw)],[(y53,(.own 57 .sh))]⟩
def plan130:Plan:=(.seq (.reg [] []) (.seq (.reg [] [{ fl:=2 }]) (.seq (.seq (.reg [] []) (.block (.loop [(0,.v y94 .bw),(3,.v y53 (.own 57 .sh)),(13,.v y2 .sh),(14,.v y2 .sh)] [(.brk 0,[(0,.v y94 .bw),(3,.v y53 (.own 57 .sh))])] (.seq (.reg [] []) (.seq (.cond .nil .nil) (.seq (.block (.reg [] [])) (.reg [] []))))))) (.seq (.seq (.reg [] []) (.block (.loop [(0,.v y94 .bw),(3,.v y53 (.own 57 .sh)),(24,.v y95 .bw),(25,.v y2 .sh),(26,.v y2 .sh)] [(.brk 2,[(0,.v y94 .bw),(3,.v y53 (.own 57 .sh))])] (.seq (.reg [] []) (.seq (.cond .nil .nil) (.join (.block (.seq (.reg [] []) (.seq (.reg [] []) (.cond (.seq (.reg [] []) (.reg [] [])) .nil)))) [(0,.v y94 .bw),(3,.v y53 (.own 57 .sh)),(24,.v y95 .bw),(25,.v y2 .sh),(26,.v y2 .sh)] (.reg [] []))))))) (.seq (.seq (.reg [] []) (.block (.loop [(0,.v y94 .bw),(3,.v y53 (.own 57 .sh)),(58,.v y26 (.own 3 .sh)),(59,.v y2 .sh),(60,.v y2 .sh)] [(.brk 4,[(3,.v y53 (.own 57 .sh))])] (.seq (.reg [] []) (.seq (.cond .nil .nil) (.seq (.block (.seq (.reg [] []) (.reg [] []))) (.reg [] []))))))) (.seq (.reg [] []) .nil))))))
theorem ev130 (xs:Vals (ptys sg130.ps)):evF (P:=Tryz.prog) tab [.fn E68,.fn E172,.fn E138,.fn E135] sg130 Tryz.f130.results.toList (code Tryz.f130) plan130 xs=d130 xs.1:=by kernel_rfl
theorem sim130:Sim Tryz.prog 130 sg130 d130:=sim_ev mixd tabOK Tryz.func130 (code_of rfl) Tryz.call130 (Nat.le_of_ble_eq_true (by kernel_rfl)) (by kernel_rfl) plan130 _ fun xs y h=>(ev130 xs).trans h
noncomputable def E130:FnE Tryz.prog:=⟨130,sg130,d130,sim130⟩
noncomputable def d131 (l:List (Bool × (List Int × List Int))):Option (List (Bool × (List Int × List Int))) :=
 (whileO (β:=(List (Bool × (List Int × List Int)))) (fun ((out,t6,t7,t8):(List (Bool × (List Int × List Int))) × (List (Bool × (List Int × List Int))) × Int × Int) =>
   bif (decide (t8 < t7)) then
    bif (decide (0≤t8) && decide (t8 < (t6.length:Int))) then
     (d173 (((List.getD t6 (Int.toNat t8) (false,[],[])).2).1)).bind fun r =>
     (d173 (((List.getD t6 (Int.toNat t8) (false,[],[])).2).2)).bind fun r_1 =>
     bif (decide ((out.length:Int)+(([((List.getD t6 (Int.toNat t8) (false,[],[])).1,r,r_1)]:List (Bool × (List Int × List Int))).length:Int)≤LIM)) then
      some (Sum.inl ((out++[((List.getD t6 (Int.toNat t8) (false,[],[])).1,r,r_1)]),t6,t7,(w (t8+1))))
     else none
    else none
   else
    some (Sum.inr out)) ([],l,(l.length:Int),0)).bind fun (out_1:List (Bool × (List Int × List Int))) =>
 some out_1
def sg131:Sig:=⟨[(y53,.bw)],[(y53,(.own 57 .sh))]⟩
def plan131:Plan:=(.seq (.reg [] []) (.seq (.reg [] [{ fl:=2 }]) (.seq (.seq (.reg [] []) (.block (.loop [(3,.v y53 (.own 57 .sh)),(6,.v y53 .bw),(7,.v y2 .sh),(8,.v y2 .sh)] [(.brk 0,[(3,.v y53 (.own 57 .sh))])] (.seq (.reg [] []) (.seq (.cond .nil .nil) (.seq (.block (.seq (.reg [] []) (.reg [] [{},{},{},{},{},{},{},{},{},{ frz:=[(17,[]),(20,[])] }]))) (.reg [] []))))))) (.seq (.reg [] []) .nil))))
theorem ev131 (xs:Vals (ptys sg131.ps)):evF (P:=Tryz.prog) tab [.fn E173] sg131 Tryz.f131.results.toList (code Tryz.f131) plan131 xs=d131 xs.1:=by kernel_rfl
theorem sim131:Sim Tryz.prog 131 sg131 d131:=sim_ev mixd tabOK Tryz.func131 (code_of rfl) Tryz.call131 (Nat.le_of_ble_eq_true (by kernel_rfl)) (by kernel_rfl) plan131 _ fun xs y h=>(ev131 xs).trans h
noncomputable def E131:FnE Tryz.prog:=⟨131,sg131,d131,sim131⟩
noncomputable def d136 (c:Int) (p1:(List (Bool × (List Int × List Int)) × (List (Bool × (List Int × List Int)) × ((Bool × (List Int × List Int)) × ((Bool × (List Int × List Int)) × ((Bool × (List Int × List Int)) × (List Int × (List Int × List Int)))))))):Option Bool :=
 bif (decide (0≤c) && decide (c < (p1.1.length:Int))) then
  (d137 (List.getD p1.1 (Int.toNat c) (false,[],[])) p1.2.2.1).bind fun r =>
  some (decide (r < 0))
 else none
def sg136:Sig:=⟨[(y2,.bw),(y154,.bw)],[(y4,.sh)]⟩
def plan136:Plan:=(.seq (.reg [] []) (.seq (.reg [] []) .nil))
theorem ev136 (xs:Vals (ptys sg136.ps)):evF (P:=Tryz.prog) tab [.fn E137] sg136 Tryz.f136.results.toList (code Tryz.f136) plan136 xs=d136 xs.1 xs.2.1:=by kernel_rfl
theorem sim136:Sim Tryz.prog 136 sg136 d136:=sim_ev mixd tabOK Tryz.func136 (code_of rfl) Tryz.call136 (Nat.le_of_ble_eq_true (by kernel_rfl)) (by kernel_rfl) plan136 _ fun xs y h=>(ev136 xs).trans h
noncomputable def E136:FnE Tryz.prog:=⟨136,sg136,d136,sim136⟩
noncomputable def d101 (s:List Int) (f:(Int→Option Bool)):Option Int :=
 (whileO (β:=Unit ⊕ Int) (fun ((s_1,f_1,t7,t8):(List Int) × (Int→Option Bool) × Int × Int) =>
   bif (decide (t8 < t7)) then
    bif (decide (0≤t8) && decide (t8 < (s_1.length:Int))) then
     (f_1 (List.getD s_1 (Int.toNat t8) 0)).bind fun r =>
     bif r then
      some (Sum.inr (Sum.inr t8))
     else
      some (Sum.inl (s_1,f_1,t7,(w (t8+1))))
    else none
   else
    some (Sum.inr (Sum.inl ()))) (s,f,(s.length:Int),0)).bind fun
 | Sum.inl _ =>
  some (-1)
 | Sum.inr t4 =>
  some t4
def sg101:Sig:=⟨[(y26,.bw),(y128,.bw)],[(y2,.sh)]⟩
def plan101:Plan:=(.seq (.reg [] []) (.seq (.seq (.reg [] []) (.block (.loop [(0,.v y26 .bw),(1,.v y128 .bw),(7,.v y2 .sh),(8,.v y2 .sh)] [(.brk 0,[]),(.ret,[(4,.v y2 .sh)])] (.seq (.reg [] []) (.seq (.cond .nil .nil) (.seq (.block (.seq (.reg [] []) (.seq (.reg [] []) (.cond (.seq (.reg [] []) .nil) .nil)))) (.reg [] []))))))) (.seq (.reg [] []) .nil)))
theorem ev101 (xs:Vals (ptys sg101.ps)):evF (P:=Tryz.prog) tab [] sg101 Tryz.f101.results.toList (code Tryz.f101) plan101 xs=d101 xs.1 xs.2.1:=by kernel_rfl
theorem sim101:Sim Tryz.prog 101 sg101 d101:=sim_ev mixd tabOK Tryz.func101 (code_of rfl) Tryz.call101 (Nat.le_of_ble_eq_true (by kernel_rfl)) (by kernel_rfl) plan101 _ fun xs y h=>(ev101 xs).trans h
noncomputable def E101:FnE Tryz.prog:=⟨101,sg101,d101,sim101⟩
noncomputable def d134 (s:List Int) (del:(Int→Option Bool)):Option (List Int) :=
 (d101 s del).bind fun r =>
 bif (decide (r=(-1))) then
  some s
 else
  (whileO (β:=((List Int) × Int)) (fun ((s_1,del_1,i,j_):(List Int) × (Int→Option Bool) × Int × Int) =>
    bif (decide (j_ < (s_1.length:Int))) then
     letJ (fun ((s_2,del_2,i_1,j__1):(List Int) × (Int→Option Bool) × Int × Int) =>
       some (Sum.inl (s_2,del_2,i_1,(w (j__1+1))))) fun j__2 =>
     bif (decide (0≤j_) && decide (j_ < (s_1.length:Int))) then
      (del_1 (List.getD s_1 (Int.toNat j_) 0)).bind fun r_1 =>
      bif !r_1 then
       bif (decide (0≤i) && decide (i < (s_1.length:Int))) then
        j__2 ((List.set s_1 (Int.toNat i) (List.getD s_1 (Int.toNat j_) 0)),del_1,(w (i+1)),j_)
       else none
      else
       j__2 (s_1,del_1,i,j_)
     else none
    else
     some (Sum.inr (s_1,i))) (s,del,r,(w (r+1)))).bind fun ((s_3,i_2):(List Int) × Int) =>
  bif (cutOK i_2 (s_3.length:Int) s_3.length) then
   bif (cutOK 0 i_2 (List.take (Int.toNat i_2) s_3++List.replicate (s_3.length - (Int.toNat i_2)) 0).length) then
    some (List.take (Int.toNat i_2) (List.take (Int.toNat i_2) s_3++List.replicate (s_3.length - (Int.toNat i_2)) 0))
   else none
  else none
def sg134:Sig:=⟨[(y26,(.give (.own 3 .sh))),(y128,.bw)],[(y26,(.own 3 .sh))]⟩
def plan134:Plan:=(.seq (.reg [] []) (.seq (.reg [] []) (.seq (.seq (.reg [] []) (.cond (.seq (.reg [] []) .nil) .nil)) (.seq (.seq (.reg [] []) (.block (.loop [(0,.v y26 (.own 3 .sh)),(1,.v y128 .bw),(5,.v y2 .sh),(6,.v y2 .sh)] [(.brk 0,[(0,.v y26 (.own 3 .sh)),(5,.v y2 .sh)])] (.seq (.seq (.reg [] []) (.cond .nil .nil)) (.join (.block (.seq (.reg [] []) (.seq (.reg [] []) (.cond (.seq (.reg [] []) (.reg [] [])) .nil)))) [(0,.v y26 (.own 3 .sh)),(1,.v y128 .bw),(5,.v y2 .sh),(6,.v y2 .sh)] (.reg [] [])))))) (.seq (.reg [] []) (.seq (.reg [] []) .nil))))))
theorem ev134 (xs:Vals (ptys sg134.ps)):evF (P:=Tryz.prog) tab [.fn E101] sg134 Tryz.f134.results.toList (code Tryz.f134) plan134 xs=d134 xs.1 xs.2.1:=by kernel_rfl
theorem sim134:Sim Tryz.prog 134 sg134 d134:=sim_ev mixd tabOK Tryz.func134 (code_of rfl) Tryz.call134 (Nat.le_of_ble_eq_true (by kernel_rfl)) (by kernel_rfl) plan134 _ fun xs y h=>(ev134 xs).trans h
noncomputable def E134:FnE Tryz.prog:=⟨134,sg134,d134,sim134⟩
noncomputable def d133 (k:((List Int × (List (List Int) × (Int × (Int × (Int × (Int × (Int × (Int × Int)))))))) × (List Int × (Int × (Int × (List (List Int × (Int × (Int × (Bool × (List Int × List Int))))) × (List Int × (List (Bool × (List Int × List Int)) × (Int × (List (List (Bool × (List Int × List Int))) × (Int × (Int × (Int × (Int × (List (List (Bool × (List Int × List Int)) × (List (Bool × (List Int × List Int)) × ((Bool × (List Int × List Int)) × ((Bool × (List Int × List Int)) × ((Bool × (List Int × List Int)) × (List Int × (List Int × List Int))))))) × List Int))))))))))))))) (r:(List (Bool × (List Int × List Int)) × (List (Bool × (List Int × List Int)) × ((Bool × (List Int × List Int)) × ((Bool × (List Int × List Int)) × ((Bool × (List Int × List Int)) × (List Int × (List Int × List Int)))))))) (candidates:List Int):Option (((List Int × (List (List Int) × (Int × (Int × (Int × (Int × (Int × (Int × Int)))))))) × (List Int × (Int × (Int × (List (List Int × (Int × (Int × (Bool × (List Int × List Int))))) × (List Int × (List (Bool × (List Int × List Int)) × (Int × (List (List (Bool × (List Int × List Int))) × (Int × (Int × (Int × (Int × (List (List (Bool × (List Int × List Int)) × (List (Bool × (List Int × List Int)) × ((Bool × (List Int × List Int)) × ((Bool × (List Int × List Int)) × ((Bool × (List Int × List Int)) × (List Int × (List Int × List Int))))))) × List Int)))))))))))))) × (List (Bool × (List Int × List Int)) × (List (Bool × (List Int × List Int)) × ((Bool × (List Int × List Int)) × ((Bool × (List Int × List Int)) × ((Bool × (List Int × List Int)) × (List Int × (List Int × List Int)))))))) :=
 (whileO (β:=(((List Int × (List (List Int) × (Int × (Int × (Int × (Int × (Int × (Int × Int)))))))) × (List Int × (Int × (Int × (List (List Int × (Int × (Int × (Bool × (List Int × List Int))))) × (List Int × (List (Bool × (List Int × List Int)) × (Int × (List (List (Bool × (List Int × List Int))) × (Int × (Int × (Int × (Int × (List (List (Bool × (List Int × List Int)) × (List (Bool × (List Int × List Int)) × ((Bool × (List Int × List Int)) × ((Bool × (List Int × List Int)) × ((Bool × (List Int × List Int)) × (List Int × (List Int × List Int))))))) × List Int)))))))))))))) × (List (Bool × (List Int × List Int)) × (List (Bool × (List Int × List Int)) × ((Bool × (List Int × List Int)) × ((Bool × (List Int × List Int)) × ((Bool × (List Int × List Int)) × (List Int × (List Int × List Int))))))))) (fun ((k_1,r_1,t8,t9,t10):((List Int × (List (List Int) × (Int × (Int × (Int × (Int × (Int × (Int × Int)))))))) × (List Int × (Int × (Int × (List (List Int × (Int × (Int × (Bool × (List Int × List Int))))) × (List Int × (List (Bool × (List Int × List Int)) × (Int × (List (List (Bool × (List Int × List Int))) × (Int × (Int × (Int × (Int × (List (List (Bool × (List Int × List Int)) × (List (Bool × (List Int × List Int)) × ((Bool × (List Int × List Int)) × ((Bool × (List Int × List Int)) × ((Bool × (List Int × List Int)) × (List Int × (List Int × List Int))))))) × List Int)))))))))))))) × (List (Bool × (List Int × List Int)) × (List (Bool × (List Int × List Int)) × ((Bool × (List Int × List Int)) × ((Bool × (List Int × List Int)) × ((Bool × (List Int × List Int)) × (List Int × (List Int × List Int))))))) × (List Int) × Int × Int) =>
   bif (decide (t10 < t9)) then
    bif (decide (0≤t10) && decide (t10 < (t8.length:Int))) then
     bif (decide (0≤(List.getD t8 (Int.toNat t10) 0)) && decide ((List.getD t8 (Int.toNat t10) 0) < (k_1.2.2.2.2.2.1.length:Int))) then
      bif (decide ((r_1.2.2.2.2.2.1.length:Int)+(([(List.getD t8 (Int.toNat t10) 0)]:List Int).length:Int)≤LIM)) then
       some (Sum.inl ((k_1.1,k_1.2.1,k_1.2.2.1,k_1.2.2.2.1,k_1.2.2.2.2.1,(List.set k_1.2.2.2.2.2.1 (Int.toNat (List.getD t8 (Int.toNat t10) 0)) 1),k_1.2.2.2.2.2.2.1,(w (k_1.2.2.2.2.2.2.2.1+1)),k_1.2.2.2.2.2.2.2.2),(r_1.1,r_1.2.1,r_1.2.2.1,r_1.2.2.2.1,r_1.2.2.2.2.1,(r_1.2.2.2.2.2.1++[(List.getD t8 (Int.toNat t10) 0)]),r_1.2.2.2.2.2.2),t8,t9,(w (t10+1))))
      else none
     else none
    else none
   else
    some (Sum.inr (k_1,r_1))) (k,r,candidates,(candidates.length:Int),0)).bind fun ((k_2,r_2):((List Int × (List (List Int) × (Int × (Int × (Int × (Int × (Int × (Int × Int)))))))) × (List Int × (Int × (Int × (List (List Int × (Int × (Int × (Bool × (List Int × List Int))))) × (List Int × (List (Bool × (List Int × List Int)) × (Int × (List (List (Bool × (List Int × List Int))) × (Int × (Int × (Int × (Int × (List (List (Bool × (List Int × List Int)) × (List (Bool × (List Int × List Int)) × ((Bool × (List Int × List Int)) × ((Bool × (List Int × List Int)) × ((Bool × (List Int × List Int)) × (List Int × (List Int × List Int))))))) × List Int)))))))))))))) × (List (Bool × (List Int × List Int)) × (List (Bool × (List Int × List Int)) × ((Bool × (List Int × List Int)) × ((Bool × (List Int × List Int)) × ((Bool × (List Int × List Int)) × (List Int × (List Int × List Int)))))))) =>
 (d174 r_2.2.2.2.2.2.1).bind fun r_3 =>
 some (k_2,(r_2.1,r_2.2.1,r_2.2.2.1,r_2.2.2.2.1,r_2.2.2.2.2.1,r_3,r_2.2.2.2.2.2.2))
def sg133:Sig:=⟨[(y94,(.io (.own 0 (.pr .sh (.pr .sh (.pr .sh (.pr .sh (.pr (.own 100 .sh) (.pr (.own 3 .sh) (.pr (.own 57 .sh) (.pr .sh (.pr (.own 53 .sh) (.pr .sh (.pr .sh (.pr .sh (.pr .sh (.pr (.own 59 .sh) (.own 3 .sh)))))))))))))))))),(y154,(.io (.own 0 (.pr .sh (.pr .sh (.pr .sh (.pr .sh (.pr .sh (.pr (.own 3 .sh) (.pr .sh .sh)))))))))),(y26,.bw)],[]⟩
def plan133:Plan:=(.seq (.seq (.reg [] []) (.block (.loop [(0,.v y94 (.own 0 (.pr .sh (.pr .sh (.pr .sh (.pr .sh (.pr (.own 100 .sh) (.pr (.own 3 .sh) (.pr (.own 57 .sh) (.pr .sh (.pr (.own 53 .sh) (.pr .sh (.pr .sh (.pr .sh (.pr .sh (.pr (.own 59 .sh) (.own 3 .sh))))))))))))))))),(1,.v y154 (.own 0 (.pr .sh (.pr .sh (.pr .sh (.pr .sh (.pr .sh (.pr (.own 3 .sh) (.pr .sh .sh))))))))),(8,.v y26 .bw),(9,.v y2 .sh),(10,.v y2 .sh)] [(.brk 0,[(0,.v y94 (.own 0 (.pr .sh (.pr .sh (.pr .sh (.pr .sh (.pr (.own 100 .sh) (.pr (.own 3 .sh) (.pr (.own 57 .sh) (.pr .sh (.pr (.own 53 .sh) (.pr .sh (.pr .sh (.pr .sh (.pr .sh (.pr (.own 59 .sh) (.own 3 .sh))))))))))))))))),(1,.v y154 (.own 0 (.pr .sh (.pr .sh (.pr .sh (.pr .sh (.pr .sh (.pr (.own 3 .sh) (.pr .sh .sh)))))))))])] (.seq (.reg [] []) (.seq (.cond .nil .nil) (.seq (.block (.seq (.reg [] []) (.seq (.reg [] []) (.seq (.reg [] []) (.reg [] []))))) (.reg [] []))))))) (.reg [] []))
theorem ev133 (xs:Vals (ptys sg133.ps)):evF (P:=Tryz.prog) tab [.fn E174] sg133 Tryz.f133.results.toList (code Tryz.f133) plan133 xs=d133 xs.1 xs.2.1 xs.2.2.1:=by kernel_rfl
theorem sim133:Sim Tryz.prog 133 sg133 d133:=sim_ev mixd tabOK Tryz.func133 (code_of rfl) Tryz.call133 (Nat.le_of_ble_eq_true (by kernel_rfl)) (by kernel_rfl) plan133 _ fun xs y h=>(ev133 xs).trans h
noncomputable def E133:FnE Tryz.prog:=⟨133,sg133,d133,sim133⟩
noncomputable def d185 (p0:Int) (p1:List Int) (p2:List Int):Option Bool :=
 letJ (fun ((t1,t2,t7,t33):(List Int) × (List Int) × Int × Bool) =>
   bif t33 then
    some false
   else
    (whileO (β:=((List Int) × Int) ⊕ Bool) (fun ((t1_1,t7_1,t8,t34,t35,t36):(List Int) × Int × (List Bool) × (List Int) × Int × Int) =>
      bif (decide (t36 < t35)) then
       bif (decide (0≤t36) && decide (t36 < (t34.length:Int))) then
        letJ (fun ((t1_2,t7_2,t8_1,t10,t34_1,t35_1,t36_1,t51):(List Int) × Int × (List Bool) × Int × (List Int) × Int × Int × Bool) =>
          bif t51 then
           some (Sum.inr (Sum.inr false))
          else
           bif (decide (0≤t10) && decide (t10 < 7)) then
            some (Sum.inl (t1_2,t7_2,(List.set t8_1 (Int.toNat t10) true),t34_1,t35_1,(w (t36_1+1))))
           else none) fun j__1 =>
        bif !(decide ((List.getD t34 (Int.toNat t36) 0) < 0)) then
         bif !(decide (t7_1≤(List.getD t34 (Int.toNat t36) 0))) then
          bif (decide (0≤(List.getD t34 (Int.toNat t36) 0)) && decide ((List.getD t34 (Int.toNat t36) 0) < 7)) then
           j__1 (t1_1,t7_1,t8,(List.getD t34 (Int.toNat t36) 0),t34,t35,t36,(List.getD t8 (Int.toNat (List.getD t34 (Int.toNat t36) 0)) false))
          else none
         else
          j__1 (t1_1,t7_1,t8,(List.getD t34 (Int.toNat t36) 0),t34,t35,t36,true)
        else
         j__1 (t1_1,t7_1,t8,(List.getD t34 (Int.toNat t36) 0),t34,t35,t36,true)
       else none
      else
       some (Sum.inr (Sum.inl (t1_1,t7_1)))) (t1,t7,[false,false,false,false,false,false,false],t2,(t2.length:Int),0)).bind fun
    | Sum.inl (t1_3,t7_3) =>
     (whileO (β:=Unit ⊕ Bool) (fun ((t1_4,t7_4,t55,t56,t57):(List Int) × Int × (List Int) × Int × Int) =>
       bif (decide (t57 < t56)) then
        bif (decide (0≤t57) && decide (t57 < (t55.length:Int))) then
         letJ (fun ((t1_5,t7_5,t55_1,t56_1,t57_1,t81):(List Int) × Int × (List Int) × Int × Int × Bool) =>
           bif t81 then
            some (Sum.inr (Sum.inr false))
           else
            some (Sum.inl (t1_5,t7_5,t55_1,t56_1,(w (t57_1+1))))) fun j__2 =>
         bif !(decide ((List.getD t55 (Int.toNat t57) 0) < 0)) then
          bif !(decide (t7_4≤(List.getD t55 (Int.toNat t57) 0))) then
           bif (decide (0 < t57)) then
            bif (decide (0≤(w (t57 - 1))) && decide ((w (t57 - 1)) < (t1_4.length:Int))) then
             j__2 (t1_4,t7_4,t55,t56,t57,(decide ((List.getD t55 (Int.toNat t57) 0)≤(List.getD t1_4 (Int.toNat (w (t57 - 1))) 0))))
            else none
           else
            j__2 (t1_4,t7_4,t55,t56,t57,false)
          else
           j__2 (t1_4,t7_4,t55,t56,t57,true)
         else
          j__2 (t1_4,t7_4,t55,t56,t57,true)
        else none
       else
        some (Sum.inr (Sum.inl ()))) (t1_3,t7_3,t1_3,(t1_3.length:Int),0)).bind fun
     | Sum.inl _ =>
      some true
     | Sum.inr t6_1 =>
      some t6_1
    | Sum.inr t6 =>
     some t6) fun j_ =>
 bif !(decide (p0 < 1)) then
  bif !(decide (3 < p0)) then
   bif !(decide ((p2.length:Int) < 1)) then
    bif !(decide (7 < (p2.length:Int))) then
     j_ (p1,p2,(p2.length:Int),(decide ((p1.length:Int)=0)))
    else
     j_ (p1,p2,(p2.length:Int),true)
   else
    j_ (p1,p2,(p2.length:Int),true)
  else
   j_ (p1,p2,(p2.length:Int),true)
 else
  j_ (p1,p2,(p2.length:Int),true)
def sg185:Sig:=⟨[(y2,.sh),(y26,.bw),(y26,.bw)],[(y4,.sh)]⟩
def plan185:Plan:=(.seq (.reg [] []) (.seq (.reg [] []) (.seq (.join (.reg [] []) [(1,.v y26 .bw),(2,.v y26 .bw),(7,.v y2 .sh),(33,.v y4 .sh)] (.cond (.seq (.reg [] []) .nil) .nil)) (.seq (.reg [] []) (.seq (.seq (.reg [] []) (.block (.loop [(1,.v y26 .bw),(7,.v y2 .sh),(8,.v (.ptr y200) (.own 0 .sh)),(34,.v y26 .bw),(35,.v y2 .sh),(36,.v y2 .sh)] [(.brk 0,[(1,.v y26 .bw),(7,.v y2 .sh)]),(.ret,[(6,.v y4 .sh)])] (.seq (.reg [] []) (.seq (.cond .nil .nil) (.seq (.block (.seq (.reg [] []) (.seq (.join (.reg [] []) [(1,.v y26 .bw),(7,.v y2 .sh),(8,.v (.ptr y200) (.own 0 .sh)),(10,.v y2 .sh),(34,.v y26 .bw),(35,.v y2 .sh),(36,.v y2 .sh),(51,.v y4 .sh)] (.cond (.seq (.reg [] []) .nil) .nil)) (.reg [] [])))) (.reg [] []))))))) (.seq (.seq (.reg [] []) (.block (.loop [(1,.v y26 .bw),(7,.v y2 .sh),(55,.v y26 .bw),(56,.v y2 .sh),(57,.v y2 .sh)] [(.brk 2,[]),(.ret,[(6,.v y4 .sh)])] (.seq (.reg [] []) (.seq (.cond .nil .nil) (.seq (.block (.seq (.reg [] []) (.join (.reg [] []) [(1,.v y26 .bw),(7,.v y2 .sh),(55,.v y26 .bw),(56,.v y2 .sh),(57,.v y2 .sh),(81,.v y4 .sh)] (.cond (.seq (.reg [] []) .nil) .nil)))) (.reg [] []))))))) (.seq (.reg [] []) .nil)))))))
theorem ev185 (xs:Vals (ptys sg185.ps)):evF (P:=Tryz.prog) tab [] sg185 Tryz.f185.results.toList (code Tryz.f185) plan185 xs=d185 xs.1 xs.2.1 xs.2.2.1:=by kernel_rfl
theorem sim185:Sim Tryz.prog 185 sg185 d185:=sim_ev mixd tabOK Tryz.func185 (code_of rfl) Tryz.call185 (Nat.le_of_ble_eq_true (by kernel_rfl)) (by kernel_rfl) plan185 _ fun xs y h=>(ev185 xs).trans h
noncomputable def E185:FnE Tryz.prog:=⟨185,sg185,d185,sim185⟩
noncomputable def d213 (round:List (Bool × (List Int × List Int))) (candidate:Int):Option (Bool × (List Int × List Int)) :=
 bif (decide (candidate < (round.length:Int))) then
  bif (decide (0≤candidate) && decide (candidate < (round.length:Int))) then
   some (List.getD round (Int.toNat candidate) (false,[],[]))
  else none
 else
  (d68 0).bind fun r =>
  some r
def sg213:Sig:=⟨[(y53,.sh),(y2,.sh)],[(y57,.sh)]⟩
def plan213:Plan:=(.seq (.reg [] []) (.seq (.seq (.reg [] []) (.cond (.seq (.reg [] []) .nil) .nil)) (.seq (.reg [] []) .nil)))
theorem ev213 (xs:Vals (ptys sg213.ps)):evF (P:=Tryz.prog) tab [.fn E68] sg213 Tryz.f213.results.toList (code Tryz.f213) plan213 xs=d213 xs.1 xs.2.1:=by kernel_rfl
theorem sim213:Sim Tryz.prog 213 sg213 d213:=sim_ev mixd tabOK Tryz.func213 (code_of rfl) Tryz.call213 (Nat.le_of_ble_eq_true (by kernel_rfl)) (by kernel_rfl) plan213 _ fun xs y h=>(ev213 xs).trans h
noncomputable def E213:FnE Tryz.prog:=⟨213,sg213,d213,sim213⟩
noncomputable def d187 (candidates:List Int) (round:List (Bool × (List Int × List Int))) (least:Bool):Option (List Int) :=
 (whileO (β:=(List Int)) (fun ((round_1,least_1,out,t11,t12,t13):(List (Bool × (List Int × List Int))) × Bool × (List Int) × (List Int) × Int × Int) =>
   bif (decide (t13 < t12)) then
    letJ (fun ((round_4,least_4,out_3,t11_3,t12_3,t13_3):(List (Bool × (List Int × List Int))) × Bool × (List Int) × (List Int) × Int × Int) =>
      some (Sum.inl (round_4,least_4,out_3,t11_3,t12_3,(w (t13_3+1))))) fun j__2 =>
    bif (decide (0≤t13) && decide (t13 < (t11.length:Int))) then
     letJ (fun ((round_3,least_3,out_2,c_1,order_1,t11_2,t12_2,t13_2):(List (Bool × (List Int × List Int))) × Bool × (List Int) × Int × Int × (List Int) × Int × Int) =>
       bif (decide (order_1≤0)) then
        bif (decide ((out_2.length:Int)+(([c_1]:List Int).length:Int)≤LIM)) then
         j__2 (round_3,least_3,(out_2++[c_1]),t11_2,t12_2,t13_2)
        else none
       else
        j__2 (round_3,least_3,out_2,t11_2,t12_2,t13_2)) fun j__1 =>
     bif (decide (0 < (out.length:Int))) then
      (d213 round_1 (List.getD t11 (Int.toNat t13) 0)).bind fun r =>
      bif (decide (0≤0) && decide (0 < (out.length:Int))) then
       (d213 round_1 (List.getD out 0 0)).bind fun r_1 =>
       (d137 r r_1).bind fun r_2 =>
       letJ (fun ((round_2,least_2,out_1,c,order,t11_1,t12_1,t13_1):(List (Bool × (List Int × List Int))) × Bool × (List Int) × Int × Int × (List Int) × Int × Int) =>
         bif (decide (order < 0)) then
          bif (cutOK 0 0 out_1.length) then
           j__1 (round_2,least_2,(List.take 0 out_1),c,order,t11_1,t12_1,t13_1)
          else none
         else
          j__1 (round_2,least_2,out_1,c,order,t11_1,t12_1,t13_1)) fun j_ =>
       bif !least_1 then
        j_ (round_1,least_1,out,(List.getD t11 (Int.toNat t13) 0),(w (0 - r_2)),t11,t12,t13)
       else
        j_ (round_1,least_1,out,(List.getD t11 (Int.toNat t13) 0),r_2,t11,t12,t13)
      else none
     else
      j__1 (round_1,least_1,out,(List.getD t11 (Int.toNat t13) 0),(-1),t11,t12,t13)
    else none
   else
    some (Sum.inr out)) (round,least,[],candidates,(candidates.length:Int),0)).bind fun (out_4:List Int) =>
 some out_4
def sg187:Sig:=⟨[(y26,.bw),(y53,.sh),(y4,.sh)],[(y26,(.own 3 .sh))]⟩
def plan187:Plan:=(.seq (.reg [] []) (.seq (.reg [] [{ fl:=2 }]) (.seq (.seq (.reg [] []) (.block (.loop [(1,.v y53 .sh),(2,.v y4 .sh),(7,.v y26 (.own 3 .sh)),(11,.v y26 .bw),(12,.v y2 .sh),(13,.v y2 .sh)] [(.brk 0,[(7,.v y26 (.own 3 .sh))])] (.seq (.reg [] []) (.seq (.cond .nil .nil) (.join (.block (.seq (.reg [] []) (.seq (.reg [] []) (.join (.seq (.reg [] []) (.cond (.seq (.reg [] []) (.join (.seq (.reg [] []) (.cond (.reg [] []) .nil)) [(1,.v y53 .sh),(2,.v y4 .sh),(7,.v y26 (.own 3 .sh)),(9,.v y2 .sh),(10,.v y2 .sh),(11,.v y26 .bw),(12,.v y2 .sh),(13,.v y2 .sh)] (.seq (.reg [] []) (.cond (.reg [] []) .nil)))) .nil)) [(1,.v y53 .sh),(2,.v y4 .sh),(7,.v y26 (.own 3 .sh)),(9,.v y2 .sh),(10,.v y2 .sh),(11,.v y26 .bw),(12,.v y2 .sh),(13,.v y2 .sh)] (.seq (.reg [] []) (.cond (.reg [] []) .nil)))))) [(1,.v y53 .sh),(2,.v y4 .sh),(7,.v y26 (.own 3 .sh)),(11,.v y26 .bw),(12,.v y2 .sh),(13,.v y2 .sh)] (.reg [] []))))))) (.seq (.reg [] []) .nil))))
theorem ev187 (xs:Vals (ptys sg187.ps)):evF (P:=Tryz.prog) tab [.fn E213,.fn E137] sg187 Tryz.f187.results.toList (code Tryz.f187) plan187 xs=d187 xs.1 xs.2.1 xs.2.2.1:=by kernel_rfl
theorem sim187:Sim Tryz.prog 187 sg187 d187:=sim_ev mixd tabOK Tryz.func187 (code_of rfl) Tryz.call187 (Nat.le_of_ble_eq_true (by kernel_rfl)) (by kernel_rfl) plan187 _ fun xs y h=>(ev187 xs).trans h
noncomputable def E187:FnE Tryz.prog:=⟨187,sg187,d187,sim187⟩
noncomputable def d189 (s:List Int) (v:Int):Option Int :=
 (whileO (β:=Unit ⊕ Int) (fun ((s_1,v_1,t7,t8):(List Int) × Int × Int × Int) =>
   bif (decide (t8 < t7)) then
    bif (decide (0≤t8) && decide (t8 < (s_1.length:Int))) then
     bif (decide (v_1=(List.getD s_1 (Int.toNat t8) 0))) then
      some (Sum.inr (Sum.inr t8))
     else
      some (Sum.inl (s_1,v_1,t7,(w (t8+1))))
    else none
   else
    some (Sum.inr (Sum.inl ()))) (s,v,(s.length:Int),0)).bind fun
 | Sum.inl _ =>
  some (-1)
 | Sum.inr t4 =>
  some t4
def sg189:Sig:=⟨[(y26,.bw),(y2,.sh)],[(y2,.sh)]⟩
def plan189:Plan:=(.seq (.reg [] []) (.seq (.seq (.reg [] []) (.block (.loop [(0,.v y26 .bw),(1,.v y2 .sh),(7,.v y2 .sh),(8,.v y2 .sh)] [(.brk 0,[]),(.ret,[(4,.v y2 .sh)])] (.seq (.reg [] []) (.seq (.cond .nil .nil) (.seq (.block (.seq (.reg [] []) (.seq (.reg [] []) (.cond (.seq (.reg [] []) .nil) .nil)))) (.reg [] []))))))) (.seq (.reg [] []) .nil)))
theorem ev189 (xs:Vals (ptys sg189.ps)):evF (P:=Tryz.prog) tab [] sg189 Tryz.f189.results.toList (code Tryz.f189) plan189 xs=d189 xs.1 xs.2.1:=by kernel_rfl
theorem sim189:Sim Tryz.prog 189 sg189 d189:=sim_ev mixd tabOK Tryz.func189 (code_of rfl) Tryz.call189 (Nat.le_of_ble_eq_true (by kernel_rfl)) (by kernel_rfl) plan189 _ fun xs y h=>(ev189 xs).trans h
noncomputable def E189:FnE Tryz.prog:=⟨189,sg189,d189,sim189⟩
noncomputable def d188 (a:Int) (b:Int) (p2:List Int):Option Int :=
 (d189 p2 a).bind fun r =>
 (d189 p2 b).bind fun r_1 =>
 some (w (r - r_1))
def sg188:Sig:=⟨[(y2,.bw),(y2,.bw),((.ptr y26),.bw)],[(y2,.sh)]⟩
def plan188:Plan:=(.seq (.reg [] []) (.seq (.reg [] []) .nil))
theorem ev188 (xs:Vals (ptys sg188.ps)):evF (P:=Tryz.prog) tab [.fn E189] sg188 Tryz.f188.results.toList (code Tryz.f188) plan188 xs=d188 xs.1 xs.2.1 xs.2.2.1:=by kernel_rfl
theorem sim188:Sim Tryz.prog 188 sg188 d188:=sim_ev mixd tabOK Tryz.func188 (code_of rfl) Tryz.call188 (Nat.le_of_ble_eq_true (by kernel_rfl)) (by kernel_rfl) plan188 _ fun xs y h=>(ev188 xs).trans h
noncomputable def E188:FnE Tryz.prog:=⟨188,sg188,d188,sim188⟩
noncomputable def d190 (x:List Int) (cmp:(Int→Int→Option Int)):Option Int :=
 bif (decide ((x.length:Int) < 1)) then
  none
 else
  bif (decide (0≤0) && decide (0 < (x.length:Int))) then
   (whileO (β:=Int) (fun ((x_1,cmp_1,m,i):(List Int) × (Int→Int→Option Int) × Int × Int) =>
     bif (decide (i < (x_1.length:Int))) then
      letJ (fun ((x_2,cmp_2,m_1,i_1):(List Int) × (Int→Int→Option Int) × Int × Int) =>
        some (Sum.inl (x_2,cmp_2,m_1,(w (i_1+1))))) fun j_ =>
      bif (decide (0≤i) && decide (i < (x_1.length:Int))) then
       (cmp_1 (List.getD x_1 (Int.toNat i) 0) m).bind fun r =>
       bif (decide (0 < r)) then
        bif (decide (0≤i) && decide (i < (x_1.length:Int))) then
         j_ (x_1,cmp_1,(List.getD x_1 (Int.toNat i) 0),i)
        else none
       else
        j_ (x_1,cmp_1,m,i)
      else none
     else
      some (Sum.inr m)) (x,cmp,(List.getD x 0 0),1)).bind fun (m_2:Int) =>
   some m_2
  else none
def sg190:Sig:=⟨[(y26,.bw),(y38,.bw)],[(y2,.sh)]⟩
def plan190:Plan:=(.seq (.reg [] []) (.seq (.seq (.reg [] []) (.cond (.reg [] []) .nil)) (.seq (.reg [] []) (.seq (.seq (.reg [] []) (.block (.loop [(0,.v y26 .bw),(1,.v y38 .bw),(5,.v y2 .sh),(6,.v y2 .sh)] [(.brk 0,[(5,.v y2 .sh)])] (.seq (.seq (.reg [] []) (.cond .nil .nil)) (.join (.block (.seq (.reg [] []) (.cond (.reg [] []) .nil))) [(0,.v y26 .bw),(1,.v y38 .bw),(5,.v y2 .sh),(6,.v y2 .sh)] (.reg [] [])))))) (.seq (.reg [] []) .nil)))))
theorem ev190 (xs:Vals (ptys sg190.ps)):evF (P:=Tryz.prog) tab [] sg190 Tryz.f190.results.toList (code Tryz.f190) plan190 xs=d190 xs.1 xs.2.1:=by kernel_rfl
theorem sim190:Sim Tryz.prog 190 sg190 d190:=sim_ev mixd tabOK Tryz.func190 (code_of rfl) Tryz.call190 (Nat.le_of_ble_eq_true (by kernel_rfl)) (by kernel_rfl) plan190 _ fun xs y h=>(ev190 xs).trans h
noncomputable def E190:FnE Tryz.prog:=⟨190,sg190,d190,sim190⟩
noncomputable def d191 (x:List Int) (cmp:(Int→Int→Option Int)):Option Int :=
 bif (decide ((x.length:Int) < 1)) then
  none
 else
  bif (decide (0≤0) && decide (0 < (x.length:Int))) then
   (whileO (β:=Int) (fun ((x_1,cmp_1,m,i):(List Int) × (Int→Int→Option Int) × Int × Int) =>
     bif (decide (i < (x_1.length:Int))) then
      letJ (fun ((x_2,cmp_2,m_1,i_1):(List Int) × (Int→Int→Option Int) × Int × Int) =>
        some (Sum.inl (x_2,cmp_2,m_1,(w (i_1+1))))) fun j_ =>
      bif (decide (0≤i) && decide (i < (x_1.length:Int))) then
       (cmp_1 (List.getD x_1 (Int.toNat i) 0) m).bind fun r =>
       bif (decide (r < 0)) then
        bif (decide (0≤i) && decide (i < (x_1.length:Int))) then
         j_ (x_1,cmp_1,(List.getD x_1 (Int.toNat i) 0),i)
        else none
       else
        j_ (x_1,cmp_1,m,i)
      else none
     else
      some (Sum.inr m)) (x,cmp,(List.getD x 0 0),1)).bind fun (m_2:Int) =>
   some m_2
  else none
def sg191:Sig:=⟨[(y26,.bw),(y38,.bw)],[(y2,.sh)]⟩
def plan191:Plan:=(.seq (.reg [] []) (.seq (.seq (.reg [] []) (.cond (.reg [] []) .nil)) (.seq (.reg [] []) (.seq (.seq (.reg [] []) (.block (.loop [(0,.v y26 .bw),(1,.v y38 .bw),(5,.v y2 .sh),(6,.v y2 .sh)] [(.brk 0,[(5,.v y2 .sh)])] (.seq (.seq (.reg [] []) (.cond .nil .nil)) (.join (.block (.seq (.reg [] []) (.cond (.reg [] []) .nil))) [(0,.v y26 .bw),(1,.v y38 .bw),(5,.v y2 .sh),(6,.v y2 .sh)] (.reg [] [])))))) (.seq (.reg [] []) .nil)))))
theorem ev191 (xs:Vals (ptys sg191.ps)):evF (P:=Tryz.prog) tab [] sg191 Tryz.f191.results.toList (code Tryz.f191) plan191 xs=d191 xs.1 xs.2.1:=by kernel_rfl
theorem sim191:Sim Tryz.prog 191 sg191 d191:=sim_ev mixd tabOK Tryz.func191 (code_of rfl) Tryz.call191 (Nat.le_of_ble_eq_true (by kernel_rfl)) (by kernel_rfl) plan191 _ fun xs y h=>(ev191 xs).trans h
noncomputable def E191:FnE Tryz.prog:=⟨191,sg191,d191,sim191⟩
noncomputable def d155 (p0:Int) (p1:List (List (Bool × (List Int × List Int)))) (p2:List Int) (p3:List Int) (p4:Bool):Option (Int × Bool × (List (List (Bool × (List Int × List Int))))) :=
 (d185 p0 p2 p3).bind fun r =>
 bif !r then
  some ((-1),false,p1)
 else
  (d186 p2).bind fun r_1 =>
  (whileO (β:=((List (List (Bool × (List Int × List Int)))) × Bool × (List Int) × (List Int))) (fun ((t0,t1,t4,t8,t12,t13):Int × (List (List (Bool × (List Int × List Int)))) × Bool × (List Int) × (List Int) × Int) =>
    letJ (fun ((t0_1,t1_1,t4_1,t8_1,t12_1,t13_1,t35):Int × (List (List (Bool × (List Int × List Int)))) × Bool × (List Int) × (List Int) × Int × Bool) =>
      bif t35 then
       bif (decide (0≤t13_1) && decide (t13_1 < (t1_1.length:Int))) then
        letJ (fun ((t0_2,t1_2,t4_2,t8_2,t12_2,t13_2,t14):Int × (List (List (Bool × (List Int × List Int)))) × Bool × (List Int) × (List Int) × Int × (List (Bool × (List Int × List Int)))) =>
          (d187 t12_2 t14 t4_2).bind fun r_2 =>
          some (Sum.inl (t0_2,t1_2,t4_2,t8_2,r_2,(w (t13_2+1))))) fun j__1 =>
        bif (decide (t0_1=1)) then
         bif (decide (0≤(w ((w ((t1_1.length:Int) - 1)) - t13_1))) && decide ((w ((w ((t1_1.length:Int) - 1)) - t13_1)) < (t1_1.length:Int))) then
          j__1 (t0_1,t1_1,t4_1,t8_1,t12_1,t13_1,(List.getD t1_1 (Int.toNat (w ((w ((t1_1.length:Int) - 1)) - t13_1))) []))
         else none
        else
         j__1 (t0_1,t1_1,t4_1,t8_1,t12_1,t13_1,(List.getD t1_1 (Int.toNat t13_1) []))
       else none
      else
       some (Sum.inr (t1_1,t4_1,t8_1,t12_1))) fun j_ =>
    bif (decide (t13 < (t1.length:Int))) then
     bif (decide (1 < (t12.length:Int))) then
      j_ (t0,t1,t4,t8,t12,t13,!(decide (t0=3)))
     else
      j_ (t0,t1,t4,t8,t12,t13,false)
    else
     j_ (t0,t1,t4,t8,t12,t13,false)) (p0,p1,p4,p3,r_1,0)).bind fun ((t1_3,t4_3,t8_3,t12_3):(List (List (Bool × (List Int × List Int)))) × Bool × (List Int) × (List Int)) =>
  bif (decide ((t12_3.length:Int)=1)) then
   bif (decide (0≤0) && decide (0 < (t12_3.length:Int))) then
    some ((List.getD t12_3 0 0),false,t1_3)
   else none
  else
   bif t4_3 then
    (d190 t12_3 (fun a a_1=>d188 a a_1 t8_3)).bind fun r_3 =>
    some (r_3,true,t1_3)
   else
    (d191 t12_3 (fun a_2 a_3=>d188 a_2 a_3 t8_3)).bind fun r_4 =>
    some (r_4,true,t1_3)
def sg155:Sig:=⟨[(y2,.sh),(y96,(.io (.own 53 .sh))),(y26,.bw),(y26,.bw),(y4,.sh)],[(y2,.sh),(y4,.sh)]⟩
def plan155:Plan:=(.seq (.reg [] []) (.seq (.seq (.reg [] []) (.cond (.seq (.reg [] []) .nil) .nil)) (.seq (.reg [] []) (.seq (.seq (.reg [] []) (.block (.loop [(0,.v y2 .sh),(1,.v y96 (.own 53 .sh)),(4,.v y4 .sh),(8,.v (.ptr y26) (.own 0 .bw)),(12,.v y26 (.own 3 .sh)),(13,.v y2 .sh)] [(.brk 0,[(1,.v y96 (.own 53 .sh)),(4,.v y4 .sh),(8,.v (.ptr y26) (.own 0 .bw)),(12,.v y26 (.own 3 .sh))])] (.seq (.join (.reg [] []) [(0,.v y2 .sh),(1,.v y96 (.own 53 .sh)),(4,.v y4 .sh),(8,.v (.ptr y26) (.own 0 .bw)),(12,.v y26 (.own 3 .sh)),(13,.v y2 .sh),(35,.v y4 .sh)] (.cond .nil .nil)) (.seq (.block (.seq (.reg [] []) (.join (.seq (.reg [] []) (.cond (.reg [] []) .nil)) [(0,.v y2 .sh),(1,.v y96 (.own 53 .sh)),(4,.v y4 .sh),(8,.v (.ptr y26) (.own 0 .bw)),(12,.v y26 (.own 3 .sh)),(13,.v y2 .sh),(14,.v y53 .sh)] (.reg [] [])))) (.reg [] [])))))) (.seq (.seq (.reg [] []) (.cond (.seq (.reg [] []) .nil) .nil)) (.seq (.reg [] []) (.seq (.seq (.reg [] []) (.cond (.seq (.reg [] []) .nil) .nil)) (.seq (.reg [] []) .nil))))))))
theorem ev155 (xs:Vals (ptys sg155.ps)):evF (P:=Tryz.prog) tab [.fn E185,.fn E186,.fn E187,.fn E190,.fn E188,.fn E191] sg155 Tryz.f155.results.toList (code Tryz.f155) plan155 xs=d155 xs.1 xs.2.1 xs.2.2.1 xs.2.2.2.1 xs.2.2.2.2.1:=by kernel_rfl
theorem sim155:Sim Tryz.prog 155 sg155 d155:=sim_ev mixd tabOK Tryz.func155 (code_of rfl) Tryz.call155 (Nat.le_of_ble_eq_true (by kernel_rfl)) (by kernel_rfl) plan155 _ fun xs y h=>(ev155 xs).trans h
noncomputable def E155:FnE Tryz.prog:=⟨155,sg155,d155,sim155⟩
noncomputable def d178 (p0:((List Int × (List (List Int) × (Int × (Int × (Int × (Int × (Int × (Int × Int)))))))) × (List Int × (Int × (Int × (List (List Int × (Int × (Int × (Bool × (List Int × List Int))))) × (List Int × (List (Bool × (List Int × List Int)) × (Int × (List (List (Bool × (List Int × List Int))) × (Int × (Int × (Int × (Int × (List (List (Bool × (List Int × List Int)) × (List (Bool × (List Int × List Int)) × ((Bool × (List Int × List Int)) × ((Bool × (List Int × List Int)) × ((Bool × (List Int × List Int)) × (List Int × (List Int × List Int))))))) × List Int))))))))))))))) (p1:(List (Bool × (List Int × List Int)) × (List (Bool × (List Int × List Int)) × ((Bool × (List Int × List Int)) × ((Bool × (List Int × List Int)) × ((Bool × (List Int × List Int)) × (List Int × (List Int × List Int)))))))) (p2:List Int) (p3:Bool):Option (Int × ((List Int × (List (List Int) × (Int × (Int × (Int × (Int × (Int × (Int × Int)))))))) × (List Int × (Int × (Int × (List (List Int × (Int × (Int × (Bool × (List Int × List Int))))) × (List Int × (List (Bool × (List Int × List Int)) × (Int × (List (List (Bool × (List Int × List Int))) × (Int × (Int × (Int × (Int × (List (List (Bool × (List Int × List Int)) × (List (Bool × (List Int × List Int)) × ((Bool × (List Int × List Int)) × ((Bool × (List Int × List Int)) × ((Bool × (List Int × List Int)) × (List Int × (List Int × List Int))))))) × List Int)))))))))))))) × (List (Bool × (List Int × List Int)) × (List (Bool × (List Int × List Int)) × ((Bool × (List Int × List Int)) × ((Bool × (List Int × List Int)) × ((Bool × (List Int × List Int)) × (List Int × (List Int × List Int)))))))) :=
 (whileO (β:=(((List Int × (List (List Int) × (Int × (Int × (Int × (Int × (Int × (Int × Int)))))))) × (List Int × (Int × (Int × (List (List Int × (Int × (Int × (Bool × (List Int × List Int))))) × (List Int × (List (Bool × (List Int × List Int)) × (Int × (List (List (Bool × (List Int × List Int))) × (Int × (Int × (Int × (Int × (List (List (Bool × (List Int × List Int)) × (List (Bool × (List Int × List Int)) × ((Bool × (List Int × List Int)) × ((Bool × (List Int × List Int)) × ((Bool × (List Int × List Int)) × (List Int × (List Int × List Int))))))) × List Int)))))))))))))) × (List (Bool × (List Int × List Int)) × (List (Bool × (List Int × List Int)) × ((Bool × (List Int × List Int)) × ((Bool × (List Int × List Int)) × ((Bool × (List Int × List Int)) × (List Int × (List Int × List Int))))))) × Bool × (List Int))) (fun ((t0,t1,t3,t9,t15,t16,t17):((List Int × (List (List Int) × (Int × (Int × (Int × (Int × (Int × (Int × Int)))))))) × (List Int × (Int × (Int × (List (List Int × (Int × (Int × (Bool × (List Int × List Int))))) × (List Int × (List (Bool × (List Int × List Int)) × (Int × (List (List (Bool × (List Int × List Int))) × (Int × (Int × (Int × (Int × (List (List (Bool × (List Int × List Int)) × (List (Bool × (List Int × List Int)) × ((Bool × (List Int × List Int)) × ((Bool × (List Int × List Int)) × ((Bool × (List Int × List Int)) × (List Int × (List Int × List Int))))))) × List Int)))))))))))))) × (List (Bool × (List Int × List Int)) × (List (Bool × (List Int × List Int)) × ((Bool × (List Int × List Int)) × ((Bool × (List Int × List Int)) × ((Bool × (List Int × List Int)) × (List Int × (List Int × List Int))))))) × Bool × (List Int) × (List Int) × Int × Int) =>
   bif (decide (t17 < t16)) then
    letJ (fun ((t0_2,t1_2,t3_2,t9_2,t15_2,t16_2,t17_2):((List Int × (List (List Int) × (Int × (Int × (Int × (Int × (Int × (Int × Int)))))))) × (List Int × (Int × (Int × (List (List Int × (Int × (Int × (Bool × (List Int × List Int))))) × (List Int × (List (Bool × (List Int × List Int)) × (Int × (List (List (Bool × (List Int × List Int))) × (Int × (Int × (Int × (Int × (List (List (Bool × (List Int × List Int)) × (List (Bool × (List Int × List Int)) × ((Bool × (List Int × List Int)) × ((Bool × (List Int × List Int)) × ((Bool × (List Int × List Int)) × (List Int × (List Int × List Int))))))) × List Int)))))))))))))) × (List (Bool × (List Int × List Int)) × (List (Bool × (List Int × List Int)) × ((Bool × (List Int × List Int)) × ((Bool × (List Int × List Int)) × ((Bool × (List Int × List Int)) × (List Int × (List Int × List Int))))))) × Bool × (List Int) × (List Int) × Int × Int) =>
      some (Sum.inl (t0_2,t1_2,t3_2,t9_2,t15_2,t16_2,(w (t17_2+1))))) fun j__1 =>
    bif (decide (0≤t17) && decide (t17 < (t15.length:Int))) then
     letJ (fun ((t0_1,t1_1,t3_1,t9_1,t11,t12,t15_1,t16_1,t17_1):((List Int × (List (List Int) × (Int × (Int × (Int × (Int × (Int × (Int × Int)))))))) × (List Int × (Int × (Int × (List (List Int × (Int × (Int × (Bool × (List Int × List Int))))) × (List Int × (List (Bool × (List Int × List Int)) × (Int × (List (List (Bool × (List Int × List Int))) × (Int × (Int × (Int × (Int × (List (List (Bool × (List Int × List Int)) × (List (Bool × (List Int × List Int)) × ((Bool × (List Int × List Int)) × ((Bool × (List Int × List Int)) × ((Bool × (List Int × List Int)) × (List Int × (List Int × List Int))))))) × List Int)))))))))))))) × (List (Bool × (List Int × List Int)) × (List (Bool × (List Int × List Int)) × ((Bool × (List Int × List Int)) × ((Bool × (List Int × List Int)) × ((Bool × (List Int × List Int)) × (List Int × (List Int × List Int))))))) × Bool × (List Int) × Int × Int × (List Int) × Int × Int) =>
       bif (decide (t12 < 0)) then
        j__1 (t0_1,t1_1,t3_1,[t11],t15_1,t16_1,t17_1)
       else
        bif (decide (t12=0)) then
         bif (decide ((t9_1.length:Int)+(([t11]:List Int).length:Int)≤LIM)) then
          j__1 (t0_1,t1_1,t3_1,(t9_1++[t11]),t15_1,t16_1,t17_1)
         else none
        else
         j__1 (t0_1,t1_1,t3_1,t9_1,t15_1,t16_1,t17_1)) fun j_ =>
     bif (decide (0 < (t9.length:Int))) then
      bif (decide (0≤(List.getD t15 (Int.toNat t17) 0)) && decide ((List.getD t15 (Int.toNat t17) 0) < (t1.1.length:Int))) then
       bif (decide (0≤0) && decide (0 < (t9.length:Int))) then
        bif (decide (0≤(List.getD t9 0 0)) && decide ((List.getD t9 0 0) < (t1.1.length:Int))) then
         (d137 (List.getD t1.1 (Int.toNat (List.getD t15 (Int.toNat t17) 0)) (false,[],[])) (List.getD t1.1 (Int.toNat (List.getD t9 0 0)) (false,[],[]))).bind fun r =>
         bif !t3 then
          j_ (t0,t1,t3,t9,(List.getD t15 (Int.toNat t17) 0),(w (0 - r)),t15,t16,t17)
         else
          j_ (t0,t1,t3,t9,(List.getD t15 (Int.toNat t17) 0),r,t15,t16,t17)
        else none
       else none
      else none
     else
      j_ (t0,t1,t3,t9,(List.getD t15 (Int.toNat t17) 0),(-1),t15,t16,t17)
    else none
   else
    some (Sum.inr (t0,t1,t3,t9))) (p0,p1,p3,[],p2,(p2.length:Int),0)).bind fun ((t0_3,t1_3,t3_3,t9_3):((List Int × (List (List Int) × (Int × (Int × (Int × (Int × (Int × (Int × Int)))))))) × (List Int × (Int × (Int × (List (List Int × (Int × (Int × (Bool × (List Int × List Int))))) × (List Int × (List (Bool × (List Int × List Int)) × (Int × (List (List (Bool × (List Int × List Int))) × (Int × (Int × (Int × (Int × (List (List (Bool × (List Int × List Int)) × (List (Bool × (List Int × List Int)) × ((Bool × (List Int × List Int)) × ((Bool × (List Int × List Int)) × ((Bool × (List Int × List Int)) × (List Int × (List Int × List Int))))))) × List Int)))))))))))))) × (List (Bool × (List Int × List Int)) × (List (Bool × (List Int × List Int)) × ((Bool × (List Int × List Int)) × ((Bool × (List Int × List Int)) × ((Bool × (List Int × List Int)) × (List Int × (List Int × List Int))))))) × Bool × (List Int)) =>
 bif (decide ((t9_3.length:Int)=1)) then
  bif (decide (0≤0) && decide (0 < (t9_3.length:Int))) then
   some ((List.getD t9_3 0 0),t0_3,t1_3)
  else none
 else
  (d155 t0_3.1.2.2.2.2.2.2.1 t0_3.2.2.2.2.2.2.2.2.1 t9_3 t0_3.2.1 t3_3).bind fun r_1 =>
  some (r_1.1,(t0_3.1,t0_3.2.1,t0_3.2.2.1,t0_3.2.2.2.1,t0_3.2.2.2.2.1,t0_3.2.2.2.2.2.1,t0_3.2.2.2.2.2.2.1,t0_3.2.2.2.2.2.2.2.1,r_1.2.2,t0_3.2.2.2.2.2.2.2.2.2),(t1_3.1,t1_3.2.1,t1_3.2.2.1,t1_3.2.2.2.1,t1_3.2.2.2.2.1,t1_3.2.2.2.2.2.1,t1_3.2.2.2.2.2.2.1,t9_3))
def sg178:Sig:=⟨[(y94,(.io (.own 0 (.pr .sh (.pr .sh (.pr .sh (.pr .sh (.pr (.own 100 .sh) (.pr (.own 3 .sh) (.pr (.own 57 .sh) (.pr .sh (.pr (.own 53 .sh) (.pr .sh (.pr .sh (.pr .sh (.pr .sh (.pr (.own 59 .sh) (.own 3 .sh)))))))))))))))))),(y154,(.io (.own 0 (.pr .sh (.pr .sh (.pr .sh (.pr .sh (.pr .sh (.pr (.own 3 .sh) (.pr .sh .sh)))))))))),(y26,.sh),(y4,.sh)],[(y2,.sh)]⟩
def plan178:Plan:=(.seq (.reg [] []) (.seq (.reg [] [{ fl:=2 }]) (.seq (.seq (.reg [] []) (.block (.loop [(0,.v y94 (.own 0 (.pr .sh (.pr .sh (.pr .sh (.pr .sh (.pr (.own 100 .sh) (.pr (.own 3 .sh) (.pr (.own 57 .sh) (.pr .sh (.pr (.own 53 .sh) (.pr .sh (.pr .sh (.pr .sh (.pr .sh (.pr (.own 59 .sh) (.own 3 .sh))))))))))))))))),(1,.v y154 (.own 0 (.pr .sh (.pr .sh (.pr .sh (.pr .sh (.pr .sh (.pr (.own 3 .sh) (.pr .sh .sh))))))))),(3,.v y4 .sh),(9,.v y26 (.own 3 .sh)),(15,.v y26 .sh),(16,.v y2 .sh),(17,.v y2 .sh)] [(.brk 0,[(0,.v y94 (.own 0 (.pr .sh (.pr .sh (.pr .sh (.pr .sh (.pr (.own 100 .sh) (.pr (.own 3 .sh) (.pr (.own 57 .sh) (.pr .sh (.pr (.own 53 .sh) (.pr .sh (.pr .sh (.pr .sh (.pr .sh (.pr (.own 59 .sh) (.own 3 .sh))))))))))))))))),(1,.v y154 (.own 0 (.pr .sh (.pr .sh (.pr .sh (.pr .sh (.pr .sh (.pr (.own 3 .sh) (.pr .sh .sh))))))))),(3,.v y4 .sh),(9,.v y26 (.own 3 .sh))])] (.seq (.reg [] []) (.seq (.cond .nil .nil) (.join (.block (.seq (.reg [] []) (.seq (.reg [] []) (.join (.seq (.reg [] []) (.cond (.seq (.reg [] []) (.seq (.reg [] []) (.cond (.reg [] []) .nil))) .nil)) [(0,.v y94 (.own 0 (.pr .sh (.pr .sh (.pr .sh (.pr .sh (.pr (.own 100 .sh) (.pr (.own 3 .sh) (.pr (.own 57 .sh) (.pr .sh (.pr (.own 53 .sh) (.pr .sh (.pr .sh (.pr .sh (.pr .sh (.pr (.own 59 .sh) (.own 3 .sh))))))))))))))))),(1,.v y154 (.own 0 (.pr .sh (.pr .sh (.pr .sh (.pr .sh (.pr .sh (.pr (.own 3 .sh) (.pr .sh .sh))))))))),(3,.v y4 .sh),(9,.v y26 (.own 3 .sh)),(11,.v y2 .sh),(12,.v y2 .sh),(15,.v y26 .sh),(16,.v y2 .sh),(17,.v y2 .sh)] (.block (.seq (.reg [] []) (.cond (.reg [] []) (.seq (.reg [] []) (.cond (.reg [] []) .nil))))))))) [(0,.v y94 (.own 0 (.pr .sh (.pr .sh (.pr .sh (.pr .sh (.pr (.own 100 .sh) (.pr (.own 3 .sh) (.pr (.own 57 .sh) (.pr .sh (.pr (.own 53 .sh) (.pr .sh (.pr .sh (.pr .sh (.pr .sh (.pr (.own 59 .sh) (.own 3 .sh))))))))))))))))),(1,.v y154 (.own 0 (.pr .sh (.pr .sh (.pr .sh (.pr .sh (.pr .sh (.pr (.own 3 .sh) (.pr .sh .sh))))))))),(3,.v y4 .sh),(9,.v y26 (.own 3 .sh)),(15,.v y26 .sh),(16,.v y2 .sh),(17,.v y2 .sh)] (.reg [] []))))))) (.seq (.seq (.reg [] []) (.cond (.seq (.reg [] []) .nil) .nil)) (.seq (.reg [(9,[])] []) (.seq (.reg [] [{},{},{},{},{},{},{},{},{},{},{},{},{},{},{},{},{ fl:=1 }]) (.seq (.reg [] []) .nil)))))))
theorem ev178 (xs:Vals (ptys sg178.ps)):evF (P:=Tryz.prog) tab [.fn E137,.fn E155] sg178 Tryz.f178.results.toList (code Tryz.f178) plan178 xs=d178 xs.1 xs.2.1 xs.2.2.1 xs.2.2.2.1:=by kernel_rfl
theorem sim178:Sim Tryz.prog 178 sg178 d178:=sim_ev mixd tabOK Tryz.func178 (code_of rfl) Tryz.call178 (Nat.le_of_ble_eq_true (by kernel_rfl)) (by kernel_rfl) plan178 _ fun xs y h=>(ev178 xs).trans h
noncomputable def E178:FnE Tryz.prog:=⟨178,sg178,d178,sim178⟩
noncomputable def d180 (p0:((List Int × (List (List Int) × (Int × (Int × (Int × (Int × (Int × (Int × Int)))))))) × (List Int × (Int × (Int × (List (List Int × (Int × (Int × (Bool × (List Int × List Int))))) × (List Int × (List (Bool × (List Int × List Int)) × (Int × (List (List (Bool × (List Int × List Int))) × (Int × (Int × (Int × (Int × (List (List (Bool × (List Int × List Int)) × (List (Bool × (List Int × List Int)) × ((Bool × (List Int × List Int)) × ((Bool × (List Int × List Int)) × ((Bool × (List Int × List Int)) × (List Int × (List Int × List Int))))))) × List Int))))))))))))))) (p1:Int) (p2:(Bool × (List Int × List Int))):Option ((List Int × (List (List Int) × (Int × (Int × (Int × (Int × (Int × (Int × Int)))))))) × (List Int × (Int × (Int × (List (List Int × (Int × (Int × (Bool × (List Int × List Int))))) × (List Int × (List (Bool × (List Int × List Int)) × (Int × (List (List (Bool × (List Int × List Int))) × (Int × (Int × (Int × (Int × (List (List (Bool × (List Int × List Int)) × (List (Bool × (List Int × List Int)) × ((Bool × (List Int × List Int)) × ((Bool × (List Int × List Int)) × ((Bool × (List Int × List Int)) × (List Int × (List Int × List Int))))))) × List Int)))))))))))))) :=
 (whileO (β:=((List Int × (List (List Int) × (Int × (Int × (Int × (Int × (Int × (Int × Int)))))))) × (List Int × (Int × (Int × (List (List Int × (Int × (Int × (Bool × (List Int × List Int))))) × (List Int × (List (Bool × (List Int × List Int)) × (Int × (List (List (Bool × (List Int × List Int))) × (Int × (Int × (Int × (Int × (List (List (Bool × (List Int × List Int)) × (List (Bool × (List Int × List Int)) × ((Bool × (List Int × List Int)) × ((Bool × (List Int × List Int)) × ((Bool × (List Int × List Int)) × (List Int × (List Int × List Int))))))) × List Int))))))))))))))) (fun ((t0,t1,t5,t12,t13):((List Int × (List (List Int) × (Int × (Int × (Int × (Int × (Int × (Int × Int)))))))) × (List Int × (Int × (Int × (List (List Int × (Int × (Int × (Bool × (List Int × List Int))))) × (List Int × (List (Bool × (List Int × List Int)) × (Int × (List (List (Bool × (List Int × List Int))) × (Int × (Int × (Int × (Int × (List (List (Bool × (List Int × List Int)) × (List (Bool × (List Int × List Int)) × ((Bool × (List Int × List Int)) × ((Bool × (List Int × List Int)) × ((Bool × (List Int × List Int)) × (List Int × (List Int × List Int))))))) × List Int)))))))))))))) × Int × (Bool × (List Int × List Int)) × Int × Int) =>
   bif (decide (t13 < t12)) then
    letJ (fun ((t0_5,t1_5,t5_5,t12_5,t13_5):((List Int × (List (List Int) × (Int × (Int × (Int × (Int × (Int × (Int × Int)))))))) × (List Int × (Int × (Int × (List (List Int × (Int × (Int × (Bool × (List Int × List Int))))) × (List Int × (List (Bool × (List Int × List Int)) × (Int × (List (List (Bool × (List Int × List Int))) × (Int × (Int × (Int × (Int × (List (List (Bool × (List Int × List Int)) × (List (Bool × (List Int × List Int)) × ((Bool × (List Int × List Int)) × ((Bool × (List Int × List Int)) × ((Bool × (List Int × List Int)) × (List Int × (List Int × List Int))))))) × List Int)))))))))))))) × Int × (Bool × (List Int × List Int)) × Int × Int) =>
      some (Sum.inl (t0_5,t1_5,t5_5,t12_5,(w (t13_5+1))))) fun j__2 =>
    bif (decide (0≤t13) && decide (t13 < (t0.2.2.2.2.1.length:Int))) then
     letJ (fun ((t0_1,t1_1,t5_1,t7x,t12_1,t13_1,t45):((List Int × (List (List Int) × (Int × (Int × (Int × (Int × (Int × (Int × Int)))))))) × (List Int × (Int × (Int × (List (List Int × (Int × (Int × (Bool × (List Int × List Int))))) × (List Int × (List (Bool × (List Int × List Int)) × (Int × (List (List (Bool × (List Int × List Int))) × (Int × (Int × (Int × (Int × (List (List (Bool × (List Int × List Int)) × (List (Bool × (List Int × List Int)) × ((Bool × (List Int × List Int)) × ((Bool × (List Int × List Int)) × ((Bool × (List Int × List Int)) × (List Int × (List Int × List Int))))))) × List Int)))))))))))))) × Int × (Bool × (List Int × List Int)) × Int × Int × Int × Bool) =>
       bif t45 then
        j__2 (t0_1,t1_1,t5_1,t12_1,t13_1)
       else
        (d172 ((((List.getD t0_1.2.2.2.2.1 (Int.toNat t7x) ([],0,0,false,[],[])).2).2).2) t5_1).bind fun r =>
        (whileO (β:=(((List Int × (List (List Int) × (Int × (Int × (Int × (Int × (Int × (Int × Int)))))))) × (List Int × (Int × (Int × (List (List Int × (Int × (Int × (Bool × (List Int × List Int))))) × (List Int × (List (Bool × (List Int × List Int)) × (Int × (List (List (Bool × (List Int × List Int))) × (Int × (Int × (Int × (Int × (List (List (Bool × (List Int × List Int)) × (List (Bool × (List Int × List Int)) × ((Bool × (List Int × List Int)) × ((Bool × (List Int × List Int)) × ((Bool × (List Int × List Int)) × (List Int × (List Int × List Int))))))) × List Int)))))))))))))) × Int × (Bool × (List Int × List Int)) × Int × Int)) (fun ((t0_2,t1_2,t5_2,t7x_1,t12_2,t13_2):((List Int × (List (List Int) × (Int × (Int × (Int × (Int × (Int × (Int × Int)))))))) × (List Int × (Int × (Int × (List (List Int × (Int × (Int × (Bool × (List Int × List Int))))) × (List Int × (List (Bool × (List Int × List Int)) × (Int × (List (List (Bool × (List Int × List Int))) × (Int × (Int × (Int × (Int × (List (List (Bool × (List Int × List Int)) × (List (Bool × (List Int × List Int)) × ((Bool × (List Int × List Int)) × ((Bool × (List Int × List Int)) × ((Bool × (List Int × List Int)) × (List Int × (List Int × List Int))))))) × List Int)))))))))))))) × Int × (Bool × (List Int × List Int)) × Int × Int × Int) =>
          letJ (fun ((t0_3,t1_3,t5_3,t7x_2,t12_3,t13_3,t90):((List Int × (List (List Int) × (Int × (Int × (Int × (Int × (Int × (Int × Int)))))))) × (List Int × (Int × (Int × (List (List Int × (Int × (Int × (Bool × (List Int × List Int))))) × (List Int × (List (Bool × (List Int × List Int)) × (Int × (List (List (Bool × (List Int × List Int))) × (Int × (Int × (Int × (Int × (List (List (Bool × (List Int × List Int)) × (List (Bool × (List Int × List Int)) × ((Bool × (List Int × List Int)) × ((Bool × (List Int × List Int)) × ((Bool × (List Int × List Int)) × (List Int × (List Int × List Int))))))) × List Int)))))))))))))) × Int × (Bool × (List Int × List Int)) × Int × Int × Int × Bool) =>
            bif t90 then
             some (Sum.inl ((t0_3.1,t0_3.2.1,t0_3.2.2.1,t0_3.2.2.2.1,(List.set t0_3.2.2.2.2.1 (Int.toNat t7x_2) ((List.getD t0_3.2.2.2.2.1 (Int.toNat t7x_2) ([],0,0,false,[],[])).1,((List.getD t0_3.2.2.2.2.1 (Int.toNat t7x_2) ([],0,0,false,[],[])).2).1,(w (((((List.getD t0_3.2.2.2.2.1 (Int.toNat t7x_2) ([],0,0,false,[],[])).2).2).1)+1)),(((List.getD t0_3.2.2.2.2.1 (Int.toNat t7x_2) ([],0,0,false,[],[])).2).2).2)),t0_3.2.2.2.2.2),t1_3,t5_3,(((Int.toNat t7x_2):Nat):Int),t12_3,t13_3))
            else
             some (Sum.inr (t0_3,t1_3,t5_3,t12_3,t13_3))) fun j__1 =>
          bif (decide ((((List.getD t0_2.2.2.2.2.1 (Int.toNat t7x_1) ([],0,0,false,[],[])).2).2).1 < (((List.getD t0_2.2.2.2.2.1 (Int.toNat t7x_1) ([],0,0,false,[],[])).1).length:Int))) then
           bif (decide (0≤(((List.getD t0_2.2.2.2.2.1 (Int.toNat t7x_1) ([],0,0,false,[],[])).2).2).1) && decide ((((List.getD t0_2.2.2.2.2.1 (Int.toNat t7x_1) ([],0,0,false,[],[])).2).2).1 < (((List.getD t0_2.2.2.2.2.1 (Int.toNat t7x_1) ([],0,0,false,[],[])).1).length:Int))) then
            bif (decide (0≤(List.getD ((List.getD t0_2.2.2.2.2.1 (Int.toNat t7x_1) ([],0,0,false,[],[])).1) (Int.toNat ((((List.getD t0_2.2.2.2.2.1 (Int.toNat t7x_1) ([],0,0,false,[],[])).2).2).1)) 0)) && decide ((List.getD ((List.getD t0_2.2.2.2.2.1 (Int.toNat t7x_1) ([],0,0,false,[],[])).1) (Int.toNat ((((List.getD t0_2.2.2.2.2.1 (Int.toNat t7x_1) ([],0,0,false,[],[])).2).2).1)) 0) < (t0_2.2.2.2.2.2.1.length:Int))) then
             j__1 (t0_2,t1_2,t5_2,(((Int.toNat t7x_1):Nat):Int),t12_2,t13_2,!(decide ((List.getD t0_2.2.2.2.2.2.1 (Int.toNat (List.getD ((List.getD t0_2.2.2.2.2.1 (Int.toNat t7x_1) ([],0,0,false,[],[])).1) (Int.toNat ((((List.getD t0_2.2.2.2.2.1 (Int.toNat t7x_1) ([],0,0,false,[],[])).2).2).1)) 0)) 0)=0)))
            else none
           else none
          else
           j__1 (t0_2,t1_2,t5_2,(((Int.toNat t7x_1):Nat):Int),t12_2,t13_2,false)) ((t0_1.1,t0_1.2.1,t0_1.2.2.1,t0_1.2.2.2.1,(List.set (List.set t0_1.2.2.2.2.1 (Int.toNat t7x) ((List.getD t0_1.2.2.2.2.1 (Int.toNat t7x) ([],0,0,false,[],[])).1,((List.getD t0_1.2.2.2.2.1 (Int.toNat t7x) ([],0,0,false,[],[])).2).1,(((List.getD t0_1.2.2.2.2.1 (Int.toNat t7x) ([],0,0,false,[],[])).2).2).1,r)) (Int.toNat t7x) ((List.getD (List.set t0_1.2.2.2.2.1 (Int.toNat t7x) ((List.getD t0_1.2.2.2.2.1 (Int.toNat t7x) ([],0,0,false,[],[])).1,((List.getD t0_1.2.2.2.2.1 (Int.toNat t7x) ([],0,0,false,[],[])).2).1,(((List.getD t0_1.2.2.2.2.1 (Int.toNat t7x) ([],0,0,false,[],[])).2).2).1,r)) (Int.toNat t7x) ([],0,0,false,[],[])).1,((List.getD (List.set t0_1.2.2.2.2.1 (Int.toNat t7x) ((List.getD t0_1.2.2.2.2.1 (Int.toNat t7x) ([],0,0,false,[],[])).1,((List.getD t0_1.2.2.2.2.1 (Int.toNat t7x) ([],0,0,false,[],[])).2).1,(((List.getD t0_1.2.2.2.2.1 (Int.toNat t7x) ([],0,0,false,[],[])).2).2).1,r)) (Int.toNat t7x) ([],0,0,false,[],[])).2).1,(w (((((List.getD (List.set t0_1.2.2.2.2.1 (Int.toNat t7x) ((List.getD t0_1.2.2.2.2.1 (Int.toNat t7x) ([],0,0,false,[],[])).1,((List.getD t0_1.2.2.2.2.1 (Int.toNat t7x) ([],0,0,false,[],[])).2).1,(((List.getD t0_1.2.2.2.2.1 (Int.toNat t7x) ([],0,0,false,[],[])).2).2).1,r)) (Int.toNat t7x) ([],0,0,false,[],[])).2).2).1)+1)),(((List.getD (List.set t0_1.2.2.2.2.1 (Int.toNat t7x) ((List.getD t0_1.2.2.2.2.1 (Int.toNat t7x) ([],0,0,false,[],[])).1,((List.getD t0_1.2.2.2.2.1 (Int.toNat t7x) ([],0,0,false,[],[])).2).1,(((List.getD t0_1.2.2.2.2.1 (Int.toNat t7x) ([],0,0,false,[],[])).2).2).1,r)) (Int.toNat t7x) ([],0,0,false,[],[])).2).2).2)),t0_1.2.2.2.2.2),t1_1,t5_1,(((Int.toNat t7x):Nat):Int),t12_1,t13_1)).bind fun ((t0_4,t1_4,t5_4,t12_4,t13_4):((List Int × (List (List Int) × (Int × (Int × (Int × (Int × (Int × (Int × Int)))))))) × (List Int × (Int × (Int × (List (List Int × (Int × (Int × (Bool × (List Int × List Int))))) × (List Int × (List (Bool × (List Int × List Int)) × (Int × (List (List (Bool × (List Int × List Int))) × (Int × (Int × (Int × (Int × (List (List (Bool × (List Int × List Int)) × (List (Bool × (List Int × List Int)) × ((Bool × (List Int × List Int)) × ((Bool × (List Int × List Int)) × ((Bool × (List Int × List Int)) × (List Int × (List Int × List Int))))))) × List Int)))))))))))))) × Int × (Bool × (List Int × List Int)) × Int × Int) =>
        j__2 (t0_4,t1_4,t5_4,t12_4,t13_4)) fun j_ =>
     bif !(decide ((((List.getD t0.2.2.2.2.1 (Int.toNat t13) ([],0,0,false,[],[])).1).length:Int)≤(((List.getD t0.2.2.2.2.1 (Int.toNat t13) ([],0,0,false,[],[])).2).2).1)) then
      bif (decide (0≤(((List.getD t0.2.2.2.2.1 (Int.toNat t13) ([],0,0,false,[],[])).2).2).1) && decide ((((List.getD t0.2.2.2.2.1 (Int.toNat t13) ([],0,0,false,[],[])).2).2).1 < (((List.getD t0.2.2.2.2.1 (Int.toNat t13) ([],0,0,false,[],[])).1).length:Int))) then
       j_ (t0,t1,t5,(((Int.toNat t13):Nat):Int),t12,t13,!(decide ((List.getD ((List.getD t0.2.2.2.2.1 (Int.toNat t13) ([],0,0,false,[],[])).1) (Int.toNat ((((List.getD t0.2.2.2.2.1 (Int.toNat t13) ([],0,0,false,[],[])).2).2).1)) 0)=t1)))
      else none
     else
      j_ (t0,t1,t5,(((Int.toNat t13):Nat):Int),t12,t13,true)
    else none
   else
    some (Sum.inr t0)) (p0,p1,p2,(p0.2.2.2.2.1.length:Int),0)).bind fun (t0_6:((List Int × (List (List Int) × (Int × (Int × (Int × (Int × (Int × (Int × Int)))))))) × (List Int × (Int × (Int × (List (List Int × (Int × (Int × (Bool × (List Int × List Int))))) × (List Int × (List (Bool × (List Int × List Int)) × (Int × (List (List (Bool × (List Int × List Int))) × (Int × (Int × (Int × (Int × (List (List (Bool × (List Int × List Int)) × (List (Bool × (List Int × List Int)) × ((Bool × (List Int × List Int)) × ((Bool × (List Int × List Int)) × ((Bool × (List Int × List Int)) × (List Int × (List Int × List Int))))))) × List Int))))))))))))))) =>
 some t0_6
def sg180:Sig:=⟨[(y94,(.io (.own 0 (.pr .sh (.pr .sh (.pr .sh (.pr .sh (.pr (.own 100 .sh) (.pr (.own 3 .sh) (.pr (.own 57 .sh) (.pr .sh (.pr (.own 53 .sh) (.pr .sh (.pr .sh (.pr .sh (.pr .sh (.pr (.own 59 .sh) (.own 3 .sh)))))))))))))))))),(y2,.sh),(y57,.sh)],[]⟩
def plan180:Plan:=(.seq (.reg [] []) (.seq (.reg [] []) (.block (.loop [(0,.v y94 (.own 0 (.pr .sh (.pr .sh (.pr .sh (.pr .sh (.pr (.own 100 .sh) (.pr (.own 3 .sh) (.pr (.own 57 .sh) (.pr .sh (.pr (.own 53 .sh) (.pr .sh (.pr .sh (.pr .sh (.pr .sh (.pr (.own 59 .sh) (.own 3 .sh))))))))))))))))),(1,.v y2 .sh),(5,.v (.ptr y57) (.own 0 .sh)),(12,.v y2 .sh),(13,.v y2 .sh)] [(.brk 0,[(0,.v y94 (.own 0 (.pr .sh (.pr .sh (.pr .sh (.pr .sh (.pr (.own 100 .sh) (.pr (.own 3 .sh) (.pr (.own 57 .sh) (.pr .sh (.pr (.own 53 .sh) (.pr .sh (.pr .sh (.pr .sh (.pr .sh (.pr (.own 59 .sh) (.own 3 .sh)))))))))))))))))])] (.seq (.reg [] []) (.seq (.cond .nil .nil) (.join (.block (.seq (.reg [] []) (.seq (.reg [] []) (.seq (.join (.reg [] []) [(0,.v y94 (.own 0 (.pr .sh (.pr .sh (.pr .sh (.pr .sh (.pr (.own 100 .sh) (.pr (.own 3 .sh) (.pr (.own 57 .sh) (.pr .sh (.pr (.own 53 .sh) (.pr .sh (.pr .sh (.pr .sh (.pr .sh (.pr (.own 59 .sh) (.own 3 .sh))))))))))))))))),(1,.v y2 .sh),(5,.v (.ptr y57) (.own 0 .sh)),(7,.refi 0 [0,1,1,1,1,0] []),(12,.v y2 .sh),(13,.v y2 .sh),(45,.v y4 .sh)] (.cond .nil .nil)) (.seq (.reg [] []) (.seq (.reg [] []) (.block (.loop [(0,.v y94 (.own 0 (.pr .sh (.pr .sh (.pr .sh (.pr .sh (.pr (.own 100 .sh) (.pr (.own 3 .sh) (.pr (.own 57 .sh) (.pr .sh (.pr (.own 53 .sh) (.pr .sh (.pr .sh (.pr .sh (.pr .sh (.pr (.own 59 .sh) (.own 3 .sh))))))))))))))))),(1,.v y2 .sh),(5,.v (.ptr y57) (.own 0 .sh)),(7,.refi 0 [0,1,1,1,1,0] []),(12,.v y2 .sh),(13,.v y2 .sh)] [(.brk 2,[(0,.v y94 (.own 0 (.pr .sh (.pr .sh (.pr .sh (.pr .sh (.pr (.own 100 .sh) (.pr (.own 3 .sh) (.pr (.own 57 .sh) (.pr .sh (.pr (.own 53 .sh) (.pr .sh (.pr .sh (.pr .sh (.pr .sh (.pr (.own 59 .sh) (.own 3 .sh))))))))))))))))),(1,.v y2 .sh),(5,.v (.ptr y57) (.own 0 .sh)),(12,.v y2 .sh),(13,.v y2 .sh)])] (.seq (.join (.reg [] []) [(0,.v y94 (.own 0 (.pr .sh (.pr .sh (.pr .sh (.pr .sh (.pr (.own 100 .sh) (.pr (.own 3 .sh) (.pr (.own 57 .sh) (.pr .sh (.pr (.own 53 .sh) (.pr .sh (.pr .sh (.pr .sh (.pr .sh (.pr (.own 59 .sh) (.own 3 .sh))))))))))))))))),(1,.v y2 .sh),(5,.v (.ptr y57) (.own 0 .sh)),(7,.refi 0 [0,1,1,1,1,0] []),(12,.v y2 .sh),(13,.v y2 .sh),(90,.v y4 .sh)] (.cond .nil .nil)) (.block (.reg [] []))))))))))) [(0,.v y94 (.own 0 (.pr .sh (.pr .sh (.pr .sh (.pr .sh (.pr (.own 100 .sh) (.pr (.own 3 .sh) (.pr (.own 57 .sh) (.pr .sh (.pr (.own 53 .sh) (.pr .sh (.pr .sh (.pr .sh (.pr .sh (.pr (.own 59 .sh) (.own 3 .sh))))))))))))))))),(1,.v y2 .sh),(5,.v (.ptr y57) (.own 0 .sh)),(12,.v y2 .sh),(13,.v y2 .sh)] (.reg [] []))))))))
theorem ev180 (xs:Vals (ptys sg180.ps)):evF (P:=Tryz.prog) tab [.fn E172] sg180 Tryz.f180.results.toList (code Tryz.f180) plan180 xs=d180 xs.1 xs.2.1 xs.2.2.1:=by kernel_rfl
theorem sim180:Sim Tryz.prog 180 sg180 d180:=sim_ev mixd tabOK Tryz.func180 (code_of rfl) Tryz.call180 (Nat.le_of_ble_eq_true (by kernel_rfl)) (by kernel_rfl) plan180 _ fun xs y h=>(ev180 xs).trans h
noncomputable def E180:FnE Tryz.prog:=⟨180,sg180,d180,sim180⟩
noncomputable def d139 (k:((List Int × (List (List Int) × (Int × (Int × (Int × (Int × (Int × (Int × Int)))))))) × (List Int × (Int × (Int × (List (List Int × (Int × (Int × (Bool × (List Int × List Int))))) × (List Int × (List (Bool × (List Int × List Int)) × (Int × (List (List (Bool × (List Int × List Int))) × (Int × (Int × (Int × (Int × (List (List (Bool × (List Int × List Int)) × (List (Bool × (List Int × List Int)) × ((Bool × (List Int × List Int)) × ((Bool × (List Int × List Int)) × ((Bool × (List Int × List Int)) × (List Int × (List Int × List Int))))))) × List Int))))))))))))))) (r:(List (Bool × (List Int × List Int)) × (List (Bool × (List Int × List Int)) × ((Bool × (List Int × List Int)) × ((Bool × (List Int × List Int)) × ((Bool × (List Int × List Int)) × (List Int × (List Int × List Int)))))))):Option (((List Int × (List (List Int) × (Int × (Int × (Int × (Int × (Int × (Int × Int)))))))) × (List Int × (Int × (Int × (List (List Int × (Int × (Int × (Bool × (List Int × List Int))))) × (List Int × (List (Bool × (List Int × List Int)) × (Int × (List (List (Bool × (List Int × List Int))) × (Int × (Int × (Int × (Int × (List (List (Bool × (List Int × List Int)) × (List (Bool × (List Int × List Int)) × ((Bool × (List Int × List Int)) × ((Bool × (List Int × List Int)) × ((Bool × (List Int × List Int)) × (List Int × (List Int × List Int))))))) × List Int)))))))))))))) × (List (Bool × (List Int × List Int)) × (List (Bool × (List Int × List Int)) × ((Bool × (List Int × List Int)) × ((Bool × (List Int × List Int)) × ((Bool × (List Int × List Int)) × (List Int × (List Int × List Int)))))))) :=
 (d135 k 1).bind fun r_1 =>
 (d178 k r r_1 false).bind fun r_2 =>
 bif (decide (0≤r_2.1) && decide (r_2.1 < (r_2.2.2.1.length:Int))) then
  (d68 r_2.2.1.2.2.2.1).bind fun r_3 =>
  (d132 (List.getD r_2.2.2.1 (Int.toNat r_2.1) (false,[],[])) r_3).bind fun r_4 =>
  bif (decide (0≤r_2.1) && decide (r_2.1 < (r_2.2.2.1.length:Int))) then
   (d179 r_4 (List.getD r_2.2.2.1 (Int.toNat r_2.1) (false,[],[]))).bind fun r_5 =>
   (d180 r_2.2.1 r_2.1 r_5.1).bind fun r_6 =>
   bif (decide (0≤r_2.1) && decide (r_2.1 < (r_6.2.2.2.2.2.1.length:Int))) then
    bif (decide (0≤r_2.1) && decide (r_2.1 < (r_6.2.2.2.2.2.2.1.length:Int))) then
     some ((r_6.1,r_6.2.1,r_6.2.2.1,r_6.2.2.2.1,r_6.2.2.2.2.1,(List.set r_6.2.2.2.2.2.1 (Int.toNat r_2.1) 2),(List.set r_6.2.2.2.2.2.2.1 (Int.toNat r_2.1) r_5.1),r_6.2.2.2.2.2.2.2),r_2.2.2)
    else none
   else none
  else none
 else none
def sg139:Sig:=⟨[(y94,(.io (.own 0 (.pr .sh (.pr .sh (.pr .sh (.pr .sh (.pr (.own 100 .sh) (.pr (.own 3 .sh) (.pr (.own 57 .sh) (.pr .sh (.pr (.own 53 .sh) (.pr .sh (.pr .sh (.pr .sh (.pr .sh (.pr (.own 59 .sh) (.own 3 .sh)))))))))))))))))),(y154,(.io (.own 0 (.pr .sh (.pr .sh (.pr .sh (.pr .sh (.pr .sh (.pr (.own 3 .sh) (.pr .sh .sh))))))))))],[]⟩
def plan139:Plan:=(.seq (.reg [] [{},{},{},{},{ frz:=[(11,[])] }]) (.seq (.reg [] []) (.seq (.reg [] [{},{},{},{},{},{},{},{},{},{ fl:=1 }]) (.seq (.reg [] []) (.seq (.reg [] []) (.reg [] []))))))
theorem ev139 (xs:Vals (ptys sg139.ps)):evF (P:=Tryz.prog) tab [.fn E135,.fn E178,.fn E68,.fn E132,.fn E179,.fn E180] sg139 Tryz.f139.results.toList (code Tryz.f139) plan139 xs=d139 xs.1 xs.2.1:=by kernel_rfl
theorem sim139:Sim Tryz.prog 139 sg139 d139:=sim_ev mixd tabOK Tryz.func139 (code_of rfl) Tryz.call139 (Nat.le_of_ble_eq_true (by kernel_rfl)) (by kernel_rfl) plan139 _ fun xs y h=>(ev139 xs).trans h
noncomputable def E139:FnE Tryz.prog:=⟨139,sg139,d139,sim139⟩
noncomputable def d140 (k:((List Int × (List (List Int) × (Int × (Int × (Int × (Int × (Int × (Int × Int)))))))) × (List Int × (Int × (Int × (List (List Int × (Int × (Int × (Bool × (List Int × List Int))))) × (List Int × (List (Bool × (List Int × List Int)) × (Int × (List (List (Bool × (List Int × List Int))) × (Int × (Int × (Int × (Int × (List (List (Bool × (List Int × List Int)) × (List (Bool × (List Int × List Int)) × ((Bool × (List Int × List Int)) × ((Bool × (List Int × List Int)) × ((Bool × (List Int × List Int)) × (List Int × (List Int × List Int))))))) × List Int))))))))))))))) (r:(List (Bool × (List Int × List Int)) × (List (Bool × (List Int × List Int)) × ((Bool × (List Int × List Int)) × ((Bool × (List Int × List Int)) × ((Bool × (List Int × List Int)) × (List Int × (List Int × List Int)))))))):Option (((List Int × (List (List Int) × (Int × (Int × (Int × (Int × (Int × (Int × Int)))))))) × (List Int × (Int × (Int × (List (List Int × (Int × (Int × (Bool × (List Int × List Int))))) × (List Int × (List (Bool × (List Int × List Int)) × (Int × (List (List (Bool × (List Int × List Int))) × (Int × (Int × (Int × (Int × (List (List (Bool × (List Int × List Int)) × (List (Bool × (List Int × List Int)) × ((Bool × (List Int × List Int)) × ((Bool × (List Int × List Int)) × ((Bool × (List Int × List Int)) × (List Int × (List Int × List Int))))))) × List Int)))))))))))))) × (List (Bool × (List Int × List Int)) × (List (Bool × (List Int × List Int)) × ((Bool × (List Int × List Int)) × ((Bool × (List Int × List Int)) × ((Bool × (List Int × List Int)) × (List Int × (List Int × List Int)))))))) :=
 (d135 k 0).bind fun r_1 =>
 (d178 k r r_1 true).bind fun r_2 =>
 bif (decide (0≤r_2.1) && decide (r_2.1 < (r_2.2.1.2.2.2.2.2.1.length:Int))) then
  (d68 0).bind fun r_3 =>
  bif (decide (0≤r_2.1) && decide (r_2.1 < (r_2.2.1.2.2.2.2.2.2.1.length:Int))) then
   (d68 1).bind fun r_4 =>
   (d180 (r_2.2.1.1,r_2.2.1.2.1,r_2.2.1.2.2.1,r_2.2.1.2.2.2.1,r_2.2.1.2.2.2.2.1,(List.set r_2.2.1.2.2.2.2.2.1 (Int.toNat r_2.1) 3),(List.set r_2.2.1.2.2.2.2.2.2.1 (Int.toNat r_2.1) r_3),r_2.2.1.2.2.2.2.2.2.2) r_2.1 r_4).bind fun r_5 =>
   some (r_5,(r_2.2.2.1,r_2.2.2.2.1,r_2.2.2.2.2.1,r_2.2.2.2.2.2.1,r_2.2.2.2.2.2.2.1,r_2.2.2.2.2.2.2.2.1,[r_2.1],r_2.2.2.2.2.2.2.2.2.2))
  else none
 else none
def sg140:Sig:=⟨[(y94,(.io (.own 0 (.pr .sh (.pr .sh (.pr .sh (.pr .sh (.pr (.own 100 .sh) (.pr (.own 3 .sh) (.pr (.own 57 .sh) (.pr .sh (.pr (.own 53 .sh) (.pr .sh (.pr .sh (.pr .sh (.pr .sh (.pr (.own 59 .sh) (.own 3 .sh)))))))))))))))))),(y154,(.io (.own 0 (.pr .sh (.pr .sh (.pr .sh (.pr .sh (.pr .sh (.pr (.own 3 .sh) (.pr .sh .sh))))))))))],[]⟩
def plan140:Plan:=(.seq (.reg [] [{},{},{},{},{ frz:=[(8,[])] }]) (.seq (.reg [] []) (.seq (.reg [(1,[0,1,1,1,1,1,1,0])] []) (.seq (.reg [] []) (.reg [] [])))))
theorem ev140 (xs:Vals (ptys sg140.ps)):evF (P:=Tryz.prog) tab [.fn E135,.fn E178,.fn E68,.fn E180] sg140 Tryz.f140.results.toList (code Tryz.f140) plan140 xs=d140 xs.1 xs.2.1:=by kernel_rfl
theorem sim140:Sim Tryz.prog 140 sg140 d140:=sim_ev mixd tabOK Tryz.func140 (code_of rfl) Tryz.call140 (Nat.le_of_ble_eq_true (by kernel_rfl)) (by kernel_rfl) plan140 _ fun xs y h=>(ev140 xs).trans h
noncomputable def E140:FnE Tryz.prog:=⟨140,sg140,d140,sim140⟩
noncomputable def d69 (p0:((List Int × (List (List Int) × (Int × (Int × (Int × (Int × (Int × (Int × Int)))))))) × (List Int × (Int × (Int × (List (List Int × (Int × (Int × (Bool × (List Int × List Int))))) × (List Int × (List (Bool × (List Int × List Int)) × (Int × (List (List (Bool × (List Int × List Int))) × (Int × (Int × (Int × (Int × (List (List (Bool × (List Int × List Int)) × (List (Bool × (List Int × List Int)) × ((Bool × (List Int × List Int)) × ((Bool × (List Int × List Int)) × ((Bool × (List Int × List Int)) × (List Int × (List Int × List Int))))))) × List Int))))))))))))))):Option (Bool × ((List Int × (List (List Int) × (Int × (Int × (Int × (Int × (Int × (Int × Int)))))))) × (List Int × (Int × (Int × (List (List Int × (Int × (Int × (Bool × (List Int × List Int))))) × (List Int × (List (Bool × (List Int × List Int)) × (Int × (List (List (Bool × (List Int × List Int))) × (Int × (Int × (Int × (Int × (List (List (Bool × (List Int × List Int)) × (List (Bool × (List Int × List Int)) × ((Bool × (List Int × List Int)) × ((Bool × (List Int × List Int)) × ((Bool × (List Int × List Int)) × (List Int × (List Int × List Int))))))) × List Int))))))))))))))) :=
 (d130 p0).bind fun r =>
 (d131 p0.2.2.2.2.2.2.1).bind fun r_1 =>
 (d68 p0.2.2.2.1).bind fun r_2 =>
 (d68 p0.2.2.1).bind fun r_3 =>
 (whileO (β:=(((List Int × (List (List Int) × (Int × (Int × (Int × (Int × (Int × (Int × Int)))))))) × (List Int × (Int × (Int × (List (List Int × (Int × (Int × (Bool × (List Int × List Int))))) × (List Int × (List (Bool × (List Int × List Int)) × (Int × (List (List (Bool × (List Int × List Int))) × (Int × (Int × (Int × (Int × (List (List (Bool × (List Int × List Int)) × (List (Bool × (List Int × List Int)) × ((Bool × (List Int × List Int)) × ((Bool × (List Int × List Int)) × ((Bool × (List Int × List Int)) × (List Int × (List Int × List Int))))))) × List Int)))))))))))))) × (List (Bool × (List Int × List Int)) × (List (Bool × (List Int × List Int)) × ((Bool × (List Int × List Int)) × ((Bool × (List Int × List Int)) × ((Bool × (List Int × List Int)) × (List Int × (List Int × List Int))))))))) (fun ((t0,t3,t29,t30,t31):((List Int × (List (List Int) × (Int × (Int × (Int × (Int × (Int × (Int × Int)))))))) × (List Int × (Int × (Int × (List (List Int × (Int × (Int × (Bool × (List Int × List Int))))) × (List Int × (List (Bool × (List Int × List Int)) × (Int × (List (List (Bool × (List Int × List Int))) × (Int × (Int × (Int × (Int × (List (List (Bool × (List Int × List Int)) × (List (Bool × (List Int × List Int)) × ((Bool × (List Int × List Int)) × ((Bool × (List Int × List Int)) × ((Bool × (List Int × List Int)) × (List Int × (List Int × List Int))))))) × List Int)))))))))))))) × (List (Bool × (List Int × List Int)) × (List (Bool × (List Int × List Int)) × ((Bool × (List Int × List Int)) × ((Bool × (List Int × List Int)) × ((Bool × (List Int × List Int)) × (List Int × (List Int × List Int))))))) × (List (Bool × (List Int × List Int))) × Int × Int) =>
   bif (decide (t31 < t30)) then
    bif (decide (0≤t31) && decide (t31 < (t29.length:Int))) then
     (d132 t3.2.2.2.1 (List.getD t29 (Int.toNat t31) (false,[],[]))).bind fun r_4 =>
     some (Sum.inl (t0,(t3.1,t3.2.1,t3.2.2.1,r_4,t3.2.2.2.2),t29,t30,(w (t31+1))))
    else none
   else
    some (Sum.inr (t0,t3))) (p0,(r,r_1,r_2,r_3,(false,[],[]),[],[],[]),r,(r.length:Int),0)).bind fun ((t0_1,t3_1):((List Int × (List (List Int) × (Int × (Int × (Int × (Int × (Int × (Int × Int)))))))) × (List Int × (Int × (Int × (List (List Int × (Int × (Int × (Bool × (List Int × List Int))))) × (List Int × (List (Bool × (List Int × List Int)) × (Int × (List (List (Bool × (List Int × List Int))) × (Int × (Int × (Int × (Int × (List (List (Bool × (List Int × List Int)) × (List (Bool × (List Int × List Int)) × ((Bool × (List Int × List Int)) × ((Bool × (List Int × List Int)) × ((Bool × (List Int × List Int)) × (List Int × (List Int × List Int))))))) × List Int)))))))))))))) × (List (Bool × (List Int × List Int)) × (List (Bool × (List Int × List Int)) × ((Bool × (List Int × List Int)) × ((Bool × (List Int × List Int)) × ((Bool × (List Int × List Int)) × (List Int × (List Int × List Int)))))))) =>
 (d135 t0_1 0).bind fun r_5 =>
 (d134 r_5 (fun a=>d136 a t3_1)).bind fun r_6 =>
 (d133 t0_1 t3_1 r_6).bind fun r_7 =>
 (d68 0).bind fun r_8 =>
 (d135 r_7.1 1).bind fun r_9 =>
 (whileO (β:=(((List Int × (List (List Int) × (Int × (Int × (Int × (Int × (Int × (Int × Int)))))))) × (List Int × (Int × (Int × (List (List Int × (Int × (Int × (Bool × (List Int × List Int))))) × (List Int × (List (Bool × (List Int × List Int)) × (Int × (List (List (Bool × (List Int × List Int))) × (Int × (Int × (Int × (Int × (List (List (Bool × (List Int × List Int)) × (List (Bool × (List Int × List Int)) × ((Bool × (List Int × List Int)) × ((Bool × (List Int × List Int)) × ((Bool × (List Int × List Int)) × (List Int × (List Int × List Int))))))) × List Int)))))))))))))) × (List (Bool × (List Int × List Int)) × (List (Bool × (List Int × List Int)) × ((Bool × (List Int × List Int)) × ((Bool × (List Int × List Int)) × ((Bool × (List Int × List Int)) × (List Int × (List Int × List Int))))))))) (fun ((t0_2,t3_2,t50,t51,t52):((List Int × (List (List Int) × (Int × (Int × (Int × (Int × (Int × (Int × Int)))))))) × (List Int × (Int × (Int × (List (List Int × (Int × (Int × (Bool × (List Int × List Int))))) × (List Int × (List (Bool × (List Int × List Int)) × (Int × (List (List (Bool × (List Int × List Int))) × (Int × (Int × (Int × (Int × (List (List (Bool × (List Int × List Int)) × (List (Bool × (List Int × List Int)) × ((Bool × (List Int × List Int)) × ((Bool × (List Int × List Int)) × ((Bool × (List Int × List Int)) × (List Int × (List Int × List Int))))))) × List Int)))))))))))))) × (List (Bool × (List Int × List Int)) × (List (Bool × (List Int × List Int)) × ((Bool × (List Int × List Int)) × ((Bool × (List Int × List Int)) × ((Bool × (List Int × List Int)) × (List Int × (List Int × List Int))))))) × (List Int) × Int × Int) =>
   bif (decide (t52 < t51)) then
    bif (decide (0≤t52) && decide (t52 < (t50.length:Int))) then
     bif (decide (0≤(List.getD t50 (Int.toNat t52) 0)) && decide ((List.getD t50 (Int.toNat t52) 0) < (t3_2.1.length:Int))) then
      (d132 (List.getD t3_2.1 (Int.toNat (List.getD t50 (Int.toNat t52) 0)) (false,[],[])) t3_2.2.2.1).bind fun r_10 =>
      (d138 t3_2.2.2.2.2.1 r_10).bind fun r_11 =>
      some (Sum.inl (t0_2,(t3_2.1,t3_2.2.1,t3_2.2.2.1,t3_2.2.2.2.1,r_11,t3_2.2.2.2.2.2),t50,t51,(w (t52+1))))
     else none
    else none
   else
    some (Sum.inr (t0_2,t3_2))) (r_7.1,(r_7.2.1,r_7.2.2.1,r_7.2.2.2.1,r_7.2.2.2.2.1,r_8,r_7.2.2.2.2.2.2),r_9,(r_9.length:Int),0)).bind fun ((t0_3,t3_3):((List Int × (List (List Int) × (Int × (Int × (Int × (Int × (Int × (Int × Int)))))))) × (List Int × (Int × (Int × (List (List Int × (Int × (Int × (Bool × (List Int × List Int))))) × (List Int × (List (Bool × (List Int × List Int)) × (Int × (List (List (Bool × (List Int × List Int))) × (Int × (Int × (Int × (Int × (List (List (Bool × (List Int × List Int)) × (List (Bool × (List Int × List Int)) × ((Bool × (List Int × List Int)) × ((Bool × (List Int × List Int)) × ((Bool × (List Int × List Int)) × (List Int × (List Int × List Int))))))) × List Int)))))))))))))) × (List (Bool × (List Int × List Int)) × (List (Bool × (List Int × List Int)) × ((Bool × (List Int × List Int)) × ((Bool × (List Int × List Int)) × ((Bool × (List Int × List Int)) × (List Int × (List Int × List Int)))))))) =>
 letJ (fun ((t0_4,t3_4,t8):((List Int × (List (List Int) × (Int × (Int × (Int × (Int × (Int × (Int × Int)))))))) × (List Int × (Int × (Int × (List (List Int × (Int × (Int × (Bool × (List Int × List Int))))) × (List Int × (List (Bool × (List Int × List Int)) × (Int × (List (List (Bool × (List Int × List Int))) × (Int × (Int × (Int × (Int × (List (List (Bool × (List Int × List Int)) × (List (Bool × (List Int × List Int)) × ((Bool × (List Int × List Int)) × ((Bool × (List Int × List Int)) × ((Bool × (List Int × List Int)) × (List Int × (List Int × List Int))))))) × List Int)))))))))))))) × (List (Bool × (List Int × List Int)) × (List (Bool × (List Int × List Int)) × ((Bool × (List Int × List Int)) × ((Bool × (List Int × List Int)) × ((Bool × (List Int × List Int)) × (List Int × (List Int × List Int))))))) × Bool) =>
   bif (decide ((t0_4.2.2.2.2.2.2.2.2.1.length:Int)+(([t3_4.1]:List (List (Bool × (List Int × List Int)))).length:Int)≤LIM)) then
    bif (decide ((t0_4.2.2.2.2.2.2.2.2.2.2.2.2.2.1.length:Int)+(([t3_4]:List (List (Bool × (List Int × List Int)) × (List (Bool × (List Int × List Int)) × ((Bool × (List Int × List Int)) × ((Bool × (List Int × List Int)) × ((Bool × (List Int × List Int)) × (List Int × (List Int × List Int)))))))).length:Int)≤LIM)) then
     bif (decide ((t0_4.2.2.2.2.2.2.2.2.2.2.2.2.2.2.length:Int)+(t3_4.2.2.2.2.2.1.length:Int)≤LIM)) then
      some (!t8,(t0_4.1,t0_4.2.1,t0_4.2.2.1,t0_4.2.2.2.1,t0_4.2.2.2.2.1,t0_4.2.2.2.2.2.1,t0_4.2.2.2.2.2.2.1,t0_4.2.2.2.2.2.2.2.1,(t0_4.2.2.2.2.2.2.2.2.1++[t3_4.1]),t0_4.2.2.2.2.2.2.2.2.2.1,t0_4.2.2.2.2.2.2.2.2.2.2.1,t0_4.2.2.2.2.2.2.2.2.2.2.2.1,t0_4.2.2.2.2.2.2.2.2.2.2.2.2.1,(t0_4.2.2.2.2.2.2.2.2.2.2.2.2.2.1++[t3_4]),(t0_4.2.2.2.2.2.2.2.2.2.2.2.2.2.2++t3_4.2.2.2.2.2.1)))
     else none
    else none
   else none) fun j_ =>
 bif (decide (t0_3.2.2.2.2.2.2.2.1=t0_3.1.2.2.2.1)) then
  j_ (t0_3,t3_3,(decide (t0_3.2.2.2.2.2.2.2.1=t0_3.1.2.2.2.1)))
 else
  (d135 t0_3 0).bind fun r_12 =>
  bif (decide ((w (t0_3.2.2.2.2.2.2.2.1+(r_12.length:Int)))≤t0_3.1.2.2.2.1)) then
   (d135 t0_3 0).bind fun r_13 =>
   (d133 t0_3 t3_3 r_13).bind fun r_14 =>
   j_ (r_14.1,r_14.2,true)
  else
   (d135 t0_3 1).bind fun r_15 =>
   bif (decide (0 < (r_15.length:Int))) then
    (d139 t0_3 t3_3).bind fun r_16 =>
    j_ (r_16.1,r_16.2,(decide (t0_3.2.2.2.2.2.2.2.1=t0_3.1.2.2.2.1)))
   else
    (d140 t0_3 t3_3).bind fun r_17 =>
    j_ (r_17.1,r_17.2,(decide (t0_3.2.2.2.2.2.2.2.1=t0_3.1.2.2.2.1)))
def sg69:Sig:=⟨[(y94,(.io (.own 0 (.pr .sh (.pr .sh (.pr .sh (.pr .sh (.pr (.own 100 .sh) (.pr (.own 3 .sh) (.pr (.own 57 .sh) (.pr .sh (.pr (.own 53 .sh) (.pr .sh (.pr .sh (.pr .sh (.pr .sh (.pr (.own 59 .sh) (.own 3 .sh))))))))))))))))))],[(y4,.sh)]⟩
def plan69:Plan:=(.seq (.reg [] []) (.seq (.reg [] [{},{},{},{},{},{},{},{},{},{},{},{},{ frz:=[(10,[]),(15,[])],fl:=7 }]) (.seq (.reg [(3,[0,1,1,1,1,1,1,0]),(3,[0,1,1,1,1,1,1,1])] []) (.seq (.seq (.reg [] []) (.block (.loop [(0,.v y94 (.own 0 (.pr .sh (.pr .sh (.pr .sh (.pr .sh (.pr (.own 100 .sh) (.pr (.own 3 .sh) (.pr (.own 57 .sh) (.pr .sh (.pr (.own 53 .sh) (.pr .sh (.pr .sh (.pr .sh (.pr .sh (.pr (.own 59 .sh) (.own 3 .sh))))))))))))))))),(3,.v y154 (.own 0 (.pr .sh (.pr .sh (.pr .sh (.pr .sh (.pr .sh (.pr (.own 3 .sh) (.pr .sh .sh))))))))),(29,.v y53 .sh),(30,.v y2 .sh),(31,.v y2 .sh)] [(.brk 0,[(0,.v y94 (.own 0 (.pr .sh (.pr .sh (.pr .sh (.pr .sh (.pr (.own 100 .sh) (.pr (.own 3 .sh) (.pr (.own 57 .sh) (.pr .sh (.pr (.own 53 .sh) (.pr .sh (.pr .sh (.pr .sh (.pr .sh (.pr (.own 59 .sh) (.own 3 .sh))))))))))))))))),(3,.v y154 (.own 0 (.pr .sh (.pr .sh (.pr .sh (.pr .sh (.pr .sh (.pr (.own 3 .sh) (.pr .sh .sh)))))))))])] (.seq (.reg [] []) (.seq (.cond .nil .nil) (.seq (.block (.seq (.reg [] []) (.reg [] []))) (.reg [] []))))))) (.seq (.reg [] []) (.seq (.reg [] []) (.seq (.seq (.reg [] []) (.block (.loop [(0,.v y94 (.own 0 (.pr .sh (.pr .sh (.pr .sh (.pr .sh (.pr (.own 100 .sh) (.pr (.own 3 .sh) (.pr (.own 57 .sh) (.pr .sh (.pr (.own 53 .sh) (.pr .sh (.pr .sh (.pr .sh (.pr .sh (.pr (.own 59 .sh) (.own 3 .sh))))))))))))))))),(3,.v y154 (.own 0 (.pr .sh (.pr .sh (.pr .sh (.pr .sh (.pr .sh (.pr (.own 3 .sh) (.pr .sh .sh))))))))),(50,.v y26 (.own 3 .sh)),(51,.v y2 .sh),(52,.v y2 .sh)] [(.brk 2,[(0,.v y94 (.own 0 (.pr .sh (.pr .sh (.pr .sh (.pr .sh (.pr (.own 100 .sh) (.pr (.own 3 .sh) (.pr (.own 57 .sh) (.pr .sh (.pr (.own 53 .sh) (.pr .sh (.pr .sh (.pr .sh (.pr .sh (.pr (.own 59 .sh) (.own 3 .sh))))))))))))))))),(3,.v y154 (.own 0 (.pr .sh (.pr .sh (.pr .sh (.pr .sh (.pr .sh (.pr (.own 3 .sh) (.pr .sh .sh)))))))))])] (.seq (.reg [] []) (.seq (.cond .nil .nil) (.seq (.block (.seq (.reg [] []) (.reg [] []))) (.reg [] []))))))) (.seq (.reg [] []) (.join (.block (.seq (.reg [] []) (.cond .nil (.seq (.reg [] []) (.cond (.seq (.reg [] []) (.reg [] [])) (.seq (.reg [] []) (.cond (.reg [] []) (.reg [] [])))))))) [(0,.v y94 (.own 0 (.pr .sh (.pr .sh (.pr .sh (.pr .sh (.pr (.own 100 .sh) (.pr (.own 3 .sh) (.pr (.own 57 .sh) (.pr .sh (.pr (.own 53 .sh) (.pr .sh (.pr .sh (.pr .sh (.pr .sh (.pr (.own 59 .sh) (.own 3 .sh))))))))))))))))),(3,.v y154 (.own 0 (.pr .sh (.pr .sh (.pr .sh (.pr .sh (.pr .sh (.pr (.own 3 .sh) (.pr .sh .sh))))))))),(8,.v y4 .sh)] (.seq (.reg [] []) (.seq (.reg [(3,[0,1,1,1,1,1,0])] []) (.seq (.reg [] []) (.seq (.reg [] []) .nil)))))))))))))
theorem ev69 (xs:Vals (ptys sg69.ps)):evF (P:=Tryz.prog) tab [.fn E130,.fn E131,.fn E68,.fn E132,.fn E135,.fn E134,.fn E136,.fn E133,.fn E138,.fn E139,.fn E140] sg69 Tryz.f69.results.toList (code Tryz.f69) plan69 xs=d69 xs.1:=by kernel_rfl
theorem sim69:Sim Tryz.prog 69 sg69 d69:=sim_ev mixd tabOK Tryz.func69 (code_of rfl) Tryz.call69 (Nat.le_of_ble_eq_true (by kernel_rfl)) (by kernel_rfl) plan69 _ fun xs y h=>(ev69 xs).trans h
noncomputable def E69:FnE Tryz.prog:=⟨69,sg69,d69,sim69⟩
noncomputable def d22 (p0:(List Int × (List (List Int) × (Int × (Int × (Int × (Int × (Int × (Int × Int))))))))) (p1:List (List Int × Int)) (p2:List Int):Option ((Int × (Int × (Int × (Int × (List (List (Bool × (List Int × List Int)) × (List (Bool × (List Int × List Int)) × ((Bool × (List Int × List Int)) × ((Bool × (List Int × List Int)) × ((Bool × (List Int × List Int)) × (List Int × (List Int × List Int))))))) × List Int))))) × Int) :=
 (d66 3 p0 p1 p2).bind fun r =>
 bif !(decide (r=0)) then
  some ((0,0,0,0,[],[]),r)
 else
  (d67 p1).bind fun r_1 =>
  (d52 p1).bind fun r_2 =>
  (d30 r_2 p0.2.2.2.1).bind fun r_3 =>
  bif (decide ((p0.2.1.length:Int)=(p0.2.1.length:Int)) && (decide (0≤(p0.2.1.length:Int)) && decide ((p0.2.1.length:Int)≤LIM))) then
   (whileO (β:=((List (List Int × Int)) × (Int × (Int × (Int × (Int × (List (List (Bool × (List Int × List Int)) × (List (Bool × (List Int × List Int)) × ((Bool × (List Int × List Int)) × ((Bool × (List Int × List Int)) × ((Bool × (List Int × List Int)) × (List Int × (List Int × List Int))))))) × List Int))))) × ((List Int × (List (List Int) × (Int × (Int × (Int × (Int × (Int × (Int × Int)))))))) × (List Int × (Int × (Int × (List (List Int × (Int × (Int × (Bool × (List Int × List Int))))) × (List Int × (List (Bool × (List Int × List Int)) × (Int × (List (List (Bool × (List Int × List Int))) × (Int × (Int × (Int × (Int × (List (List (Bool × (List Int × List Int)) × (List (Bool × (List Int × List Int)) × ((Bool × (List Int × List Int)) × ((Bool × (List Int × List Int)) × ((Bool × (List Int × List Int)) × (List Int × (List Int × List Int))))))) × List Int)))))))))))))))) (fun ((t1,t6,t10,t41,t42):(List (List Int × Int)) × (Int × (Int × (Int × (Int × (List (List (Bool × (List Int × List Int)) × (List (Bool × (List Int × List Int)) × ((Bool × (List Int × List Int)) × ((Bool × (List Int × List Int)) × ((Bool × (List Int × List Int)) × (List Int × (List Int × List Int))))))) × List Int))))) × ((List Int × (List (List Int) × (Int × (Int × (Int × (Int × (Int × (Int × Int)))))))) × (List Int × (Int × (Int × (List (List Int × (Int × (Int × (Bool × (List Int × List Int))))) × (List Int × (List (Bool × (List Int × List Int)) × (Int × (List (List (Bool × (List Int × List Int))) × (Int × (Int × (Int × (Int × (List (List (Bool × (List Int × List Int)) × (List (Bool × (List Int × List Int)) × ((Bool × (List Int × List Int)) × ((Bool × (List Int × List Int)) × ((Bool × (List Int × List Int)) × (List Int × (List Int × List Int))))))) × List Int)))))))))))))) × Int × Int) =>
     bif (decide (t42 < t41)) then
      (d68 1).bind fun r_4 =>
      bif (decide ((t10.2.2.2.2.2.2.1.length:Int)+(([r_4]:List (Bool × (List Int × List Int))).length:Int)≤LIM)) then
       some (Sum.inl (t1,t6,(t10.1,t10.2.1,t10.2.2.1,t10.2.2.2.1,t10.2.2.2.2.1,t10.2.2.2.2.2.1,(t10.2.2.2.2.2.2.1++[r_4]),t10.2.2.2.2.2.2.2),t41,(w (t42+1))))
      else none
     else
      some (Sum.inr (t1,t6,t10))) (p1,(0,0,0,0,[],[]),(p0,p2,r_1,r_3,[],(List.replicate (Int.toNat (p0.2.1.length:Int)) 0),[],0,[],3,p0.2.2.2.1,0,(p0.2.1.length:Int),[],[]),(p0.2.1.length:Int),0)).bind fun ((t1_1,t6_1,t10_1):(List (List Int × Int)) × (Int × (Int × (Int × (Int × (List (List (Bool × (List Int × List Int)) × (List (Bool × (List Int × List Int)) × ((Bool × (List Int × List Int)) × ((Bool × (List Int × List Int)) × ((Bool × (List Int × List Int)) × (List Int × (List Int × List Int))))))) × List Int))))) × ((List Int × (List (List Int) × (Int × (Int × (Int × (Int × (Int × (Int × Int)))))))) × (List Int × (Int × (Int × (List (List Int × (Int × (Int × (Bool × (List Int × List Int))))) × (List Int × (List (Bool × (List Int × List Int)) × (Int × (List (List (Bool × (List Int × List Int))) × (Int × (Int × (Int × (Int × (List (List (Bool × (List Int × List Int)) × (List (Bool × (List Int × List Int)) × ((Bool × (List Int × List Int)) × ((Bool × (List Int × List Int)) × ((Bool × (List Int × List Int)) × (List Int × (List Int × List Int))))))) × List Int))))))))))))))) =>
   (whileO (β:=((Int × (Int × (Int × (Int × (List (List (Bool × (List Int × List Int)) × (List (Bool × (List Int × List Int)) × ((Bool × (List Int × List Int)) × ((Bool × (List Int × List Int)) × ((Bool × (List Int × List Int)) × (List Int × (List Int × List Int))))))) × List Int))))) × ((List Int × (List (List Int) × (Int × (Int × (Int × (Int × (Int × (Int × Int)))))))) × (List Int × (Int × (Int × (List (List Int × (Int × (Int × (Bool × (List Int × List Int))))) × (List Int × (List (Bool × (List Int × List Int)) × (Int × (List (List (Bool × (List Int × List Int))) × (Int × (Int × (Int × (Int × (List (List (Bool × (List Int × List Int)) × (List (Bool × (List Int × List Int)) × ((Bool × (List Int × List Int)) × ((Bool × (List Int × List Int)) × ((Bool × (List Int × List Int)) × (List Int × (List Int × List Int))))))) × List Int)))))))))))))))) (fun ((t6_2,t10_2,t55,t56,t57):(Int × (Int × (Int × (Int × (List (List (Bool × (List Int × List Int)) × (List (Bool × (List Int × List Int)) × ((Bool × (List Int × List Int)) × ((Bool × (List Int × List Int)) × ((Bool × (List Int × List Int)) × (List Int × (List Int × List Int))))))) × List Int))))) × ((List Int × (List (List Int) × (Int × (Int × (Int × (Int × (Int × (Int × Int)))))))) × (List Int × (Int × (Int × (List (List Int × (Int × (Int × (Bool × (List Int × List Int))))) × (List Int × (List (Bool × (List Int × List Int)) × (Int × (List (List (Bool × (List Int × List Int))) × (Int × (Int × (Int × (Int × (List (List (Bool × (List Int × List Int)) × (List (Bool × (List Int × List Int)) × ((Bool × (List Int × List Int)) × ((Bool × (List Int × List Int)) × ((Bool × (List Int × List Int)) × (List Int × (List Int × List Int))))))) × List Int)))))))))))))) × (List (List Int × Int)) × Int × Int) =>
     bif (decide (t57 < t56)) then
      bif (decide (0≤t57) && decide (t57 < (t55.length:Int))) then
       (d68 1).bind fun r_5 =>
       bif (decide ((t10_2.2.2.2.2.1.length:Int)+(([((List.getD t55 (Int.toNat t57) ([],0)).1,(List.getD t55 (Int.toNat t57) ([],0)).2,0,r_5)]:List (List Int × (Int × (Int × (Bool × (List Int × List Int)))))).length:Int)≤LIM)) then
        some (Sum.inl (t6_2,(t10_2.1,t10_2.2.1,t10_2.2.2.1,t10_2.2.2.2.1,(t10_2.2.2.2.2.1++[((List.getD t55 (Int.toNat t57) ([],0)).1,(List.getD t55 (Int.toNat t57) ([],0)).2,0,r_5)]),t10_2.2.2.2.2.2),t55,t56,(w (t57+1))))
       else none
      else none
     else
      some (Sum.inr (t6_2,t10_2))) (t6_1,t10_1,t1_1,(t1_1.length:Int),0)).bind fun ((t6_3,t10_3):(Int × (Int × (Int × (Int × (List (List (Bool × (List Int × List Int)) × (List (Bool × (List Int × List Int)) × ((Bool × (List Int × List Int)) × ((Bool × (List Int × List Int)) × ((Bool × (List Int × List Int)) × (List Int × (List Int × List Int))))))) × List Int))))) × ((List Int × (List (List Int) × (Int × (Int × (Int × (Int × (Int × (Int × Int)))))))) × (List Int × (Int × (Int × (List (List Int × (Int × (Int × (Bool × (List Int × List Int))))) × (List Int × (List (Bool × (List Int × List Int)) × (Int × (List (List (Bool × (List Int × List Int))) × (Int × (Int × (Int × (Int × (List (List (Bool × (List Int × List Int)) × (List (Bool × (List Int × List Int)) × ((Bool × (List Int × List Int)) × ((Bool × (List Int × List Int)) × ((Bool × (List Int × List Int)) × (List Int × (List Int × List Int))))))) × List Int))))))))))))))) =>
   (whileO (β:=((Int × (Int × (Int × (Int × (List (List (Bool × (List Int × List Int)) × (List (Bool × (List Int × List Int)) × ((Bool × (List Int × List Int)) × ((Bool × (List Int × List Int)) × ((Bool × (List Int × List Int)) × (List Int × (List Int × List Int))))))) × List Int))))) × ((List Int × (List (List Int) × (Int × (Int × (Int × (Int × (Int × (Int × Int)))))))) × (List Int × (Int × (Int × (List (List Int × (Int × (Int × (Bool × (List Int × List Int))))) × (List Int × (List (Bool × (List Int × List Int)) × (Int × (List (List (Bool × (List Int × List Int))) × (Int × (Int × (Int × (Int × (List (List (Bool × (List Int × List Int)) × (List (Bool × (List Int × List Int)) × ((Bool × (List Int × List Int)) × ((Bool × (List Int × List Int)) × ((Bool × (List Int × List Int)) × (List Int × (List Int × List Int))))))) × List Int)))))))))))))))) (fun ((t6_4,t10_4):(Int × (Int × (Int × (Int × (List (List (Bool × (List Int × List Int)) × (List (Bool × (List Int × List Int)) × ((Bool × (List Int × List Int)) × ((Bool × (List Int × List Int)) × ((Bool × (List Int × List Int)) × (List Int × (List Int × List Int))))))) × List Int))))) × ((List Int × (List (List Int) × (Int × (Int × (Int × (Int × (Int × (Int × Int)))))))) × (List Int × (Int × (Int × (List (List Int × (Int × (Int × (Bool × (List Int × List Int))))) × (List Int × (List (Bool × (List Int × List Int)) × (Int × (List (List (Bool × (List Int × List Int))) × (Int × (Int × (Int × (Int × (List (List (Bool × (List Int × List Int)) × (List (Bool × (List Int × List Int)) × ((Bool × (List Int × List Int)) × ((Bool × (List Int × List Int)) × ((Bool × (List Int × List Int)) × (List Int × (List Int × List Int))))))) × List Int))))))))))))))) =>
     (d69 t10_4).bind fun r_6 =>
     bif r_6.1 then
      some (Sum.inl (t6_4,r_6.2))
     else
      some (Sum.inr (t6_4,r_6.2))) (t6_3,t10_3)).bind fun ((t6_5,t10_5):(Int × (Int × (Int × (Int × (List (List (Bool × (List Int × List Int)) × (List (Bool × (List Int × List Int)) × ((Bool × (List Int × List Int)) × ((Bool × (List Int × List Int)) × ((Bool × (List Int × List Int)) × (List Int × (List Int × List Int))))))) × List Int))))) × ((List Int × (List (List Int) × (Int × (Int × (Int × (Int × (Int × (Int × Int)))))))) × (List Int × (Int × (Int × (List (List Int × (Int × (Int × (Bool × (List Int × List Int))))) × (List Int × (List (Bool × (List Int × List Int)) × (Int × (List (List (Bool × (List Int × List Int))) × (Int × (Int × (Int × (Int × (List (List (Bool × (List Int × List Int)) × (List (Bool × (List Int × List Int)) × ((Bool × (List Int × List Int)) × ((Bool × (List Int × List Int)) × ((Bool × (List Int × List Int)) × (List Int × (List Int × List Int))))))) × List Int))))))))))))))) =>
   some (t10_5.2.2.2.2.2.2.2.2.2,0)
  else none
def sg22:Sig:=⟨[(y23,.sh),(y25,.sh),(y26,.sh)],[(y32,.sh),(y2,.sh)]⟩
def plan22:Plan:=(.seq (.reg [] []) (.seq (.seq (.reg [] []) (.seq (.reg [] []) (.cond (.seq (.reg [] []) .nil) .nil))) (.seq (.reg [] []) (.seq (.reg [] [{},{},{},{},{},{},{},{},{},{},{},{},{},{},{ fl:=1500304059 },{ fl:=80531605704100 }]) (.seq (.seq (.reg [] []) (.block (.loop [(1,.v y25 .sh),(6,.v (.ptr y32) (.own 0 .sh)),(10,.v y94 (.own 0 (.pr .sh (.pr .sh (.pr .sh (.pr .sh (.pr (.own 100 .sh) (.pr (.own 3 .sh) (.pr (.own 57 .sh) (.pr .sh (.pr (.own 53 .sh) (.pr .sh (.pr .sh (.pr .sh (.pr .sh (.pr (.own 59 .sh) (.own 3 .sh))))))))))))))))),(41,.v y2 .sh),(42,.v y2 .sh)] [(.brk 0,[(1,.v y25 .sh),(6,.v (.ptr y32) (.own 0 .sh)),(10,.v y94 (.own 0 (.pr .sh (.pr .sh (.pr .sh (.pr .sh (.pr (.own 100 .sh) (.pr (.own 3 .sh) (.pr (.own 57 .sh) (.pr .sh (.pr (.own 53 .sh) (.pr .sh (.pr .sh (.pr .sh (.pr .sh (.pr (.own 59 .sh) (.own 3 .sh)))))))))))))))))])] (.seq (.reg [] []) (.seq (.cond .nil .nil) (.seq (.block (.reg [] [])) (.reg [] []))))))) (.seq (.seq (.reg [] []) (.block (.loop [(6,.v (.ptr y32) (.own 0 .sh)),(10,.v y94 (.own 0 (.pr .sh (.pr .sh (.pr .sh (.pr .sh (.pr (.own 100 .sh) (.pr (.own 3 .sh) (.pr (.own 57 .sh) (.pr .sh (.pr (.own 53 .sh) (.pr .sh (.pr .sh (.pr .sh (.pr .sh (.pr (.own 59 .sh) (.own 3 .sh))))))))))))))))),(55,.v y25 .sh),(56,.v y2 .sh),(57,.v y2 .sh)] [(.brk 2,[(6,.v (.ptr y32) (.own 0 .sh)),(10,.v y94 (.own 0 (.pr .sh (.pr .sh (.pr .sh (.pr .sh (.pr (.own 100 .sh) (.pr (.own 3 .sh) (.pr (.own 57 .sh) (.pr .sh (.pr (.own 53 .sh) (.pr .sh (.pr .sh (.pr .sh (.pr .sh (.pr (.own 59 .sh) (.own 3 .sh)))))))))))))))))])] (.seq (.reg [] []) (.seq (.cond .nil .nil) (.seq (.block (.seq (.reg [] []) (.reg [] []))) (.reg [] []))))))) (.seq (.block (.loop [(6,.v (.ptr y32) (.own 0 .sh)),(10,.v y94 (.own 0 (.pr .sh (.pr .sh (.pr .sh (.pr .sh (.pr (.own 100 .sh) (.pr (.own 3 .sh) (.pr (.own 57 .sh) (.pr .sh (.pr (.own 53 .sh) (.pr .sh (.pr .sh (.pr .sh (.pr .sh (.pr (.own 59 .sh) (.own 3 .sh)))))))))))))))))] [(.brk 4,[(6,.v (.ptr y32) (.own 0 .sh)),(10,.v y94 (.own 0 (.pr .sh (.pr .sh (.pr .sh (.pr .sh (.pr (.own 100 .sh) (.pr (.own 3 .sh) (.pr (.own 57 .sh) (.pr .sh (.pr (.own 53 .sh) (.pr .sh (.pr .sh (.pr .sh (.pr .sh (.pr (.own 59 .sh) (.own 3 .sh)))))))))))))))))])] (.seq (.seq (.reg [] []) (.cond .nil .nil)) (.block .nil)))) (.seq (.reg [(10,[0,1,1,1,1,1,1,1,1,1,1,1,1,1,0]),(10,[0,1,1,1,1,1,1,1,1,1,1,1,1,1,1])] []) .nil))))))))
theorem ev22 (xs:Vals (ptys sg22.ps)):evF (P:=Tryz.prog) tab [.fn E66,.fn E67,.fn E52,.fn E30,.fn E68,.fn E69] sg22 Tryz.f22.results.toList (code Tryz.f22) plan22 xs=d22 xs.1 xs.2.1 xs.2.2.1:=by kernel_rfl
theorem sim22:Sim Tryz.prog 22 sg22 d22:=sim_ev mixd tabOK Tryz.func22 (code_of rfl) Tryz.call22 (Nat.le_of_ble_eq_true (by kernel_rfl)) (by kernel_rfl) plan22 _ fun xs y h=>(ev22 xs).trans h
noncomputable def E22:FnE Tryz.prog:=⟨22,sg22,d22,sim22⟩
noncomputable def d122 (a:Int) (b:Int):Option Int :=
 (whileO (β:=Int) (fun ((a_1,b_1):Int × Int) =>
   bif (decide (0 < b_1)) then
    bif (!decide (b_1=0)) then
     some (Sum.inl (b_1,(w (Int.tmod a_1 b_1))))
    else none
   else
    some (Sum.inr a_1)) (a,b)).bind fun (a_2:Int) =>
 some a_2
def sg122:Sig:=⟨[(y2,.sh),(y2,.sh)],[(y2,.sh)]⟩
def plan122:Plan:=(.seq (.reg [] []) (.seq (.block (.loop [(0,.v y2 .sh),(1,.v y2 .sh)] [(.brk 0,[(0,.v y2 .sh)])] (.seq (.seq (.reg [] []) (.cond .nil .nil)) (.block (.reg [] []))))) (.seq (.reg [] []) .nil)))
theorem ev122 (xs:Vals (ptys sg122.ps)):evF (P:=Tryz.prog) tab [] sg122 Tryz.f122.results.toList (code Tryz.f122) plan122 xs=d122 xs.1 xs.2.1:=by kernel_rfl
theorem sim122:Sim Tryz.prog 122 sg122 d122:=sim_ev mixd tabOK Tryz.func122 (code_of rfl) Tryz.call122 (Nat.le_of_ble_eq_true (by kernel_rfl)) (by kernel_rfl) plan122 _ fun xs y h=>(ev122 xs).trans h
noncomputable def E122:FnE Tryz.prog:=⟨122,sg122,d122,sim122⟩
noncomputable def d123 (n:Int):Option (List Int) :=
 (whileO (β:=(List Int)) (fun ((out,x):(List Int) × Int) =>
   bif (decide (0 < x)) then
    bif (decide ((out.length:Int)+(([(wu32 x)]:List Int).length:Int)≤LIM)) then
     some (Sum.inl ((out++[(wu32 x)]),(wu64 (Int.fdiv x (2 ^ (min (Int.toNat 32) 64))))))
    else none
   else
    some (Sum.inr out)) ([],(wu64 n))).bind fun (out_1:List Int) =>
 some out_1
def sg123:Sig:=⟨[(y2,.sh)],[(y55,(.own 146 .sh))]⟩
def plan123:Plan:=(.seq (.reg [] []) (.seq (.reg [] [{ fl:=2 }]) (.seq (.seq (.reg [] []) (.block (.loop [(3,.v y55 (.own 146 .sh)),(4,.v y12 .sh)] [(.brk 0,[(3,.v y55 (.own 146 .sh))])] (.seq (.seq (.reg [] []) (.cond .nil .nil)) (.seq (.block (.reg [] [])) (.reg [] [])))))) (.seq (.reg [] []) .nil))))
theorem ev123 (xs:Vals (ptys sg123.ps)):evF (P:=Tryz.prog) tab [] sg123 Tryz.f123.results.toList (code Tryz.f123) plan123 xs=d123 xs.1:=by kernel_rfl
theorem sim123:Sim Tryz.prog 123 sg123 d123:=sim_ev mixd tabOK Tryz.func123 (code_of rfl) Tryz.call123 (Nat.le_of_ble_eq_true (by kernel_rfl)) (by kernel_rfl) plan123 _ fun xs y h=>(ev123 xs).trans h
noncomputable def E123:FnE Tryz.prog:=⟨123,sg123,d123,sim123⟩
noncomputable def d65 (a:Int) (b:Int):Option (Bool × (List Int × List Int)) :=
 (d122 a b).bind fun r =>
 bif (!decide (r=0)) then
  (d123 (w (Int.tdiv a r))).bind fun r_1 =>
  bif (!decide (r=0)) then
   (d123 (w (Int.tdiv b r))).bind fun r_2 =>
   some (false,r_1,r_2)
  else none
 else none
def sg65:Sig:=⟨[(y2,.sh),(y2,.sh)],[(y57,.sh)]⟩
def plan65:Plan:=(.seq (.reg [] []) (.seq (.reg [] []) (.seq (.reg [] [{},{},{},{},{},{},{},{},{ frz:=[(12,[]),(16,[])] }]) .nil)))
theorem ev65 (xs:Vals (ptys sg65.ps)):evF (P:=Tryz.prog) tab [.fn E122,.fn E123] sg65 Tryz.f65.results.toList (code Tryz.f65) plan65 xs=d65 xs.1 xs.2.1:=by kernel_rfl
theorem sim65:Sim Tryz.prog 65 sg65 d65:=sim_ev mixd tabOK Tryz.func65 (code_of rfl) Tryz.call65 (Nat.le_of_ble_eq_true (by kernel_rfl)) (by kernel_rfl) plan65 _ fun xs y h=>(ev65 xs).trans h
noncomputable def E65:FnE Tryz.prog:=⟨65,sg65,d65,sim65⟩
noncomputable def d39 (n:Int):Option (Bool × (List Int × List Int)) :=
 (d65 n 1).bind fun r =>
 some r
def sg39:Sig:=⟨[(y2,.sh)],[(y57,.sh)]⟩
def plan39:Plan:=(.seq (.reg [] []) (.seq (.reg [] []) .nil))
theorem ev39 (xs:Vals (ptys sg39.ps)):evF (P:=Tryz.prog) tab [.fn E65] sg39 Tryz.f39.results.toList (code Tryz.f39) plan39 xs=d39 xs.1:=by kernel_rfl
theorem sim39:Sim Tryz.prog 39 sg39 d39:=sim_ev mixd tabOK Tryz.func39 (code_of rfl) Tryz.call39 (Nat.le_of_ble_eq_true (by kernel_rfl)) (by kernel_rfl) plan39 _ fun xs y h=>(ev39 xs).trans h
noncomputable def E39:FnE Tryz.prog:=⟨39,sg39,d39,sim39⟩
noncomputable def d21:Option Bool :=
 (d48 3 [[0,1],[0,1],[0,1],[0,1],[0,1],[0,1],[2],[2],[2]]).bind fun r =>
 (d25 2 3 1 0 2).bind fun r_1 =>
 (d22 r_1 r.1 [0,1,2]).bind fun r_2 =>
 letJ (fun ((t3,t49):(Int × (Int × (Int × (Int × (List (List (Bool × (List Int × List Int)) × (List (Bool × (List Int × List Int)) × ((Bool × (List Int × List Int)) × ((Bool × (List Int × List Int)) × ((Bool × (List Int × List Int)) × (List Int × (List Int × List Int))))))) × List Int))))) × Bool) =>
   bif t49 then
    some false
   else
    bif (decide (0≤1) && decide (1 < (t3.2.2.2.2.1.length:Int))) then
     bif (decide (0≤0) && decide (0 < ((((List.getD t3.2.2.2.2.1 1 ([],[],(false,[],[]),(false,[],[]),(false,[],[]),[],[],[])).2).1).length:Int))) then
      (d65 1 3).bind fun r_4 =>
      (d37 (List.getD (((List.getD t3.2.2.2.2.1 1 ([],[],(false,[],[]),(false,[],[]),(false,[],[]),[],[],[])).2).1) 0 (false,[],[])) r_4).bind fun r_5 =>
      bif r_5 then
       bif (decide (0≤2) && decide (2 < (t3.2.2.2.2.1.length:Int))) then
        (d39 2).bind fun r_6 =>
        (d37 (((((List.getD t3.2.2.2.2.1 2 ([],[],(false,[],[]),(false,[],[]),(false,[],[]),[],[],[])).2).2).2).1) r_6).bind fun r_7 =>
        bif r_7 then
         (d30 9 2).bind fun r_8 =>
         some (decide (r_8=4))
        else
         some false
       else none
      else
       some false
     else none
    else none) fun j_ =>
 bif !(!(decide (r_2.2=0))) then
  bif !(!(decide ((r_2.1.2.2.2.2.1.length:Int)=3))) then
   bif (decide (0≤1) && decide (1 < (r_2.1.2.2.2.2.1.length:Int))) then
    bif !(!(decide (((((List.getD r_2.1.2.2.2.2.1 1 ([],[],(false,[],[]),(false,[],[]),(false,[],[]),[],[],[])).2).1).length:Int)=3))) then
     (d38 r_2.1.2.2.2.2.2 [0,2]).bind fun r_3 =>
     j_ (r_2.1,!r_3)
    else
     j_ (r_2.1,true)
   else none
  else
   j_ (r_2.1,true)
 else
  j_ (r_2.1,true)
def sg21:Sig:=⟨[],[(y4,.sh)]⟩
def plan21:Plan:=(.seq (.reg [] []) (.seq (.reg [] [{},{},{},{},{},{},{},{},{},{ frz:=[(6,[]),(7,[]),(8,[]),(9,[]),(10,[]),(11,[]),(12,[]),(13,[]),(14,[])] },{},{ fl:=1 }]) (.seq (.reg [] [{},{},{},{ frz:=[(22,[])] },{ fl:=1 }]) (.seq (.join (.reg [] []) [(3,.v (.ptr y32) (.own 0 .sh)),(49,.v y4 .sh)] (.cond (.seq (.reg [] []) .nil) .nil)) (.seq (.reg [] []) .nil)))))
theorem ev21 (xs:Vals (ptys sg21.ps)):evF (P:=Tryz.prog) tab [.fn E48,.fn E25,.fn E22,.fn E38,.fn E65,.fn E37,.fn E39,.fn E30] sg21 Tryz.f21.results.toList (code Tryz.f21) plan21 xs=d21  := by kernel_rfl
theorem sim21:Sim Tryz.prog 21 sg21 d21:=sim_ev mixd tabOK Tryz.func21 (code_of rfl) Tryz.call21 (Nat.le_of_ble_eq_true (by kernel_rfl)) (by kernel_rfl) plan21 _ fun xs y h=>(ev21 xs).trans h
noncomputable def E21:FnE Tryz.prog:=⟨21,sg21,d21,sim21⟩
noncomputable def d70 (p0:Int) (p1:List (List Int × Int)):Option Bool :=
 letJ (fun ((t0,t1,t12):Int × (List (List Int × Int)) × Bool) =>
   bif t12 then
    some false
   else
    (whileO (β:=Unit ⊕ Bool) (fun ((t0_1,t1_1,t5,t6):Int × (List (List Int × Int)) × Int × Int) =>
      bif (decide (t6 < (t1_1.length:Int))) then
       letJ (fun ((t0_2,t1_2,t5_1,t6_1,t62):Int × (List (List Int × Int)) × Int × Int × Bool) =>
         bif t62 then
          some (Sum.inr (Sum.inr false))
         else
          bif (decide (0≤t6_1) && decide (t6_1 < (t1_2.length:Int))) then
           some (Sum.inl (t0_2,t1_2,(w (t5_1 - ((List.getD t1_2 (Int.toNat t6_1) ([],0)).2))),(w (t6_1+1))))
          else none) fun j__1 =>
       bif (decide (0≤t6) && decide (t6 < (t1_1.length:Int))) then
        (d32 t0_1 ((List.getD t1_1 (Int.toNat t6) ([],0)).1)).bind fun r =>
        bif !(!r) then
         bif (decide (0≤t6) && decide (t6 < (t1_1.length:Int))) then
          bif !(decide ((List.getD t1_1 (Int.toNat t6) ([],0)).2 < 1)) then
           bif (decide (0≤t6) && decide (t6 < (t1_1.length:Int))) then
            bif !(decide (t5 < (List.getD t1_1 (Int.toNat t6) ([],0)).2)) then
             bif (decide (0 < t6)) then
              bif (decide (0≤(w (t6 - 1))) && decide ((w (t6 - 1)) < (t1_1.length:Int))) then
               bif (decide (0≤t6) && decide (t6 < (t1_1.length:Int))) then
                (d97 ((List.getD t1_1 (Int.toNat (w (t6 - 1))) ([],0)).1) ((List.getD t1_1 (Int.toNat t6) ([],0)).1)).bind fun r_1 =>
                j__1 (t0_1,t1_1,t5,t6,!r_1)
               else none
              else none
             else
              j__1 (t0_1,t1_1,t5,t6,false)
            else
             j__1 (t0_1,t1_1,t5,t6,true)
           else none
          else
           j__1 (t0_1,t1_1,t5,t6,true)
         else none
        else
         j__1 (t0_1,t1_1,t5,t6,true)
       else none
      else
       some (Sum.inr (Sum.inl ()))) (t0,t1,100000,0)).bind fun
    | Sum.inl _ =>
     some true
    | Sum.inr t4 =>
     some t4) fun j_ =>
 bif !(decide (p0 < 1)) then
  j_ (p0,p1,(decide (7 < p0)))
 else
  j_ (p0,p1,true)
noncomputable def d71 (n:Int) (l:List Int):Option Bool :=
 bif (decide ((l.length:Int)=n)) then
  (d32 n l).bind fun r =>
  some r
 else
  some false
noncomputable def d23 (p0:Int) (p1:(List Int × (List (List Int) × (Int × (Int × (Int × (Int × (Int × (Int × Int))))))))) (p2:List (List Int × Int)) (p3:List Int):Option Int :=
 letJ (fun ((t0,t2,t3,t5,t9,t25):Int × (List (List Int × Int)) × (List Int) × (List Int × (List (List Int) × (Int × (Int × (Int × (Int × (Int × (Int × Int)))))))) × Int × Bool) =>
   bif t25 then
    some 5
   else
    letJ (fun ((t0_1,t2_1,t3_1,t5_1,t9_1,t10):Int × (List (List Int × Int)) × (List Int) × (List Int × (List (List Int) × (Int × (Int × (Int × (Int × (Int × (Int × Int)))))))) × Int × Bool) =>
      letJ (fun ((t2_2,t3_2,t9_2,t77):(List (List Int × Int)) × (List Int) × Int × Bool) =>
        bif t77 then
         some 4
        else
         (d70 t9_2 t2_2).bind fun r =>
         bif !r then
          some 8
         else
          (d71 t9_2 t3_2).bind fun r_1 =>
          bif !r_1 then
           some 13
          else
           some 0) fun j__2 =>
      bif !(decide (t9_1 < 1)) then
       bif !(decide (7 < t9_1)) then
        bif !(decide (t5_1.2.2.2.1 < 1)) then
         bif !(decide (5 < t5_1.2.2.2.1)) then
          bif (decide (t0_1=1)) then
           bif !(!(decide (t5_1.2.2.2.1=1))) then
            bif !(!t10) then
             bif !(decide (t5_1.2.2.2.2.2.2.1 < 1)) then
              j__2 (t2_1,t3_1,t9_1,(decide (3 < t5_1.2.2.2.2.2.2.1)))
             else
              j__2 (t2_1,t3_1,t9_1,true)
            else
             j__2 (t2_1,t3_1,t9_1,true)
           else
            j__2 (t2_1,t3_1,t9_1,true)
          else
           bif !(!t10) then
            bif !(decide (t5_1.2.2.2.2.2.2.1 < 1)) then
             j__2 (t2_1,t3_1,t9_1,(decide (3 < t5_1.2.2.2.2.2.2.1)))
            else
             j__2 (t2_1,t3_1,t9_1,true)
           else
            j__2 (t2_1,t3_1,t9_1,true)
         else
          j__2 (t2_1,t3_1,t9_1,true)
        else
         j__2 (t2_1,t3_1,t9_1,true)
       else
        j__2 (t2_1,t3_1,t9_1,true)
      else
       j__2 (t2_1,t3_1,t9_1,true)) fun j__1 =>
    bif (decide (t0=2)) then
     bif (decide (1≤t5.2.2.2.2.2.1)) then
      j__1 (t0,t2,t3,t5,t9,(decide (t5.2.2.2.2.2.1≤6)))
     else
      j__1 (t0,t2,t3,t5,t9,false)
    else
     j__1 (t0,t2,t3,t5,t9,(decide (t5.2.2.2.2.2.1=0)))) fun j_ =>
 bif !(decide (p0 < 1)) then
  bif !(decide (3 < p0)) then
   j_ (p0,p2,p3,p1,(p1.2.1.length:Int),!(decide (p1.2.2.1=p0)))
  else
   j_ (p0,p2,p3,p1,(p1.2.1.length:Int),true)
 else
  j_ (p0,p2,p3,p1,(p1.2.1.length:Int),true)
noncomputable def d99 (n:Int) (l:List Int):Option (List Int) :=
 (whileO (β:=(List Int)) (fun ((n_1,l_1,out,i):Int × (List Int) × (List Int) × Int) =>
   letJ (fun ((n_2,l_2,out_1,i_1,t17):Int × (List Int) × (List Int) × Int × Bool) =>
     bif t17 then
      letJ (fun ((n_3,l_3,out_2,i_2):Int × (List Int) × (List Int) × Int) =>
        some (Sum.inl (n_3,l_3,out_2,(w (i_2+1))))) fun j__1 =>
      bif (decide (0≤i_1) && decide (i_1 < (l_2.length:Int))) then
       (d24 (List.getD l_2 (Int.toNat i_1) 0) n_2).bind fun r =>
       (d49 out_1 r).bind fun r_1 =>
       bif !r_1 then
        bif (decide ((out_1.length:Int)+(([r]:List Int).length:Int)≤LIM)) then
         j__1 (n_2,l_2,(out_1++[r]),i_1)
        else none
       else
        j__1 (n_2,l_2,out_1,i_1)
      else none
     else
      some (Sum.inr out_1)) fun j_ =>
   bif (decide (i < (l_1.length:Int))) then
    j_ (n_1,l_1,out,i,(decide ((out.length:Int) < n_1)))
   else
    j_ (n_1,l_1,out,i,false)) (n,l,[],0)).bind fun (out_3:List Int) =>
 some out_3
def sg99:Sig:=⟨[(y2,.sh),(y26,.bw)],[(y26,(.own 3 .sh))]⟩
def plan99:Plan:=(.seq (.reg [] []) (.seq (.reg [] [{ fl:=2 }]) (.seq (.seq (.reg [] []) (.block (.loop [(0,.v y2 .sh),(1,.v y26 .bw),(5,.v y26 (.own 3 .sh)),(6,.v y2 .sh)] [(.brk 0,[(5,.v y26 (.own 3 .sh))])] (.seq (.join (.reg [] []) [(0,.v y2 .sh),(1,.v y26 .bw),(5,.v y26 (.own 3 .sh)),(6,.v y2 .sh),(17,.v y4 .sh)] (.cond .nil .nil)) (.join (.block (.seq (.reg [] []) (.seq (.reg [] []) (.cond (.reg [] []) .nil)))) [(0,.v y2 .sh),(1,.v y26 .bw),(5,.v y26 (.own 3 .sh)),(6,.v y2 .sh)] (.reg [] [])))))) (.seq (.reg [] []) .nil))))
theorem ev99 (xs:Vals (ptys sg99.ps)):evF (P:=Tryz.prog) tab [.fn E24,.fn E49] sg99 Tryz.f99.results.toList (code Tryz.f99) plan99 xs=d99 xs.1 xs.2.1:=by kernel_rfl
theorem sim99:Sim Tryz.prog 99 sg99 d99:=sim_ev mixd tabOK Tryz.func99 (code_of rfl) Tryz.call99 (Nat.le_of_ble_eq_true (by kernel_rfl)) (by kernel_rfl) plan99 _ fun xs y h=>(ev99 xs).trans h
noncomputable def E99:FnE Tryz.prog:=⟨99,sg99,d99,sim99⟩
noncomputable def d46 (n:Int) (l:List (List Int)) (most:Int):Option (List (List Int)) :=
 (whileO (β:=(List (List Int))) (fun ((n_1,l_1,most_1,out,i):Int × (List (List Int)) × Int × (List (List Int)) × Int) =>
   letJ (fun ((n_2,l_2,most_2,out_1,i_1,t17):Int × (List (List Int)) × Int × (List (List Int)) × Int × Bool) =>
     bif t17 then
      bif (decide (0≤i_1) && decide (i_1 < (l_2.length:Int))) then
       bif (decide (0≤i_1) && decide (i_1 < (l_2.length:Int))) then
        bif (cutOK 0 (bif (decide (12 < ((List.getD l_2 (Int.toNat i_1) []).length:Int))) then 12 else ((List.getD l_2 (Int.toNat i_1) []).length:Int)) (List.getD l_2 (Int.toNat i_1) []).length) then
         (d99 n_2 (List.drop 0 (List.take (Int.toNat (bif (decide (12 < ((List.getD l_2 (Int.toNat i_1) []).length:Int))) then 12 else ((List.getD l_2 (Int.toNat i_1) []).length:Int))) (List.getD l_2 (Int.toNat i_1) [])))).bind fun r =>
         bif (decide ((out_1.length:Int)+(([r]:List (List Int)).length:Int)≤LIM)) then
          some (Sum.inl (n_2,l_2,most_2,(out_1++[r]),(w (i_1+1))))
         else none
        else none
       else none
      else none
     else
      some (Sum.inr out_1)) fun j_ =>
   bif (decide (i < (l_1.length:Int))) then
    j_ (n_1,l_1,most_1,out,i,(decide (i < most_1)))
   else
    j_ (n_1,l_1,most_1,out,i,false)) (n,l,most,[],0)).bind fun (out_2:List (List Int)) =>
 some out_2
def sg46:Sig:=⟨[(y2,.sh),(y27,.bw),(y2,.sh)],[(y27,(.own 26 .sh))]⟩
def plan46:Plan:=(.seq (.reg [] []) (.seq (.reg [] [{ fl:=2 }]) (.seq (.seq (.reg [] []) (.block (.loop [(0,.v y2 .sh),(1,.v y27 .bw),(2,.v y2 .sh),(7,.v y27 (.own 26 .sh)),(8,.v y2 .sh)] [(.brk 0,[(7,.v y27 (.own 26 .sh))])] (.seq (.join (.reg [] []) [(0,.v y2 .sh),(1,.v y27 .bw),(2,.v y2 .sh),(7,.v y27 (.own 26 .sh)),(8,.v y2 .sh),(17,.v y4 .sh)] (.cond .nil .nil)) (.seq (.block (.reg [] [{},{},{},{},{},{},{},{},{},{},{},{},{},{},{ frz:=[(33,[])] }])) (.reg [] [])))))) (.seq (.reg [] []) .nil))))
theorem ev46 (xs:Vals (ptys sg46.ps)):evF (P:=Tryz.prog) tab [.fn E99] sg46 Tryz.f46.results.toList (code Tryz.f46) plan46 xs=d46 xs.1 xs.2.1 xs.2.2.1:=by kernel_rfl
theorem sim46:Sim Tryz.prog 46 sg46 d46:=sim_ev mixd tabOK Tryz.func46 (code_of rfl) Tryz.call46 (Nat.le_of_ble_eq_true (by kernel_rfl)) (by kernel_rfl) plan46 _ fun xs y h=>(ev46 xs).trans h
noncomputable def E46:FnE Tryz.prog:=⟨46,sg46,d46,sim46⟩
noncomputable def d26 (n:Int) (l:List (List Int)) (most:Int):Option (List (List Int × Int)) :=
 (d46 n l most).bind fun r =>
 (d48 n r).bind fun r_1 =>
 some r_1.1
def sg26:Sig:=⟨[(y2,.sh),(y27,.bw),(y2,.sh)],[(y25,.sh)]⟩
def plan26:Plan:=(.seq (.reg [] []) (.seq (.reg [] [{},{},{},{},{},{},{ fl:=1 }]) (.seq (.reg [] []) .nil)))
theorem ev26 (xs:Vals (ptys sg26.ps)):evF (P:=Tryz.prog) tab [.fn E46,.fn E48] sg26 Tryz.f26.results.toList (code Tryz.f26) plan26 xs=d26 xs.1 xs.2.1 xs.2.2.1:=by kernel_rfl
theorem sim26:Sim Tryz.prog 26 sg26 d26:=sim_ev mixd tabOK Tryz.func26 (code_of rfl) Tryz.call26 (Nat.le_of_ble_eq_true (by kernel_rfl)) (by kernel_rfl) plan26 _ fun xs y h=>(ev26 xs).trans h
noncomputable def E26:FnE Tryz.prog:=⟨26,sg26,d26,sim26⟩
noncomputable def d27 (n:Int) (code_:Int):Option (List Int) :=
 (whileO (β:=(List Int)) (fun ((n_1,code__1,out,i):Int × Int × (List Int) × Int) =>
   bif (decide (i < n_1)) then
    (d24 code__1 (w (i+1))).bind fun r =>
    bif (!decide ((w (i+1))=0)) then
     bif (cutOK 0 r out.length) then
      bif (decide ((([]:List Int).length:Int)+((List.drop 0 (List.take (Int.toNat r) out)).length:Int)≤LIM)) then
       bif (decide (((List.drop 0 (List.take (Int.toNat r) out)).length:Int)+(([i]:List Int).length:Int)≤LIM)) then
        bif (cutOK r (out.length:Int) out.length) then
         bif (decide ((((List.drop 0 (List.take (Int.toNat r) out))++[i]).length:Int)+((List.drop (Int.toNat r) (List.take (Int.toNat (out.length:Int)) out)).length:Int)≤LIM)) then
          some (Sum.inl (n_1,(w (Int.tdiv code__1 (w (i+1)))),(((List.drop 0 (List.take (Int.toNat r) out))++[i])++(List.drop (Int.toNat r) (List.take (Int.toNat (out.length:Int)) out))),(w (i+1))))
         else none
        else none
       else none
      else none
     else none
    else none
   else
    some (Sum.inr out)) (n,code_,[],0)).bind fun (out_1:List Int) =>
 some out_1
def sg27:Sig:=⟨[(y2,.sh),(y2,.sh)],[(y26,(.own 3 .sh))]⟩
def plan27:Plan:=(.seq (.reg [] []) (.seq (.reg [] [{ fl:=2 }]) (.seq (.seq (.reg [] []) (.block (.loop [(0,.v y2 .sh),(1,.v y2 .sh),(5,.v y26 (.own 3 .sh)),(6,.v y2 .sh)] [(.brk 0,[(5,.v y26 (.own 3 .sh))])] (.seq (.seq (.reg [] []) (.cond .nil .nil)) (.seq (.block (.seq (.reg [] []) (.seq (.reg [] []) (.reg [(5,[])] [])))) (.reg [] [])))))) (.seq (.reg [] []) .nil))))
theorem ev27 (xs:Vals (ptys sg27.ps)):evF (P:=Tryz.prog) tab [.fn E24] sg27 Tryz.f27.results.toList (code Tryz.f27) plan27 xs=d27 xs.1 xs.2.1:=by kernel_rfl
theorem sim27:Sim Tryz.prog 27 sg27 d27:=sim_ev mixd tabOK Tryz.func27 (code_of rfl) Tryz.call27 (Nat.le_of_ble_eq_true (by kernel_rfl)) (by kernel_rfl) plan27 _ fun xs y h=>(ev27 xs).trans h
noncomputable def E27:FnE Tryz.prog:=⟨27,sg27,d27,sim27⟩
noncomputable def d146 (gs:List (List Int × Int)):Option Bool :=
 (d70 7 gs).bind fun r =>
 some r
noncomputable def d83 (gs:List (List Int × Int)):Option Int :=
 (whileO (β:=Int) (fun ((gs_1,n,i):(List (List Int × Int)) × Int × Int) =>
   letJ (fun ((gs_2,n_1,i_1,t12):(List (List Int × Int)) × Int × Int × Bool) =>
     bif t12 then
      bif (decide (0≤i_1) && decide (i_1 < (gs_2.length:Int))) then
       some (Sum.inl (gs_2,(w (n_1+((List.getD gs_2 (Int.toNat i_1) ([],0)).2))),(w (i_1+1))))
      else none
     else
      some (Sum.inr n_1)) fun j_ =>
   bif (decide (i < (gs_1.length:Int))) then
    (d146 gs_1).bind fun r =>
    j_ (gs_1,n,i,r)
   else
    j_ (gs_1,n,i,false)) (gs,0,0)).bind fun (n_2:Int) =>
 some n_2
noncomputable def d74 (gs:List (List Int × Int)):Option Int :=
 (d83 gs).bind fun r =>
 letJ (fun (n_1:Int) =>
   some n_1) fun j__1 =>
 letJ (fun ((gs_1,n,t15):(List (List Int × Int)) × Int × Bool) =>
   bif t15 then
    bif (decide (0≤0) && decide (0 < (gs_1.length:Int))) then
     j__1 (w (n - ((List.getD gs_1 0 ([],0)).2)))
    else none
   else
    j__1 n) fun j_ =>
 bif (decide (0 < r)) then
  bif (decide (0≤0) && decide (0 < (gs.length:Int))) then
   j_ (gs,r,(decide ((((List.getD gs 0 ([],0)).1).length:Int)=0)))
  else none
 else
  j_ (gs,r,false)
noncomputable def d73 (ballots:Int) (seats:Int):Option Int :=
 letJ (fun ((ballots_1,seats_1,t18):Int × Int × Bool) =>
   bif t18 then
    some 0
   else
    bif (!decide ((w (seats_1+1))=0)) then
     some (w ((w (Int.tdiv ballots_1 (w (seats_1+1))))+1))
    else none) fun j_ =>
 bif !(decide (ballots < 0)) then
  bif !(decide (100000 < ballots)) then
   bif !(decide (seats < 1)) then
    j_ (ballots,seats,(decide (5 < seats)))
   else
    j_ (ballots,seats,true)
  else
   j_ (ballots,seats,true)
 else
  j_ (ballots,seats,true)
noncomputable def d75 (n:Int):Option (List Bool) :=
 (d93 (wu64 n)).bind fun r =>
 some r
noncomputable def d76 (p0:(List (List Bool) × (List Bool × List Int))) (p1:List (List Int × Int)) (p2:List Int) (p3:Int):Option (List (List Bool)) :=
 (whileO (β:=(List (List Bool))) (fun ((t1,t2,t3,t4,t9,t10):(List (List Int × Int)) × (List Int) × Int × (List (List Bool) × (List Bool × List Int)) × (List (List Bool)) × Int) =>
   bif (decide (t10 < (t2.length:Int))) then
    (d75 0).bind fun r =>
    letJ (fun ((t1_1,t2_1,t3_1,t4_1,t9_1,t10_1,t11):(List (List Int × Int)) × (List Int) × Int × (List (List Bool) × (List Bool × List Int)) × (List (List Bool)) × Int × (List Bool)) =>
      (whileO (β:=((List (List Int × Int)) × (List Int) × Int × (List (List Bool) × (List Bool × List Int)) × (List (List Bool)) × Int × (List Bool))) (fun ((t1_2,t2_2,t3_2,t4_2,t9_2,t10_2,t11_1,t12):(List (List Int × Int)) × (List Int) × Int × (List (List Bool) × (List Bool × List Int)) × (List (List Bool)) × Int × (List Bool) × Int) =>
        bif (decide (t12 < (t1_2.length:Int))) then
         letJ (fun ((t1_4,t2_4,t3_4,t4_4,t9_4,t10_4,t11_3,t12_2):(List (List Int × Int)) × (List Int) × Int × (List (List Bool) × (List Bool × List Int)) × (List (List Bool)) × Int × (List Bool) × Int) =>
           some (Sum.inl (t1_4,t2_4,t3_4,t4_4,t9_4,t10_4,t11_3,(w (t12_2+1))))) fun j__2 =>
         letJ (fun ((t1_3,t2_3,t3_3,t4_3,t9_3,t10_3,t11_2,t12_1,t70):(List (List Int × Int)) × (List Int) × Int × (List (List Bool) × (List Bool × List Int)) × (List (List Bool)) × Int × (List Bool) × Int × Bool) =>
           bif t70 then
            bif (decide (0≤t12_1) && decide (t12_1 < (t1_3.length:Int))) then
             (d75 ((List.getD t1_3 (Int.toNat t12_1) ([],0)).2)).bind fun r_3 =>
             bif (decide (0≤t12_1) && decide (t12_1 < (t4_3.1.length:Int))) then
              (d77 r_3 (List.getD t4_3.1 (Int.toNat t12_1) [])).bind fun r_4 =>
              (d79 t11_2 r_4).bind fun r_5 =>
              j__2 (t1_3,t2_3,t3_3,t4_3,t9_3,t10_3,r_5,t12_1)
             else none
            else none
           else
            j__2 (t1_3,t2_3,t3_3,t4_3,t9_3,t10_3,t11_2,t12_1)) fun j__1 =>
         bif (decide (0≤t12) && decide (t12 < (t4_2.2.2.length:Int))) then
          bif (decide (0≤t12) && decide (t12 < (t1_2.length:Int))) then
           bif (decide ((List.getD t4_2.2.2 (Int.toNat t12) 0) < (((List.getD t1_2 (Int.toNat t12) ([],0)).1).length:Int))) then
            bif (decide (0≤t12) && decide (t12 < (t1_2.length:Int))) then
             bif (decide (0≤t12) && decide (t12 < (t4_2.2.2.length:Int))) then
              bif (decide (0≤(List.getD t4_2.2.2 (Int.toNat t12) 0)) && decide ((List.getD t4_2.2.2 (Int.toNat t12) 0) < (((List.getD t1_2 (Int.toNat t12) ([],0)).1).length:Int))) then
               bif (decide ((List.getD ((List.getD t1_2 (Int.toNat t12) ([],0)).1) (Int.toNat (List.getD t4_2.2.2 (Int.toNat t12) 0)) 0)=t10_2)) then
                bif (decide (0≤t10_2) && decide (t10_2 < (t2_2.length:Int))) then
                 j__1 (t1_2,t2_2,t3_2,t4_2,t9_2,t10_2,t11_1,t12,(decide ((List.getD t2_2 (Int.toNat t10_2) 0) < 2)))
                else none
               else
                j__1 (t1_2,t2_2,t3_2,t4_2,t9_2,t10_2,t11_1,t12,false)
              else none
             else none
            else none
           else
            j__1 (t1_2,t2_2,t3_2,t4_2,t9_2,t10_2,t11_1,t12,false)
          else none
         else none
        else
         some (Sum.inr (t1_2,t2_2,t3_2,t4_2,t9_2,t10_2,t11_1))) (t1_1,t2_1,t3_1,t4_1,t9_1,t10_1,t11,0)).bind fun ((t1_5,t2_5,t3_5,t4_5,t9_5,t10_5,t11_4):(List (List Int × Int)) × (List Int) × Int × (List (List Bool) × (List Bool × List Int)) × (List (List Bool)) × Int × (List Bool)) =>
      bif (decide ((t9_5.length:Int)+(([t11_4]:List (List Bool)).length:Int)≤LIM)) then
       some (Sum.inl (t1_5,t2_5,t3_5,t4_5,(t9_5++[t11_4]),(w (t10_5+1))))
      else none) fun j_ =>
    bif (decide (0≤t10) && decide (t10 < (t2.length:Int))) then
     bif (decide ((List.getD t2 (Int.toNat t10) 0)=2)) then
      (d75 t3).bind fun r_1 =>
      (d77 r_1 t4.2.1).bind fun r_2 =>
      j_ (t1,t2,t3,t4,t9,t10,r_2)
     else
      j_ (t1,t2,t3,t4,t9,t10,r)
    else none
   else
    some (Sum.inr t9)) (p1,p2,p3,p0,[],0)).bind fun (t9_6:List (List Bool)) =>
 some t9_6
noncomputable def d78 (a:List Bool) (d:List Bool):Option (Bool × (List Int × List Int)) :=
 (d75 1).bind fun r =>
 (d75 1).bind fun r_1 =>
 (d144 (false,a,r) (false,d,r_1)).bind fun r_2 =>
 (d143 r_2).bind fun r_3 =>
 some r_3
noncomputable def d81 (l:List Int) (c:Int):Option (List Int) :=
 (whileO (β:=((List Int) × Int × (List Int))) (fun ((l_1,c_1,out,i):(List Int) × Int × (List Int) × Int) =>
   bif (decide (i < (l_1.length:Int))) then
    letJ (fun ((l_2,c_2,out_1,i_1):(List Int) × Int × (List Int) × Int) =>
      some (Sum.inl (l_2,c_2,out_1,(w (i_1+1))))) fun j_ =>
    bif (decide (0≤i) && decide (i < (l_1.length:Int))) then
     bif (decide ((List.getD l_1 (Int.toNat i) 0) < c_1)) then
      bif (decide (0≤i) && decide (i < (l_1.length:Int))) then
       bif (decide ((out.length:Int)+(([(List.getD l_1 (Int.toNat i) 0)]:List Int).length:Int)≤LIM)) then
        j_ (l_1,c_1,(out++[(List.getD l_1 (Int.toNat i) 0)]),i)
       else none
      else none
     else
      j_ (l_1,c_1,out,i)
    else none
   else
    some (Sum.inr (l_1,c_1,out))) (l,c,[],0)).bind fun ((l_3,c_3,out_2):(List Int) × Int × (List Int)) =>
 bif (decide ((out_2.length:Int)+(([c_3]:List Int).length:Int)≤LIM)) then
  (whileO (β:=(List Int)) (fun ((l_4,c_4,out_3,i_2):(List Int) × Int × (List Int) × Int) =>
    bif (decide (i_2 < (l_4.length:Int))) then
     letJ (fun ((l_5,c_5,out_4,i_3):(List Int) × Int × (List Int) × Int) =>
       some (Sum.inl (l_5,c_5,out_4,(w (i_3+1))))) fun j__1 =>
     bif (decide (0≤i_2) && decide (i_2 < (l_4.length:Int))) then
      bif (decide (c_4 < (List.getD l_4 (Int.toNat i_2) 0))) then
       bif (decide (0≤i_2) && decide (i_2 < (l_4.length:Int))) then
        bif (decide ((out_3.length:Int)+(([(List.getD l_4 (Int.toNat i_2) 0)]:List Int).length:Int)≤LIM)) then
         j__1 (l_4,c_4,(out_3++[(List.getD l_4 (Int.toNat i_2) 0)]),i_2)
        else none
       else none
      else
       j__1 (l_4,c_4,out_3,i_2)
     else none
    else
     some (Sum.inr out_3)) (l_3,c_3,(out_2++[c_3]),0)).bind fun (out_5:List Int) =>
  some out_5
 else none
noncomputable def d84 (state:List Int) (s:Int):Option Int :=
 (whileO (β:=Int) (fun ((state_1,s_1,n,i):(List Int) × Int × Int × Int) =>
   bif (decide (i < (state_1.length:Int))) then
    letJ (fun ((state_2,s_2,n_1,i_1):(List Int) × Int × Int × Int) =>
      some (Sum.inl (state_2,s_2,n_1,(w (i_1+1))))) fun j_ =>
    bif (decide (0≤i) && decide (i < (state_1.length:Int))) then
     bif (decide ((List.getD state_1 (Int.toNat i) 0)=s_1)) then
      j_ (state_1,s_1,(w (n+1)),i)
     else
      j_ (state_1,s_1,n,i)
    else none
   else
    some (Sum.inr n)) (state,s,0,0)).bind fun (n_2:Int) =>
 some n_2
noncomputable def d85 (elected:List Int) (state:List Int):Option ((List Int) × (List Int)) :=
 (whileO (β:=((List Int) × (List Int))) (fun ((elected_1,state_1,i):(List Int) × (List Int) × Int) =>
   bif (decide (i < (state_1.length:Int))) then
    letJ (fun ((elected_2,state_2,i_1):(List Int) × (List Int) × Int) =>
      some (Sum.inl (elected_2,state_2,(w (i_1+1))))) fun j_ =>
    bif (decide (0≤i) && decide (i < (state_1.length:Int))) then
     bif (decide ((List.getD state_1 (Int.toNat i) 0)=0)) then
      (d81 elected_1 i).bind fun r =>
      bif (decide (0≤i) && decide (i < (state_1.length:Int))) then
       j_ (r,(List.set state_1 (Int.toNat i) 1),i)
      else none
     else
      j_ (elected_1,state_1,i)
    else none
   else
    some (Sum.inr (elected_1,state_1))) (elected,state,0)).bind fun ((elected_3,state_3):(List Int) × (List Int)) =>
 some (elected_3,state_3)
noncomputable def d86 (t:(Int × (Int × (Int × (Int × (List (List (Bool × (List Int × List Int)) × (List (Bool × (List Int × List Int)) × ((Bool × (List Int × List Int)) × ((Bool × (List Int × List Int)) × ((Bool × (List Int × List Int)) × (List Int × (List Int × List Int))))))) × List Int)))))):Option (List Int) :=
 (whileO (β:=(List Int)) (fun ((t_1,out,i):(Int × (Int × (Int × (Int × (List (List (Bool × (List Int × List Int)) × (List (Bool × (List Int × List Int)) × ((Bool × (List Int × List Int)) × ((Bool × (List Int × List Int)) × ((Bool × (List Int × List Int)) × (List Int × (List Int × List Int))))))) × List Int))))) × (List Int) × Int) =>
   bif (decide (i < (t_1.2.2.2.2.1.length:Int))) then
    bif (decide (0≤i) && decide (i < (t_1.2.2.2.2.1.length:Int))) then
     bif (decide ((out.length:Int)+((((((((List.getD t_1.2.2.2.2.1 (Int.toNat i) ([],[],(false,[],[]),(false,[],[]),(false,[],[]),[],[],[])).2).2).2).2).2).1).length:Int)≤LIM)) then
      some (Sum.inl (t_1,(out++((((((List.getD t_1.2.2.2.2.1 (Int.toNat i) ([],[],(false,[],[]),(false,[],[]),(false,[],[]),[],[],[])).2).2).2).2).2).1),(w (i+1))))
     else none
    else none
   else
    some (Sum.inr out)) (t,[],0)).bind fun (out_1:List Int) =>
 some out_1
noncomputable def d87 (p0:List (List Bool)) (p1:List Int) (p2:Int) (p3:Bool):Option (List Int) :=
 (whileO (β:=(List Int)) (fun ((t0,t1,t2,t3,t9,t10):(List (List Bool)) × (List Int) × Int × Bool × (List Int) × Int) =>
   bif (decide (t10 < (t0.length:Int))) then
    letJ (fun ((t0_5,t1_5,t2_5,t3_5,t9_5,t10_5):(List (List Bool)) × (List Int) × Int × Bool × (List Int) × Int) =>
      some (Sum.inl (t0_5,t1_5,t2_5,t3_5,t9_5,(w (t10_5+1))))) fun j__2 =>
    bif (decide (0≤t10) && decide (t10 < (t1.length:Int))) then
     (whileO (β:=((List (List Bool)) × (List Int) × Int × Bool × (List Int) × Int × Bool)) (fun ((t0_1,t1_1,t2_1,t3_1,t9_1,t10_1,t11,t12):(List (List Bool)) × (List Int) × Int × Bool × (List Int) × Int × Bool × Int) =>
       bif (decide (t12 < (t0_1.length:Int))) then
        letJ (fun ((t0_3,t1_3,t2_3,t3_3,t9_3,t10_3,t11_2,t12_2):(List (List Bool)) × (List Int) × Int × Bool × (List Int) × Int × Bool × Int) =>
          some (Sum.inl (t0_3,t1_3,t2_3,t3_3,t9_3,t10_3,t11_2,(w (t12_2+1))))) fun j__1 =>
        bif (decide (0≤t12) && decide (t12 < (t0_1.length:Int))) then
         bif (decide (0≤t10_1) && decide (t10_1 < (t0_1.length:Int))) then
          (d80 (List.getD t0_1 (Int.toNat t12) []) (List.getD t0_1 (Int.toNat t10_1) [])).bind fun r =>
          letJ (fun ((t0_2,t1_2,t2_2,t3_2,t9_2,t10_2,t11_1,t12_1,t61):(List (List Bool)) × (List Int) × Int × Bool × (List Int) × Int × Bool × Int × Bool) =>
            bif t61 then
             j__1 (t0_2,t1_2,t2_2,t3_2,t9_2,t10_2,false,t12_1)
            else
             j__1 (t0_2,t1_2,t2_2,t3_2,t9_2,t10_2,t11_1,t12_1)) fun j_ =>
          bif (decide (0≤t12) && decide (t12 < (t1_1.length:Int))) then
           bif (decide ((List.getD t1_1 (Int.toNat t12) 0)=t2_1)) then
            bif t3_1 then
             bif !(decide (0 < r)) then
              bif !t3_1 then
               j_ (t0_1,t1_1,t2_1,t3_1,t9_1,t10_1,t11,t12,(decide (r < 0)))
              else
               j_ (t0_1,t1_1,t2_1,t3_1,t9_1,t10_1,t11,t12,false)
             else
              j_ (t0_1,t1_1,t2_1,t3_1,t9_1,t10_1,t11,t12,true)
            else
             bif !t3_1 then
              j_ (t0_1,t1_1,t2_1,t3_1,t9_1,t10_1,t11,t12,(decide (r < 0)))
             else
              j_ (t0_1,t1_1,t2_1,t3_1,t9_1,t10_1,t11,t12,false)
           else
            j_ (t0_1,t1_1,t2_1,t3_1,t9_1,t10_1,t11,t12,false)
          else none
         else none
        else none
       else
        some (Sum.inr (t0_1,t1_1,t2_1,t3_1,t9_1,t10_1,t11))) (t0,t1,t2,t3,t9,t10,(decide ((List.getD t1 (Int.toNat t10) 0)=t2)),0)).bind fun ((t0_4,t1_4,t2_4,t3_4,t9_4,t10_4,t11_3):(List (List Bool)) × (List Int) × Int × Bool × (List Int) × Int × Bool) =>
     bif t11_3 then
      bif (decide ((t9_4.length:Int)+(([t10_4]:List Int).length:Int)≤LIM)) then
       j__2 (t0_4,t1_4,t2_4,t3_4,(t9_4++[t10_4]),t10_4)
      else none
     else
      j__2 (t0_4,t1_4,t2_4,t3_4,t9_4,t10_4)
    else none
   else
    some (Sum.inr t9)) (p0,p1,p2,p3,[],0)).bind fun (t9_6:List Int) =>
 some t9_6
noncomputable def d89 (rounds:List (List (Bool × (List Int × List Int)) × (List (Bool × (List Int × List Int)) × ((Bool × (List Int × List Int)) × ((Bool × (List Int × List Int)) × ((Bool × (List Int × List Int)) × (List Int × (List Int × List Int)))))))):Option ((List (List (Bool × (List Int × List Int)))) × (List (List (Bool × (List Int × List Int)) × (List (Bool × (List Int × List Int)) × ((Bool × (List Int × List Int)) × ((Bool × (List Int × List Int)) × ((Bool × (List Int × List Int)) × (List Int × (List Int × List Int))))))))) :=
 (whileO (β:=((List (List (Bool × (List Int × List Int)) × (List (Bool × (List Int × List Int)) × ((Bool × (List Int × List Int)) × ((Bool × (List Int × List Int)) × ((Bool × (List Int × List Int)) × (List Int × (List Int × List Int)))))))) × (List (List (Bool × (List Int × List Int)))))) (fun ((rounds_1,out,i):(List (List (Bool × (List Int × List Int)) × (List (Bool × (List Int × List Int)) × ((Bool × (List Int × List Int)) × ((Bool × (List Int × List Int)) × ((Bool × (List Int × List Int)) × (List Int × (List Int × List Int)))))))) × (List (List (Bool × (List Int × List Int)))) × Int) =>
   bif (decide (i < (rounds_1.length:Int))) then
    bif (decide (0≤i) && decide (i < (rounds_1.length:Int))) then
     bif (decide ((out.length:Int)+(([(List.getD rounds_1 (Int.toNat i) ([],[],(false,[],[]),(false,[],[]),(false,[],[]),[],[],[])).1]:List (List (Bool × (List Int × List Int)))).length:Int)≤LIM)) then
      some (Sum.inl (rounds_1,(out++[(List.getD rounds_1 (Int.toNat i) ([],[],(false,[],[]),(false,[],[]),(false,[],[]),[],[],[])).1]),(w (i+1))))
     else none
    else none
   else
    some (Sum.inr (rounds_1,out))) (rounds,[],0)).bind fun ((rounds_2,out_1):(List (List (Bool × (List Int × List Int)) × (List (Bool × (List Int × List Int)) × ((Bool × (List Int × List Int)) × ((Bool × (List Int × List Int)) × ((Bool × (List Int × List Int)) × (List Int × (List Int × List Int)))))))) × (List (List (Bool × (List Int × List Int))))) =>
 some (out_1,rounds_2)
noncomputable def d147 (rule:Int) (tied:List Int) (lots:List Int):Option Bool :=
 letJ (fun ((tied_1,t42):(List Int) × Bool) =>
   bif t42 then
    some false
   else
    (whileO (β:=Unit ⊕ Bool) (fun ((tied_2,i):(List Int) × Int) =>
      bif (decide (i < (tied_2.length:Int))) then
       bif (decide (0≤(w (i - 1))) && decide ((w (i - 1)) < (tied_2.length:Int))) then
        bif (decide (0≤i) && decide (i < (tied_2.length:Int))) then
         bif (decide ((List.getD tied_2 (Int.toNat i) 0)≤(List.getD tied_2 (Int.toNat (w (i - 1))) 0))) then
          some (Sum.inr (Sum.inr false))
         else
          some (Sum.inl (tied_2,(w (i+1))))
        else none
       else none
      else
       some (Sum.inr (Sum.inl ()))) (tied_1,1)).bind fun
    | Sum.inl _ =>
     some true
    | Sum.inr t6 =>
     some t6) fun j_ =>
 bif !(decide (rule < 1)) then
  bif !(decide (3 < rule)) then
   bif !(decide ((lots.length:Int) < 1)) then
    bif !(decide (7 < (lots.length:Int))) then
     (d71 (lots.length:Int) lots).bind fun r =>
     bif !(!r) then
      bif !(decide ((tied.length:Int)=0)) then
       (d32 (lots.length:Int) tied).bind fun r_1 =>
       j_ (tied,!r_1)
      else
       j_ (tied,true)
     else
      j_ (tied,true)
    else
     j_ (tied,true)
   else
    j_ (tied,true)
  else
   j_ (tied,true)
 else
  j_ (tied,true)
noncomputable def d183 (votes:List (Bool × (List Int × List Int))) (c:Int):Option (Bool × (List Int × List Int)) :=
 bif (decide (c < (votes.length:Int))) then
  bif (decide (0≤c) && decide (c < (votes.length:Int))) then
   some (List.getD votes (Int.toNat c) (false,[],[]))
  else none
 else
  (d39 0).bind fun r =>
  some r
noncomputable def d211 (a:(Bool × (List Int × List Int))):Option Bool :=
 bif !a.1 then
  bif (decide ((a.2.1.length:Int)≤1)) then
   bif (decide ((a.2.2.length:Int)=1)) then
    bif (decide (0≤0) && decide (0 < (a.2.2.length:Int))) then
     some (decide (0 < (List.getD a.2.2 0 0)))
    else none
   else
    some false
  else
   some false
 else
  some false
noncomputable def d212 (a:(Bool × (List Int × List Int))) (b:(Bool × (List Int × List Int))):Option Int :=
 bif (decide ((a.2.1.length:Int)=0)) then
  some 0
 else
  bif (decide (0≤0) && decide (0 < (a.2.1.length:Int))) then
   bif (decide (0≤0) && decide (0 < (b.2.2.length:Int))) then
    some (wu64 ((wu64 (List.getD a.2.1 0 0)) * (wu64 (List.getD b.2.2 0 0))))
   else none
  else none
noncomputable def d182 (a:(Bool × (List Int × List Int))) (b:(Bool × (List Int × List Int))):Option Int :=
 letJ (fun ((a_1,b_1,t14):(Bool × (List Int × List Int)) × (Bool × (List Int × List Int)) × Bool) =>
   bif t14 then
    (d34 a_1).bind fun r_2 =>
    (d34 b_1).bind fun r_3 =>
    (d36 r_2 r_3).bind fun r_4 =>
    some r_4
   else
    (d212 a_1 b_1).bind fun r_5 =>
    (d212 b_1 a_1).bind fun r_6 =>
    bif (decide (r_5 < r_6)) then
     some (-1)
    else
     bif (decide (r_6 < r_5)) then
      some 1
     else
      some 0) fun j_ =>
 (d211 a).bind fun r =>
 bif !(!r) then
  (d211 b).bind fun r_1 =>
  j_ (a,b,!r_1)
 else
  j_ (a,b,true)
noncomputable def d148 (votes:List (Bool × (List Int × List Int))) (l:List Int) (least:Bool):Option (List Int) :=
 (whileO (β:=(List Int)) (fun ((votes_1,l_1,least_1,out,i):(List (Bool × (List Int × List Int))) × (List Int) × Bool × (List Int) × Int) =>
   bif (decide (i < (l_1.length:Int))) then
    letJ (fun ((votes_6,l_6,least_6,out_5,i_5):(List (Bool × (List Int × List Int))) × (List Int) × Bool × (List Int) × Int) =>
      some (Sum.inl (votes_6,l_6,least_6,out_5,(w (i_5+1))))) fun j__2 =>
    (whileO (β:=((List (Bool × (List Int × List Int))) × (List Int) × Bool × (List Int) × Int × Bool)) (fun ((votes_2,l_2,least_2,out_1,i_1,best,k):(List (Bool × (List Int × List Int))) × (List Int) × Bool × (List Int) × Int × Bool × Int) =>
      bif (decide (k < (l_2.length:Int))) then
       letJ (fun ((votes_4,l_4,least_4,out_3,i_3,best_2,k_2):(List (Bool × (List Int × List Int))) × (List Int) × Bool × (List Int) × Int × Bool × Int) =>
         some (Sum.inl (votes_4,l_4,least_4,out_3,i_3,best_2,(w (k_2+1))))) fun j__1 =>
       bif (decide (0≤k) && decide (k < (l_2.length:Int))) then
        (d183 votes_2 (List.getD l_2 (Int.toNat k) 0)).bind fun r =>
        bif (decide (0≤i_1) && decide (i_1 < (l_2.length:Int))) then
         (d183 votes_2 (List.getD l_2 (Int.toNat i_1) 0)).bind fun r_1 =>
         (d182 r r_1).bind fun r_2 =>
         letJ (fun ((votes_3,l_3,least_3,out_2,i_2,best_1,k_1,t49):(List (Bool × (List Int × List Int))) × (List Int) × Bool × (List Int) × Int × Bool × Int × Bool) =>
           bif t49 then
            j__1 (votes_3,l_3,least_3,out_2,i_2,false,k_1)
           else
            j__1 (votes_3,l_3,least_3,out_2,i_2,best_1,k_1)) fun j_ =>
         bif least_2 then
          bif !(decide (r_2 < 0)) then
           bif !least_2 then
            j_ (votes_2,l_2,least_2,out_1,i_1,best,k,(decide (0 < r_2)))
           else
            j_ (votes_2,l_2,least_2,out_1,i_1,best,k,false)
          else
           j_ (votes_2,l_2,least_2,out_1,i_1,best,k,true)
         else
          bif !least_2 then
           j_ (votes_2,l_2,least_2,out_1,i_1,best,k,(decide (0 < r_2)))
          else
           j_ (votes_2,l_2,least_2,out_1,i_1,best,k,false)
        else none
       else none
      else
       some (Sum.inr (votes_2,l_2,least_2,out_1,i_1,best))) (votes_1,l_1,least_1,out,i,true,0)).bind fun ((votes_5,l_5,least_5,out_4,i_4,best_3):(List (Bool × (List Int × List Int))) × (List Int) × Bool × (List Int) × Int × Bool) =>
    bif best_3 then
     bif (decide (0≤i_4) && decide (i_4 < (l_5.length:Int))) then
      bif (decide ((out_4.length:Int)+(([(List.getD l_5 (Int.toNat i_4) 0)]:List Int).length:Int)≤LIM)) then
       j__2 (votes_5,l_5,least_5,(out_4++[(List.getD l_5 (Int.toNat i_4) 0)]),i_4)
      else none
     else none
    else
     j__2 (votes_5,l_5,least_5,out_4,i_4)
   else
    some (Sum.inr out)) (votes,l,least,[],0)).bind fun (out_6:List Int) =>
 some out_6
noncomputable def d149 (p:List Int) (x:Int):Option Int :=
 (whileO (β:=(List Int) ⊕ Int) (fun ((p_1,x_1,i):(List Int) × Int × Int) =>
   bif (decide (i < (p_1.length:Int))) then
    bif (decide (0≤i) && decide (i < (p_1.length:Int))) then
     bif (decide ((List.getD p_1 (Int.toNat i) 0)=x_1)) then
      some (Sum.inr (Sum.inr i))
     else
      some (Sum.inl (p_1,x_1,(w (i+1))))
    else none
   else
    some (Sum.inr (Sum.inl p_1))) (p,x,0)).bind fun
 | Sum.inl p_2 =>
  some (p_2.length:Int)
 | Sum.inr t4 =>
  some t4
noncomputable def d88 (p0:Int) (p1:List (List (Bool × (List Int × List Int)))) (p2:List Int) (p3:List Int) (p4:Bool):Option (Int × Bool) :=
 (d147 p0 p2 p3).bind fun r =>
 bif !r then
  some ((-1),false)
 else
  (whileO (β:=((List Int) × Bool × (List Int))) (fun ((t0,t1,t3,t4,t12,t13):Int × (List (List (Bool × (List Int × List Int)))) × (List Int) × Bool × (List Int) × Int) =>
    letJ (fun ((t0_1,t1_1,t3_1,t4_1,t12_1,t13_1,t30):Int × (List (List (Bool × (List Int × List Int)))) × (List Int) × Bool × (List Int) × Int × Bool) =>
      bif t30 then
       letJ (fun ((t0_3,t1_3,t3_3,t4_3,t12_3,t13_3):Int × (List (List (Bool × (List Int × List Int)))) × (List Int) × Bool × (List Int) × Int) =>
         some (Sum.inl (t0_3,t1_3,t3_3,t4_3,t12_3,(w (t13_3+1))))) fun j__2 =>
       letJ (fun ((t0_2,t1_2,t3_2,t4_2,t12_2,t13_2,t14):Int × (List (List (Bool × (List Int × List Int)))) × (List Int) × Bool × (List Int) × Int × Int) =>
         bif (decide (1 < (t12_2.length:Int))) then
          bif (decide (0≤t14) && decide (t14 < (t1_2.length:Int))) then
           (d148 (List.getD t1_2 (Int.toNat t14) []) t12_2 t4_2).bind fun r_1 =>
           j__2 (t0_2,t1_2,t3_2,t4_2,r_1,t13_2)
          else none
         else
          j__2 (t0_2,t1_2,t3_2,t4_2,t12_2,t13_2)) fun j__1 =>
       bif (decide (t0_1=1)) then
        j__1 (t0_1,t1_1,t3_1,t4_1,t12_1,t13_1,(w ((w ((t1_1.length:Int) - 1)) - t13_1)))
       else
        j__1 (t0_1,t1_1,t3_1,t4_1,t12_1,t13_1,t13_1)
      else
       some (Sum.inr (t3_1,t4_1,t12_1))) fun j_ =>
    bif (decide (t13 < (t1.length:Int))) then
     j_ (t0,t1,t3,t4,t12,t13,!(decide (t0=3)))
    else
     j_ (t0,t1,t3,t4,t12,t13,false)) (p0,p1,p3,p4,p2,0)).bind fun ((t3_4,t4_4,t12_4):(List Int) × Bool × (List Int)) =>
  bif (decide ((t12_4.length:Int)=1)) then
   bif (decide (0≤0) && decide (0 < (t12_4.length:Int))) then
    some ((List.getD t12_4 0 0),false)
   else none
  else
   bif (decide (0≤0) && decide (0 < (t12_4.length:Int))) then
    (whileO (β:=Int) (fun ((t3_5,t4_5,t12_5,t15,t16):(List Int) × Bool × (List Int) × Int × Int) =>
      bif (decide (t16 < (t12_5.length:Int))) then
       letJ (fun ((t3_6,t4_6,t12_6,t15_1,t16_1):(List Int) × Bool × (List Int) × Int × Int) =>
         some (Sum.inl (t3_6,t4_6,t12_6,t15_1,(w (t16_1+1))))) fun j__3 =>
       bif (decide (0≤t16) && decide (t16 < (t12_5.length:Int))) then
        (d149 t3_5 (List.getD t12_5 (Int.toNat t16) 0)).bind fun r_2 =>
        (d149 t3_5 t15).bind fun r_3 =>
        bif ((decide (r_3 < r_2)) == t4_5) then
         bif (decide (0≤t16) && decide (t16 < (t12_5.length:Int))) then
          j__3 (t3_5,t4_5,t12_5,(List.getD t12_5 (Int.toNat t16) 0),t16)
         else none
        else
         j__3 (t3_5,t4_5,t12_5,t15,t16)
       else none
      else
       some (Sum.inr t15)) (t3_4,t4_4,t12_4,(List.getD t12_4 0 0),1)).bind fun (t15_2:Int) =>
    some (t15_2,true)
   else none
noncomputable def d150 (p:List Int) (state:List Int) (k:Int):Option Int :=
 (whileO (β:=Int) (fun ((p_1,state_1,k_1):(List Int) × (List Int) × Int) =>
   letJ (fun ((p_2,state_2,k_2,t20):(List Int) × (List Int) × Int × Bool) =>
     bif t20 then
      some (Sum.inl (p_2,state_2,(w (k_2+1))))
     else
      some (Sum.inr k_2)) fun j_ =>
   bif (decide (k_1 < (p_1.length:Int))) then
    bif (decide (0≤k_1) && decide (k_1 < (p_1.length:Int))) then
     bif (decide (0≤(List.getD p_1 (Int.toNat k_1) 0)) && decide ((List.getD p_1 (Int.toNat k_1) 0) < (state_1.length:Int))) then
      j_ (p_1,state_1,k_1,!(decide ((List.getD state_1 (Int.toNat (List.getD p_1 (Int.toNat k_1) 0)) 0)=0)))
     else none
    else none
   else
    j_ (p_1,state_1,k_1,false)) (p,state,k)).bind fun (k_3:Int) =>
 some k_3
noncomputable def d90 (p0:(List (List Bool) × (List Bool × List Int))) (p1:List (List Int × Int)) (p2:List Int) (p3:Int) (p4:List Bool) (p5:List Bool):Option (List (List Bool) × (List Bool × List Int)) :=
 (d77 p0.2.1 p5).bind fun r =>
 (whileO (β:=((List (List Bool) × (List Bool × List Int)) × (List (List Bool) × (List Bool × List Int)))) (fun ((t1,t2,t3,t4,t5,t6,t12,t13,t14):(List (List Int × Int)) × (List Int) × Int × (List Bool) × (List Bool) × (List (List Bool) × (List Bool × List Int)) × (List (List Bool) × (List Bool × List Int)) × (List (List Bool) × (List Bool × List Int)) × Int) =>
   bif (decide (t14 < (t1.length:Int))) then
    letJ (fun ((t1_2,t2_2,t3_2,t4_2,t5_2,t6_2,t12_2,t13_2,t14_2):(List (List Int × Int)) × (List Int) × Int × (List Bool) × (List Bool) × (List (List Bool) × (List Bool × List Int)) × (List (List Bool) × (List Bool × List Int)) × (List (List Bool) × (List Bool × List Int)) × Int) =>
      some (Sum.inl (t1_2,t2_2,t3_2,t4_2,t5_2,t6_2,t12_2,t13_2,(w (t14_2+1))))) fun j__1 =>
    bif (decide (0≤t14) && decide (t14 < (t1.length:Int))) then
     letJ (fun ((t1_1,t2_1,t3_1,t4_1,t5_1,t6_1,t12_1,t13_1,t14_1,t15,t51):(List (List Int × Int)) × (List Int) × Int × (List Bool) × (List Bool) × (List (List Bool) × (List Bool × List Int)) × (List (List Bool) × (List Bool × List Int)) × (List (List Bool) × (List Bool × List Int)) × Int × (List Int) × Bool) =>
       bif t51 then
        bif (decide (0≤t14_1) && decide (t14_1 < (t6_1.1.length:Int))) then
         (d77 (List.getD t6_1.1 (Int.toNat t14_1) []) t4_1).bind fun r_1 =>
         bif (decide ((t13_1.1.length:Int)+(([r_1]:List (List Bool)).length:Int)≤LIM)) then
          bif (decide (0≤t14_1) && decide (t14_1 < (t6_1.2.2.length:Int))) then
           (d150 t15 t2_1 (w ((List.getD t6_1.2.2 (Int.toNat t14_1) 0)+1))).bind fun r_2 =>
           bif (decide ((t13_1.2.2.length:Int)+(([r_2]:List Int).length:Int)≤LIM)) then
            j__1 (t1_1,t2_1,t3_1,t4_1,t5_1,t6_1,t12_1,((t13_1.1++[r_1]),t13_1.2.1,(t13_1.2.2++[r_2])),t14_1)
           else none
          else none
         else none
        else none
       else
        bif (decide (0≤t14_1) && decide (t14_1 < (t6_1.1.length:Int))) then
         (d77 (List.getD t6_1.1 (Int.toNat t14_1) []) t5_1).bind fun r_3 =>
         bif (decide ((t13_1.1.length:Int)+(([r_3]:List (List Bool)).length:Int)≤LIM)) then
          bif (decide (0≤t14_1) && decide (t14_1 < (t6_1.2.2.length:Int))) then
           bif (decide ((t13_1.2.2.length:Int)+(([(List.getD t6_1.2.2 (Int.toNat t14_1) 0)]:List Int).length:Int)≤LIM)) then
            j__1 (t1_1,t2_1,t3_1,t4_1,t5_1,t6_1,t12_1,((t13_1.1++[r_3]),t13_1.2.1,(t13_1.2.2++[(List.getD t6_1.2.2 (Int.toNat t14_1) 0)])),t14_1)
           else none
          else none
         else none
        else none) fun j_ =>
     bif (decide (0≤t14) && decide (t14 < (t6.2.2.length:Int))) then
      bif (decide ((List.getD t6.2.2 (Int.toNat t14) 0) < (((List.getD t1 (Int.toNat t14) ([],0)).1).length:Int))) then
       bif (decide (0≤t14) && decide (t14 < (t6.2.2.length:Int))) then
        bif (decide (0≤(List.getD t6.2.2 (Int.toNat t14) 0)) && decide ((List.getD t6.2.2 (Int.toNat t14) 0) < (((List.getD t1 (Int.toNat t14) ([],0)).1).length:Int))) then
         j_ (t1,t2,t3,t4,t5,t6,t12,t13,t14,(List.getD t1 (Int.toNat t14) ([],0)).1,(decide ((List.getD ((List.getD t1 (Int.toNat t14) ([],0)).1) (Int.toNat (List.getD t6.2.2 (Int.toNat t14) 0)) 0)=t3)))
        else none
       else none
      else
       j_ (t1,t2,t3,t4,t5,t6,t12,t13,t14,(List.getD t1 (Int.toNat t14) ([],0)).1,false)
     else none
    else none
   else
    some (Sum.inr (t12,t13))) (p1,p2,p3,p4,p5,p0,([],[],[]),([],r,[]),0)).bind fun ((t12_3,t13_3):(List (List Bool) × (List Bool × List Int)) × (List (List Bool) × (List Bool × List Int))) =>
 some t13_3
noncomputable def d28 (p0:(List Int × (List (List Int) × (Int × (Int × (Int × (Int × (Int × (Int × Int))))))))) (p1:List (List Int × Int)) (p2:List Int):Option ((Int × (Int × (Int × (Int × (List (List (Bool × (List Int × List Int)) × (List (Bool × (List Int × List Int)) × ((Bool × (List Int × List Int)) × ((Bool × (List Int × List Int)) × ((Bool × (List Int × List Int)) × (List Int × (List Int × List Int))))))) × List Int))))) × Int) :=
 (d23 3 p0 p1 p2).bind fun r =>
 bif !(decide (r=0)) then
  some ((0,0,0,0,[],[]),r)
 else
  (d74 p1).bind fun r_1 =>
  (d73 r_1 p0.2.2.2.1).bind fun r_2 =>
  bif (decide ((p0.2.1.length:Int)=(p0.2.1.length:Int)) && (decide (0≤(p0.2.1.length:Int)) && decide ((p0.2.1.length:Int)≤LIM))) then
   (d75 1).bind fun r_3 =>
   (whileO (β:=((List (List Int × Int)) × (List Int) × (List Int × (List (List Int) × (Int × (Int × (Int × (Int × (Int × (Int × Int)))))))) × (Int × (Int × (Int × (Int × (List (List (Bool × (List Int × List Int)) × (List (Bool × (List Int × List Int)) × ((Bool × (List Int × List Int)) × ((Bool × (List Int × List Int)) × ((Bool × (List Int × List Int)) × (List Int × (List Int × List Int))))))) × List Int))))) × Int × Int × (Int × (Int × (Int × (Int × (List (List (Bool × (List Int × List Int)) × (List (Bool × (List Int × List Int)) × ((Bool × (List Int × List Int)) × ((Bool × (List Int × List Int)) × ((Bool × (List Int × List Int)) × (List Int × (List Int × List Int))))))) × List Int))))) × (List Int) × (List (List Bool) × (List Bool × List Int)) × (List (Bool × (List Int × List Int))))) (fun ((t1,t2,t3,t6,t9,t10,t11,t12,t13,t14,t15):(List (List Int × Int)) × (List Int) × (List Int × (List (List Int) × (Int × (Int × (Int × (Int × (Int × (Int × Int)))))))) × (Int × (Int × (Int × (Int × (List (List (Bool × (List Int × List Int)) × (List (Bool × (List Int × List Int)) × ((Bool × (List Int × List Int)) × ((Bool × (List Int × List Int)) × ((Bool × (List Int × List Int)) × (List Int × (List Int × List Int))))))) × List Int))))) × Int × Int × (Int × (Int × (Int × (Int × (List (List (Bool × (List Int × List Int)) × (List (Bool × (List Int × List Int)) × ((Bool × (List Int × List Int)) × ((Bool × (List Int × List Int)) × ((Bool × (List Int × List Int)) × (List Int × (List Int × List Int))))))) × List Int))))) × (List Int) × (List (List Bool) × (List Bool × List Int)) × (List (Bool × (List Int × List Int))) × Int) =>
     bif (decide (t15 < t9)) then
      (d39 1).bind fun r_4 =>
      bif (decide ((t14.length:Int)+(([r_4]:List (Bool × (List Int × List Int))).length:Int)≤LIM)) then
       some (Sum.inl (t1,t2,t3,t6,t9,t10,t11,t12,t13,(t14++[r_4]),(w (t15+1))))
      else none
     else
      some (Sum.inr (t1,t2,t3,t6,t9,t10,t11,t12,t13,t14))) (p1,p2,p0,(0,0,0,0,[],[]),(p0.2.1.length:Int),r_2,(3,p0.2.2.2.1,0,(p0.2.1.length:Int),[],[]),(List.replicate (Int.toNat (p0.2.1.length:Int)) 0),([],r_3,[]),[],0)).bind fun ((t1_1,t2_1,t3_1,t6_1,t9_1,t10_1,t11_1,t12_1,t13_1,t14_1):(List (List Int × Int)) × (List Int) × (List Int × (List (List Int) × (Int × (Int × (Int × (Int × (Int × (Int × Int)))))))) × (Int × (Int × (Int × (Int × (List (List (Bool × (List Int × List Int)) × (List (Bool × (List Int × List Int)) × ((Bool × (List Int × List Int)) × ((Bool × (List Int × List Int)) × ((Bool × (List Int × List Int)) × (List Int × (List Int × List Int))))))) × List Int))))) × Int × Int × (Int × (Int × (Int × (Int × (List (List (Bool × (List Int × List Int)) × (List (Bool × (List Int × List Int)) × ((Bool × (List Int × List Int)) × ((Bool × (List Int × List Int)) × ((Bool × (List Int × List Int)) × (List Int × (List Int × List Int))))))) × List Int))))) × (List Int) × (List (List Bool) × (List Bool × List Int)) × (List (Bool × (List Int × List Int)))) =>
   (whileO (β:=((List (List Int × Int)) × (List Int) × (List Int × (List (List Int) × (Int × (Int × (Int × (Int × (Int × (Int × Int)))))))) × (Int × (Int × (Int × (Int × (List (List (Bool × (List Int × List Int)) × (List (Bool × (List Int × List Int)) × ((Bool × (List Int × List Int)) × ((Bool × (List Int × List Int)) × ((Bool × (List Int × List Int)) × (List Int × (List Int × List Int))))))) × List Int))))) × Int × Int × (Int × (Int × (Int × (Int × (List (List (Bool × (List Int × List Int)) × (List (Bool × (List Int × List Int)) × ((Bool × (List Int × List Int)) × ((Bool × (List Int × List Int)) × ((Bool × (List Int × List Int)) × (List Int × (List Int × List Int))))))) × List Int))))) × (List Int) × (List (List Bool) × (List Bool × List Int)) × (List (Bool × (List Int × List Int))))) (fun ((t1_2,t2_2,t3_2,t6_2,t9_2,t10_2,t11_2,t12_2,t13_2,t14_2,t16):(List (List Int × Int)) × (List Int) × (List Int × (List (List Int) × (Int × (Int × (Int × (Int × (Int × (Int × Int)))))))) × (Int × (Int × (Int × (Int × (List (List (Bool × (List Int × List Int)) × (List (Bool × (List Int × List Int)) × ((Bool × (List Int × List Int)) × ((Bool × (List Int × List Int)) × ((Bool × (List Int × List Int)) × (List Int × (List Int × List Int))))))) × List Int))))) × Int × Int × (Int × (Int × (Int × (Int × (List (List (Bool × (List Int × List Int)) × (List (Bool × (List Int × List Int)) × ((Bool × (List Int × List Int)) × ((Bool × (List Int × List Int)) × ((Bool × (List Int × List Int)) × (List Int × (List Int × List Int))))))) × List Int))))) × (List Int) × (List (List Bool) × (List Bool × List Int)) × (List (Bool × (List Int × List Int))) × Int) =>
     bif (decide (t16 < (t1_2.length:Int))) then
      (d75 1).bind fun r_5 =>
      bif (decide ((t13_2.1.length:Int)+(([r_5]:List (List Bool)).length:Int)≤LIM)) then
       bif (decide ((t13_2.2.2.length:Int)+(([0]:List Int).length:Int)≤LIM)) then
        some (Sum.inl (t1_2,t2_2,t3_2,t6_2,t9_2,t10_2,t11_2,t12_2,((t13_2.1++[r_5]),t13_2.2.1,(t13_2.2.2++[0])),t14_2,(w (t16+1))))
       else none
      else none
     else
      some (Sum.inr (t1_2,t2_2,t3_2,t6_2,t9_2,t10_2,t11_2,t12_2,t13_2,t14_2))) (t1_1,t2_1,t3_1,t6_1,t9_1,t10_1,t11_1,t12_1,t13_1,t14_1,0)).bind fun ((t1_3,t2_3,t3_3,t6_3,t9_3,t10_3,t11_3,t12_3,t13_3,t14_3):(List (List Int × Int)) × (List Int) × (List Int × (List (List Int) × (Int × (Int × (Int × (Int × (Int × (Int × Int)))))))) × (Int × (Int × (Int × (Int × (List (List (Bool × (List Int × List Int)) × (List (Bool × (List Int × List Int)) × ((Bool × (List Int × List Int)) × ((Bool × (List Int × List Int)) × ((Bool × (List Int × List Int)) × (List Int × (List Int × List Int))))))) × List Int))))) × Int × Int × (Int × (Int × (Int × (Int × (List (List (Bool × (List Int × List Int)) × (List (Bool × (List Int × List Int)) × ((Bool × (List Int × List Int)) × ((Bool × (List Int × List Int)) × ((Bool × (List Int × List Int)) × (List Int × (List Int × List Int))))))) × List Int))))) × (List Int) × (List (List Bool) × (List Bool × List Int)) × (List (Bool × (List Int × List Int)))) =>
   (whileO (β:=((Int × (Int × (Int × (Int × (List (List (Bool × (List Int × List Int)) × (List (Bool × (List Int × List Int)) × ((Bool × (List Int × List Int)) × ((Bool × (List Int × List Int)) × ((Bool × (List Int × List Int)) × (List Int × (List Int × List Int))))))) × List Int))))) × Int)) (fun ((t1_4,t2_4,t3_4,t6_4,t9_4,t10_4,t11_4,t12_4,t13_4,t14_4):(List (List Int × Int)) × (List Int) × (List Int × (List (List Int) × (Int × (Int × (Int × (Int × (Int × (Int × Int)))))))) × (Int × (Int × (Int × (Int × (List (List (Bool × (List Int × List Int)) × (List (Bool × (List Int × List Int)) × ((Bool × (List Int × List Int)) × ((Bool × (List Int × List Int)) × ((Bool × (List Int × List Int)) × (List Int × (List Int × List Int))))))) × List Int))))) × Int × Int × (Int × (Int × (Int × (Int × (List (List (Bool × (List Int × List Int)) × (List (Bool × (List Int × List Int)) × ((Bool × (List Int × List Int)) × ((Bool × (List Int × List Int)) × ((Bool × (List Int × List Int)) × (List Int × (List Int × List Int))))))) × List Int))))) × (List Int) × (List (List Bool) × (List Bool × List Int)) × (List (Bool × (List Int × List Int)))) =>
     (d76 t13_4 t1_4 t12_4 t10_4).bind fun r_6 =>
     (d75 t10_4).bind fun r_7 =>
     (d77 r_7 t13_4.2.1).bind fun r_8 =>
     (d39 t10_4).bind fun r_9 =>
     bif (decide ((([]:List (Bool × (List Int × List Int))).length:Int)+(t14_4.length:Int)≤LIM)) then
      (d75 0).bind fun r_10 =>
      (d75 0).bind fun r_11 =>
      (whileO (β:=((List (List Int × Int)) × (List Int) × (List Int × (List (List Int) × (Int × (Int × (Int × (Int × (Int × (Int × Int)))))))) × (Int × (Int × (Int × (Int × (List (List (Bool × (List Int × List Int)) × (List (Bool × (List Int × List Int)) × ((Bool × (List Int × List Int)) × ((Bool × (List Int × List Int)) × ((Bool × (List Int × List Int)) × (List Int × (List Int × List Int))))))) × List Int))))) × Int × Int × (Int × (Int × (Int × (Int × (List (List (Bool × (List Int × List Int)) × (List (Bool × (List Int × List Int)) × ((Bool × (List Int × List Int)) × ((Bool × (List Int × List Int)) × ((Bool × (List Int × List Int)) × (List Int × (List Int × List Int))))))) × List Int))))) × (List Int) × (List (List Bool) × (List Bool × List Int)) × (List (Bool × (List Int × List Int))) × (List (List Bool)) × (List Bool) × (List (Bool × (List Int × List Int)) × (List (Bool × (List Int × List Int)) × ((Bool × (List Int × List Int)) × ((Bool × (List Int × List Int)) × ((Bool × (List Int × List Int)) × (List Int × (List Int × List Int))))))) × (List Bool) × (List Bool))) (fun ((t1_5,t2_5,t3_5,t6_5,t9_5,t10_5,t11_5,t12_5,t13_5,t14_5,t17,t18,t19,t20,t21,t22):(List (List Int × Int)) × (List Int) × (List Int × (List (List Int) × (Int × (Int × (Int × (Int × (Int × (Int × Int)))))))) × (Int × (Int × (Int × (Int × (List (List (Bool × (List Int × List Int)) × (List (Bool × (List Int × List Int)) × ((Bool × (List Int × List Int)) × ((Bool × (List Int × List Int)) × ((Bool × (List Int × List Int)) × (List Int × (List Int × List Int))))))) × List Int))))) × Int × Int × (Int × (Int × (Int × (Int × (List (List (Bool × (List Int × List Int)) × (List (Bool × (List Int × List Int)) × ((Bool × (List Int × List Int)) × ((Bool × (List Int × List Int)) × ((Bool × (List Int × List Int)) × (List Int × (List Int × List Int))))))) × List Int))))) × (List Int) × (List (List Bool) × (List Bool × List Int)) × (List (Bool × (List Int × List Int))) × (List (List Bool)) × (List Bool) × (List (Bool × (List Int × List Int)) × (List (Bool × (List Int × List Int)) × ((Bool × (List Int × List Int)) × ((Bool × (List Int × List Int)) × ((Bool × (List Int × List Int)) × (List Int × (List Int × List Int))))))) × (List Bool) × (List Bool) × Int) =>
        bif (decide (t22 < t9_5)) then
         letJ (fun ((t1_8,t2_8,t3_8,t6_8,t9_8,t10_8,t11_8,t12_8,t13_8,t14_8,t17_3,t18_3,t19_3,t20_3,t21_3,t22_3):(List (List Int × Int)) × (List Int) × (List Int × (List (List Int) × (Int × (Int × (Int × (Int × (Int × (Int × Int)))))))) × (Int × (Int × (Int × (Int × (List (List (Bool × (List Int × List Int)) × (List (Bool × (List Int × List Int)) × ((Bool × (List Int × List Int)) × ((Bool × (List Int × List Int)) × ((Bool × (List Int × List Int)) × (List Int × (List Int × List Int))))))) × List Int))))) × Int × Int × (Int × (Int × (Int × (Int × (List (List (Bool × (List Int × List Int)) × (List (Bool × (List Int × List Int)) × ((Bool × (List Int × List Int)) × ((Bool × (List Int × List Int)) × ((Bool × (List Int × List Int)) × (List Int × (List Int × List Int))))))) × List Int))))) × (List Int) × (List (List Bool) × (List Bool × List Int)) × (List (Bool × (List Int × List Int))) × (List (List Bool)) × (List Bool) × (List (Bool × (List Int × List Int)) × (List (Bool × (List Int × List Int)) × ((Bool × (List Int × List Int)) × ((Bool × (List Int × List Int)) × ((Bool × (List Int × List Int)) × (List Int × (List Int × List Int))))))) × (List Bool) × (List Bool) × Int) =>
           some (Sum.inl (t1_8,t2_8,t3_8,t6_8,t9_8,t10_8,t11_8,t12_8,t13_8,t14_8,t17_3,t18_3,t19_3,t20_3,t21_3,(w (t22_3+1))))) fun j__2 =>
         bif (decide (0≤t22) && decide (t22 < (t17.length:Int))) then
          (d78 (List.getD t17 (Int.toNat t22) []) t13_5.2.1).bind fun r_12 =>
          bif (decide ((t19.1.length:Int)+(([r_12]:List (Bool × (List Int × List Int))).length:Int)≤LIM)) then
           bif (decide (0≤t22) && decide (t22 < (t17.length:Int))) then
            (d79 t20 (List.getD t17 (Int.toNat t22) [])).bind fun r_13 =>
            letJ (fun ((t1_7,t2_7,t3_7,t6_7,t9_7,t10_7,t11_7,t12_7,t13_7,t14_7,t17_2,t18_2,t19_2,t20_2,t21_2,t22_2):(List (List Int × Int)) × (List Int) × (List Int × (List (List Int) × (Int × (Int × (Int × (Int × (Int × (Int × Int)))))))) × (Int × (Int × (Int × (Int × (List (List (Bool × (List Int × List Int)) × (List (Bool × (List Int × List Int)) × ((Bool × (List Int × List Int)) × ((Bool × (List Int × List Int)) × ((Bool × (List Int × List Int)) × (List Int × (List Int × List Int))))))) × List Int))))) × Int × Int × (Int × (Int × (Int × (Int × (List (List (Bool × (List Int × List Int)) × (List (Bool × (List Int × List Int)) × ((Bool × (List Int × List Int)) × ((Bool × (List Int × List Int)) × ((Bool × (List Int × List Int)) × (List Int × (List Int × List Int))))))) × List Int))))) × (List Int) × (List (List Bool) × (List Bool × List Int)) × (List (Bool × (List Int × List Int))) × (List (List Bool)) × (List Bool) × (List (Bool × (List Int × List Int)) × (List (Bool × (List Int × List Int)) × ((Bool × (List Int × List Int)) × ((Bool × (List Int × List Int)) × ((Bool × (List Int × List Int)) × (List Int × (List Int × List Int))))))) × (List Bool) × (List Bool) × Int) =>
              bif (decide (0≤t22_2) && decide (t22_2 < (t12_7.length:Int))) then
               bif (decide ((List.getD t12_7 (Int.toNat t22_2) 0)=1)) then
                bif (decide (0≤t22_2) && decide (t22_2 < (t17_2.length:Int))) then
                 (d82 (List.getD t17_2 (Int.toNat t22_2) []) t18_2).bind fun r_16 =>
                 (d79 t21_2 r_16).bind fun r_17 =>
                 j__2 (t1_7,t2_7,t3_7,t6_7,t9_7,t10_7,t11_7,t12_7,t13_7,t14_7,t17_2,t18_2,t19_2,t20_2,r_17,t22_2)
                else none
               else
                j__2 (t1_7,t2_7,t3_7,t6_7,t9_7,t10_7,t11_7,t12_7,t13_7,t14_7,t17_2,t18_2,t19_2,t20_2,t21_2,t22_2)
              else none) fun j__1 =>
            letJ (fun ((t1_6,t2_6,t3_6,t6_6,t9_6,t10_6,t11_6,t12_6,t13_6,t14_6,t17_1,t18_1,t19_1,t20_1,t21_1,t22_1,t132):(List (List Int × Int)) × (List Int) × (List Int × (List (List Int) × (Int × (Int × (Int × (Int × (Int × (Int × Int)))))))) × (Int × (Int × (Int × (Int × (List (List (Bool × (List Int × List Int)) × (List (Bool × (List Int × List Int)) × ((Bool × (List Int × List Int)) × ((Bool × (List Int × List Int)) × ((Bool × (List Int × List Int)) × (List Int × (List Int × List Int))))))) × List Int))))) × Int × Int × (Int × (Int × (Int × (Int × (List (List (Bool × (List Int × List Int)) × (List (Bool × (List Int × List Int)) × ((Bool × (List Int × List Int)) × ((Bool × (List Int × List Int)) × ((Bool × (List Int × List Int)) × (List Int × (List Int × List Int))))))) × List Int))))) × (List Int) × (List (List Bool) × (List Bool × List Int)) × (List (Bool × (List Int × List Int))) × (List (List Bool)) × (List Bool) × (List (Bool × (List Int × List Int)) × (List (Bool × (List Int × List Int)) × ((Bool × (List Int × List Int)) × ((Bool × (List Int × List Int)) × ((Bool × (List Int × List Int)) × (List Int × (List Int × List Int))))))) × (List Bool) × (List Bool) × Int × Bool) =>
              bif t132 then
               bif (decide (0≤t22_1) && decide (t22_1 < (t12_6.length:Int))) then
                (d81 t19_1.2.2.2.2.2.1 t22_1).bind fun r_15 =>
                j__1 (t1_6,t2_6,t3_6,t6_6,t9_6,t10_6,t11_6,(List.set t12_6 (Int.toNat t22_1) 1),t13_6,t14_6,t17_1,t18_1,(t19_1.1,t19_1.2.1,t19_1.2.2.1,t19_1.2.2.2.1,t19_1.2.2.2.2.1,r_15,t19_1.2.2.2.2.2.2),t20_1,t21_1,t22_1)
               else none
              else
               j__1 (t1_6,t2_6,t3_6,t6_6,t9_6,t10_6,t11_6,t12_6,t13_6,t14_6,t17_1,t18_1,t19_1,t20_1,t21_1,t22_1)) fun j_ =>
            bif (decide (0≤t22) && decide (t22 < (t12_5.length:Int))) then
             bif (decide ((List.getD t12_5 (Int.toNat t22) 0)=0)) then
              bif (decide (0≤t22) && decide (t22 < (t17.length:Int))) then
               (d80 (List.getD t17 (Int.toNat t22) []) t18).bind fun r_14 =>
               j_ (t1_5,t2_5,t3_5,t6_5,t9_5,t10_5,t11_5,t12_5,t13_5,t14_5,t17,t18,((t19.1++[r_12]),t19.2),r_13,t21,t22,(decide (0≤r_14)))
              else none
             else
              j_ (t1_5,t2_5,t3_5,t6_5,t9_5,t10_5,t11_5,t12_5,t13_5,t14_5,t17,t18,((t19.1++[r_12]),t19.2),r_13,t21,t22,false)
            else none
           else none
          else none
         else none
        else
         some (Sum.inr (t1_5,t2_5,t3_5,t6_5,t9_5,t10_5,t11_5,t12_5,t13_5,t14_5,t17,t18,t19,t20,t21))) (t1_4,t2_4,t3_4,t6_4,t9_4,t10_4,t11_4,t12_4,t13_4,t14_4,r_6,r_8,([],t14_4,r_9,(false,[],[]),(false,[],[]),[],[],[]),r_10,r_11,0)).bind fun ((t1_9,t2_9,t3_9,t6_9,t9_9,t10_9,t11_9,t12_9,t13_9,t14_9,t17_4,t18_4,t19_4,t20_4,t21_4):(List (List Int × Int)) × (List Int) × (List Int × (List (List Int) × (Int × (Int × (Int × (Int × (Int × (Int × Int)))))))) × (Int × (Int × (Int × (Int × (List (List (Bool × (List Int × List Int)) × (List (Bool × (List Int × List Int)) × ((Bool × (List Int × List Int)) × ((Bool × (List Int × List Int)) × ((Bool × (List Int × List Int)) × (List Int × (List Int × List Int))))))) × List Int))))) × Int × Int × (Int × (Int × (Int × (Int × (List (List (Bool × (List Int × List Int)) × (List (Bool × (List Int × List Int)) × ((Bool × (List Int × List Int)) × ((Bool × (List Int × List Int)) × ((Bool × (List Int × List Int)) × (List Int × (List Int × List Int))))))) × List Int))))) × (List Int) × (List (List Bool) × (List Bool × List Int)) × (List (Bool × (List Int × List Int))) × (List (List Bool)) × (List Bool) × (List (Bool × (List Int × List Int)) × (List (Bool × (List Int × List Int)) × ((Bool × (List Int × List Int)) × ((Bool × (List Int × List Int)) × ((Bool × (List Int × List Int)) × (List Int × (List Int × List Int))))))) × (List Bool) × (List Bool)) =>
      (d83 t1_9).bind fun r_18 =>
      (d75 r_18).bind fun r_19 =>
      (d77 r_19 t13_9.2.1).bind fun r_20 =>
      (d82 r_20 t20_4).bind fun r_21 =>
      (d78 r_21 t13_9.2.1).bind fun r_22 =>
      (d78 t21_4 t13_9.2.1).bind fun r_23 =>
      (d84 t12_9 1).bind fun r_24 =>
      (d84 t12_9 2).bind fun r_25 =>
      letJ (fun ((t1_10,t2_10,t3_10,t6_10,t9_10,t10_10,t11_10,t12_10,t13_10,t14_10,t17_5,t18_5,t19_5,t23,t188):(List (List Int × Int)) × (List Int) × (List Int × (List (List Int) × (Int × (Int × (Int × (Int × (Int × (Int × Int)))))))) × (Int × (Int × (Int × (Int × (List (List (Bool × (List Int × List Int)) × (List (Bool × (List Int × List Int)) × ((Bool × (List Int × List Int)) × ((Bool × (List Int × List Int)) × ((Bool × (List Int × List Int)) × (List Int × (List Int × List Int))))))) × List Int))))) × Int × Int × (Int × (Int × (Int × (Int × (List (List (Bool × (List Int × List Int)) × (List (Bool × (List Int × List Int)) × ((Bool × (List Int × List Int)) × ((Bool × (List Int × List Int)) × ((Bool × (List Int × List Int)) × (List Int × (List Int × List Int))))))) × List Int))))) × (List Int) × (List (List Bool) × (List Bool × List Int)) × (List (Bool × (List Int × List Int))) × (List (List Bool)) × (List Bool) × (List (Bool × (List Int × List Int)) × (List (Bool × (List Int × List Int)) × ((Bool × (List Int × List Int)) × ((Bool × (List Int × List Int)) × ((Bool × (List Int × List Int)) × (List Int × (List Int × List Int))))))) × Int × Bool) =>
        bif t188 then
         letJ (fun ((t6_11,t11_11,t19_6):(Int × (Int × (Int × (Int × (List (List (Bool × (List Int × List Int)) × (List (Bool × (List Int × List Int)) × ((Bool × (List Int × List Int)) × ((Bool × (List Int × List Int)) × ((Bool × (List Int × List Int)) × (List Int × (List Int × List Int))))))) × List Int))))) × (Int × (Int × (Int × (Int × (List (List (Bool × (List Int × List Int)) × (List (Bool × (List Int × List Int)) × ((Bool × (List Int × List Int)) × ((Bool × (List Int × List Int)) × ((Bool × (List Int × List Int)) × (List Int × (List Int × List Int))))))) × List Int))))) × (List (Bool × (List Int × List Int)) × (List (Bool × (List Int × List Int)) × ((Bool × (List Int × List Int)) × ((Bool × (List Int × List Int)) × ((Bool × (List Int × List Int)) × (List Int × (List Int × List Int)))))))) =>
           bif (decide ((t11_11.2.2.2.2.1.length:Int)+(([t19_6]:List (List (Bool × (List Int × List Int)) × (List (Bool × (List Int × List Int)) × ((Bool × (List Int × List Int)) × ((Bool × (List Int × List Int)) × ((Bool × (List Int × List Int)) × (List Int × (List Int × List Int)))))))).length:Int)≤LIM)) then
            (d86 (t11_11.1,t11_11.2.1,t11_11.2.2.1,t11_11.2.2.2.1,(t11_11.2.2.2.2.1++[t19_6]),t11_11.2.2.2.2.2)).bind fun r_28 =>
            some (Sum.inr ((t11_11.1,t11_11.2.1,t11_11.2.2.1,t11_11.2.2.2.1,(t11_11.2.2.2.2.1++[t19_6]),r_28),0))
           else none) fun j__4 =>
         bif (decide (t23 < t3_10.2.2.2.1)) then
          (d85 t19_5.2.2.2.2.2.1 t12_10).bind fun r_27 =>
          j__4 (t6_10,t11_10,(t19_5.1,t19_5.2.1,t19_5.2.2.1,t19_5.2.2.2.1,t19_5.2.2.2.2.1,r_27.1,t19_5.2.2.2.2.2.2))
         else
          j__4 (t6_10,t11_10,t19_5)
        else
         letJ (fun ((t1_11,t2_11,t3_11,t6_12,t9_11,t10_11,t11_12,t12_11,t13_11,t14_11,t17_6,t18_6,t19_7,t24,t25):(List (List Int × Int)) × (List Int) × (List Int × (List (List Int) × (Int × (Int × (Int × (Int × (Int × (Int × Int)))))))) × (Int × (Int × (Int × (Int × (List (List (Bool × (List Int × List Int)) × (List (Bool × (List Int × List Int)) × ((Bool × (List Int × List Int)) × ((Bool × (List Int × List Int)) × ((Bool × (List Int × List Int)) × (List Int × (List Int × List Int))))))) × List Int))))) × Int × Int × (Int × (Int × (Int × (Int × (List (List (Bool × (List Int × List Int)) × (List (Bool × (List Int × List Int)) × ((Bool × (List Int × List Int)) × ((Bool × (List Int × List Int)) × ((Bool × (List Int × List Int)) × (List Int × (List Int × List Int))))))) × List Int))))) × (List Int) × (List (List Bool) × (List Bool × List Int)) × (List (Bool × (List Int × List Int))) × (List (List Bool)) × (List Bool) × (List (Bool × (List Int × List Int)) × (List (Bool × (List Int × List Int)) × ((Bool × (List Int × List Int)) × ((Bool × (List Int × List Int)) × ((Bool × (List Int × List Int)) × (List Int × (List Int × List Int))))))) × Int × Bool) =>
           (d87 t17_6 t12_11 t24 t25).bind fun r_30 =>
           bif (decide (0≤0) && decide (0 < (r_30.length:Int))) then
            letJ (fun ((t1_12,t2_12,t3_12,t6_13,t9_12,t10_12,t11_13,t12_12,t13_12,t14_12,t17_7,t18_7,t19_8,t25_1,t27):(List (List Int × Int)) × (List Int) × (List Int × (List (List Int) × (Int × (Int × (Int × (Int × (Int × (Int × Int)))))))) × (Int × (Int × (Int × (Int × (List (List (Bool × (List Int × List Int)) × (List (Bool × (List Int × List Int)) × ((Bool × (List Int × List Int)) × ((Bool × (List Int × List Int)) × ((Bool × (List Int × List Int)) × (List Int × (List Int × List Int))))))) × List Int))))) × Int × Int × (Int × (Int × (Int × (Int × (List (List (Bool × (List Int × List Int)) × (List (Bool × (List Int × List Int)) × ((Bool × (List Int × List Int)) × ((Bool × (List Int × List Int)) × ((Bool × (List Int × List Int)) × (List Int × (List Int × List Int))))))) × List Int))))) × (List Int) × (List (List Bool) × (List Bool × List Int)) × (List (Bool × (List Int × List Int))) × (List (List Bool)) × (List Bool) × (List (Bool × (List Int × List Int)) × (List (Bool × (List Int × List Int)) × ((Bool × (List Int × List Int)) × ((Bool × (List Int × List Int)) × ((Bool × (List Int × List Int)) × (List Int × (List Int × List Int))))))) × Bool × Int) =>
              letJ (fun ((t1_13,t2_13,t3_13,t6_14,t9_13,t10_13,t11_14,t12_13,t13_13,t14_13,t19_9):(List (List Int × Int)) × (List Int) × (List Int × (List (List Int) × (Int × (Int × (Int × (Int × (Int × (Int × Int)))))))) × (Int × (Int × (Int × (Int × (List (List (Bool × (List Int × List Int)) × (List (Bool × (List Int × List Int)) × ((Bool × (List Int × List Int)) × ((Bool × (List Int × List Int)) × ((Bool × (List Int × List Int)) × (List Int × (List Int × List Int))))))) × List Int))))) × Int × Int × (Int × (Int × (Int × (Int × (List (List (Bool × (List Int × List Int)) × (List (Bool × (List Int × List Int)) × ((Bool × (List Int × List Int)) × ((Bool × (List Int × List Int)) × ((Bool × (List Int × List Int)) × (List Int × (List Int × List Int))))))) × List Int))))) × (List Int) × (List (List Bool) × (List Bool × List Int)) × (List (Bool × (List Int × List Int))) × (List (Bool × (List Int × List Int)) × (List (Bool × (List Int × List Int)) × ((Bool × (List Int × List Int)) × ((Bool × (List Int × List Int)) × ((Bool × (List Int × List Int)) × (List Int × (List Int × List Int)))))))) =>
                bif (decide ((t11_14.2.2.2.2.1.length:Int)+(([t19_9]:List (List (Bool × (List Int × List Int)) × (List (Bool × (List Int × List Int)) × ((Bool × (List Int × List Int)) × ((Bool × (List Int × List Int)) × ((Bool × (List Int × List Int)) × (List Int × (List Int × List Int)))))))).length:Int)≤LIM)) then
                 some (Sum.inl (t1_13,t2_13,t3_13,t6_14,t9_13,t10_13,(t11_14.1,t11_14.2.1,t11_14.2.2.1,t11_14.2.2.2.1,(t11_14.2.2.2.2.1++[t19_9]),t11_14.2.2.2.2.2),t12_13,t13_13,t14_13))
                else none) fun j__7 =>
              bif t25_1 then
               bif (decide (0≤t27) && decide (t27 < (t17_7.length:Int))) then
                (d82 (List.getD t17_7 (Int.toNat t27) []) t18_7).bind fun r_33 =>
                bif (decide (0≤t27) && decide (t27 < (t17_7.length:Int))) then
                 (d78 r_33 (List.getD t17_7 (Int.toNat t27) [])).bind fun r_34 =>
                 bif (decide (0≤t27) && decide (t27 < (t12_12.length:Int))) then
                  bif (decide (0≤t27) && decide (t27 < (t14_12.length:Int))) then
                   bif (decide (0≤t27) && decide (t27 < (t17_7.length:Int))) then
                    (d90 t13_12 t1_12 (List.set t12_12 (Int.toNat t27) 2) t27 r_33 (List.getD t17_7 (Int.toNat t27) [])).bind fun r_35 =>
                    j__7 (t1_12,t2_12,t3_12,t6_13,t9_12,t10_12,t11_13,(List.set t12_12 (Int.toNat t27) 2),r_35,(List.set t14_12 (Int.toNat t27) r_34),t19_8)
                   else none
                  else none
                 else none
                else none
               else none
              else
               (d39 0).bind fun r_36 =>
               bif (decide (0≤t27) && decide (t27 < (t12_12.length:Int))) then
                bif (decide (0≤t27) && decide (t27 < (t14_12.length:Int))) then
                 (d75 1).bind fun r_37 =>
                 (d75 1).bind fun r_38 =>
                 (d90 t13_12 t1_12 (List.set t12_12 (Int.toNat t27) 3) t27 r_37 r_38).bind fun r_39 =>
                 j__7 (t1_12,t2_12,t3_12,t6_13,t9_12,t10_12,t11_13,(List.set t12_12 (Int.toNat t27) 3),r_39,(List.set t14_12 (Int.toNat t27) r_36),(t19_8.1,t19_8.2.1,t19_8.2.2.1,t19_8.2.2.2.1,t19_8.2.2.2.2.1,t19_8.2.2.2.2.2.1,[t27],t19_8.2.2.2.2.2.2.2))
                else none
               else none) fun j__6 =>
            bif (decide (1 < (r_30.length:Int))) then
             (d89 t11_12.2.2.2.2.1).bind fun r_31 =>
             (d88 t3_11.2.2.2.2.2.2.1 r_31.1 r_30 t2_11 (!t25)).bind fun r_32 =>
             j__6 (t1_11,t2_11,t3_11,t6_12,t9_11,t10_11,(t11_12.1,t11_12.2.1,t11_12.2.2.1,t11_12.2.2.2.1,r_31.2,t11_12.2.2.2.2.2),t12_11,t13_11,t14_11,t17_6,t18_6,(t19_7.1,t19_7.2.1,t19_7.2.2.1,t19_7.2.2.2.1,t19_7.2.2.2.2.1,t19_7.2.2.2.2.2.1,t19_7.2.2.2.2.2.2.1,r_30),t25,r_32.1)
            else
             j__6 (t1_11,t2_11,t3_11,t6_12,t9_11,t10_11,t11_12,t12_11,t13_11,t14_11,t17_6,t18_6,t19_7,t25,(List.getD r_30 0 0))
           else none) fun j__5 =>
         (d84 t12_10 1).bind fun r_29 =>
         bif (decide (0 < r_29)) then
          j__5 (t1_10,t2_10,t3_10,t6_10,t9_10,t10_10,t11_10,t12_10,t13_10,t14_10,t17_5,t18_5,t19_5,1,true)
         else
          j__5 (t1_10,t2_10,t3_10,t6_10,t9_10,t10_10,t11_10,t12_10,t13_10,t14_10,t17_5,t18_5,t19_5,0,false)) fun j__3 =>
      bif !(decide ((w (r_24+r_25))=t3_9.2.2.2.1)) then
       (d84 t12_9 0).bind fun r_26 =>
       j__3 (t1_9,t2_9,t3_9,t6_9,t9_9,t10_9,t11_9,t12_9,t13_9,t14_9,t17_4,t18_4,(t19_4.1,t19_4.2.1,t19_4.2.2.1,r_22,r_23,t19_4.2.2.2.2.2),(w (r_24+r_25)),(decide ((w ((w (r_24+r_25))+r_26))≤t3_9.2.2.2.1)))
      else
       j__3 (t1_9,t2_9,t3_9,t6_9,t9_9,t10_9,t11_9,t12_9,t13_9,t14_9,t17_4,t18_4,(t19_4.1,t19_4.2.1,t19_4.2.2.1,r_22,r_23,t19_4.2.2.2.2.2),(w (r_24+r_25)),true)
     else none) (t1_3,t2_3,t3_3,t6_3,t9_3,t10_3,t11_3,t12_3,t13_3,t14_3)).bind fun ((t6_15,t7):(Int × (Int × (Int × (Int × (List (List (Bool × (List Int × List Int)) × (List (Bool × (List Int × List Int)) × ((Bool × (List Int × List Int)) × ((Bool × (List Int × List Int)) × ((Bool × (List Int × List Int)) × (List Int × (List Int × List Int))))))) × List Int))))) × Int) =>
   some (t6_15,t7)
  else none
noncomputable def d184 (a:List (Bool × (List Int × List Int))) (b:List (Bool × (List Int × List Int))):Option Bool :=
 bif !(decide ((a.length:Int)=(b.length:Int))) then
  some false
 else
  (whileO (β:=Unit ⊕ Bool) (fun ((a_1,b_1,i):(List (Bool × (List Int × List Int))) × (List (Bool × (List Int × List Int))) × Int) =>
    bif (decide (i < (a_1.length:Int))) then
     bif (decide (0≤i) && decide (i < (a_1.length:Int))) then
      bif (decide (0≤i) && decide (i < (b_1.length:Int))) then
       (d37 (List.getD a_1 (Int.toNat i) (false,[],[])) (List.getD b_1 (Int.toNat i) (false,[],[]))).bind fun r =>
       bif !r then
        some (Sum.inr (Sum.inr false))
       else
        some (Sum.inl (a_1,b_1,(w (i+1))))
      else none
     else none
    else
     some (Sum.inr (Sum.inl ()))) (a,b,0)).bind fun
  | Sum.inl _ =>
   some true
  | Sum.inr t4 =>
   some t4
noncomputable def d151 (a:(List (Bool × (List Int × List Int)) × (List (Bool × (List Int × List Int)) × ((Bool × (List Int × List Int)) × ((Bool × (List Int × List Int)) × ((Bool × (List Int × List Int)) × (List Int × (List Int × List Int)))))))) (b:(List (Bool × (List Int × List Int)) × (List (Bool × (List Int × List Int)) × ((Bool × (List Int × List Int)) × ((Bool × (List Int × List Int)) × ((Bool × (List Int × List Int)) × (List Int × (List Int × List Int)))))))):Option Bool :=
 (d184 a.1 b.1).bind fun r =>
 bif r then
  (d184 a.2.1 b.2.1).bind fun r_1 =>
  bif r_1 then
   (d37 a.2.2.1 b.2.2.1).bind fun r_2 =>
   bif r_2 then
    (d37 a.2.2.2.1 b.2.2.2.1).bind fun r_3 =>
    bif r_3 then
     (d37 a.2.2.2.2.1 b.2.2.2.2.1).bind fun r_4 =>
     bif r_4 then
      (d38 a.2.2.2.2.2.1 b.2.2.2.2.2.1).bind fun r_5 =>
      bif r_5 then
       (d38 a.2.2.2.2.2.2.1 b.2.2.2.2.2.2.1).bind fun r_6 =>
       bif r_6 then
        (d38 a.2.2.2.2.2.2.2 b.2.2.2.2.2.2.2).bind fun r_7 =>
        some r_7
       else
        some false
      else
       some false
     else
      some false
    else
     some false
   else
    some false
  else
   some false
 else
  some false
noncomputable def d91 (p0:(Int × (Int × (Int × (Int × (List (List (Bool × (List Int × List Int)) × (List (Bool × (List Int × List Int)) × ((Bool × (List Int × List Int)) × ((Bool × (List Int × List Int)) × ((Bool × (List Int × List Int)) × (List Int × (List Int × List Int))))))) × List Int)))))) (p1:(Int × (Int × (Int × (Int × (List (List (Bool × (List Int × List Int)) × (List (Bool × (List Int × List Int)) × ((Bool × (List Int × List Int)) × ((Bool × (List Int × List Int)) × ((Bool × (List Int × List Int)) × (List Int × (List Int × List Int))))))) × List Int)))))):Option Bool :=
 letJ (fun ((t2,t3,t48):(Int × (Int × (Int × (Int × (List (List (Bool × (List Int × List Int)) × (List (Bool × (List Int × List Int)) × ((Bool × (List Int × List Int)) × ((Bool × (List Int × List Int)) × ((Bool × (List Int × List Int)) × (List Int × (List Int × List Int))))))) × List Int))))) × (Int × (Int × (Int × (Int × (List (List (Bool × (List Int × List Int)) × (List (Bool × (List Int × List Int)) × ((Bool × (List Int × List Int)) × ((Bool × (List Int × List Int)) × ((Bool × (List Int × List Int)) × (List Int × (List Int × List Int))))))) × List Int))))) × Bool) =>
   bif t48 then
    some false
   else
    (whileO (β:=Unit ⊕ Bool) (fun ((t2_1,t3_1,t5):(Int × (Int × (Int × (Int × (List (List (Bool × (List Int × List Int)) × (List (Bool × (List Int × List Int)) × ((Bool × (List Int × List Int)) × ((Bool × (List Int × List Int)) × ((Bool × (List Int × List Int)) × (List Int × (List Int × List Int))))))) × List Int))))) × (Int × (Int × (Int × (Int × (List (List (Bool × (List Int × List Int)) × (List (Bool × (List Int × List Int)) × ((Bool × (List Int × List Int)) × ((Bool × (List Int × List Int)) × ((Bool × (List Int × List Int)) × (List Int × (List Int × List Int))))))) × List Int))))) × Int) =>
      bif (decide (t5 < (t2_1.2.2.2.2.1.length:Int))) then
       bif (decide (0≤t5) && decide (t5 < (t2_1.2.2.2.2.1.length:Int))) then
        bif (decide (0≤t5) && decide (t5 < (t3_1.2.2.2.2.1.length:Int))) then
         (d151 (List.getD t2_1.2.2.2.2.1 (Int.toNat t5) ([],[],(false,[],[]),(false,[],[]),(false,[],[]),[],[],[])) (List.getD t3_1.2.2.2.2.1 (Int.toNat t5) ([],[],(false,[],[]),(false,[],[]),(false,[],[]),[],[],[]))).bind fun r_1 =>
         bif !r_1 then
          some (Sum.inr (Sum.inr false))
         else
          some (Sum.inl (t2_1,t3_1,(w (t5+1))))
        else none
       else none
      else
       some (Sum.inr (Sum.inl ()))) (t2,t3,0)).bind fun
    | Sum.inl _ =>
     some true
    | Sum.inr t4 =>
     some t4) fun j_ =>
 bif !(!(decide (p0.1=p1.1))) then
  bif !(!(decide (p0.2.1=p1.2.1))) then
   bif !(!(decide (p0.2.2.1=p1.2.2.1))) then
    bif !(!(decide (p0.2.2.2.1=p1.2.2.2.1))) then
     (d38 p0.2.2.2.2.2 p1.2.2.2.2.2).bind fun r =>
     bif !(!r) then
      j_ (p0,p1,!(decide ((p0.2.2.2.2.1.length:Int)=(p1.2.2.2.2.1.length:Int))))
     else
      j_ (p0,p1,true)
    else
     j_ (p0,p1,true)
   else
    j_ (p0,p1,true)
  else
   j_ (p0,p1,true)
 else
  j_ (p0,p1,true)
noncomputable def d29 (a:(Int × (Int × (Int × (Int × (List (List (Bool × (List Int × List Int)) × (List (Bool × (List Int × List Int)) × ((Bool × (List Int × List Int)) × ((Bool × (List Int × List Int)) × ((Bool × (List Int × List Int)) × (List Int × (List Int × List Int))))))) × List Int)))))) (b:(Int × (Int × (Int × (Int × (List (List (Bool × (List Int × List Int)) × (List (Bool × (List Int × List Int)) × ((Bool × (List Int × List Int)) × ((Bool × (List Int × List Int)) × ((Bool × (List Int × List Int)) × (List Int × (List Int × List Int))))))) × List Int)))))):Option Bool :=
 (d91 a b).bind fun r =>
 some r
noncomputable def d3 (p0:(List Int × (List (List Int) × (Int × (Int × (Int × (Int × (Int × (Int × Int))))))))) (p1:List (List Int × Int)) (p2:List Int) (p3:Bool) (p4:Int) (p5:Int) (p6:List (List Int)):Option Bool :=
 letJ (fun ((t1,t2,t3,t4,t5,t6,t7,t39):(List (List Int × Int)) × (List Int) × Bool × Int × Int × (List (List Int)) × (List Int × (List (List Int) × (Int × (Int × (Int × (Int × (Int × (Int × Int)))))))) × Bool) =>
   bif t39 then
    (d21).bind fun r_2 =>
    some r_2
   else
    bif t3 then
     (d22 t7 t1 t2).bind fun r_3 =>
     (d21).bind fun r_4 =>
     bif r_4 then
      (d23 3 t7 t1 t2).bind fun r_5 =>
      some (decide (r_3.2=r_5))
     else
      some false
    else
     (d24 t4 7).bind fun r_6 =>
     (d25 2 (w (1+r_6)) t7.2.2.2.1 0 t7.2.2.2.2.2.2.1).bind fun r_7 =>
     (d26 (w (1+r_6)) t6 16).bind fun r_8 =>
     (d27 (w (1+r_6)) t5).bind fun r_9 =>
     (d22 r_7 r_8 r_9).bind fun r_10 =>
     (d28 r_7 r_8 r_9).bind fun r_11 =>
     (d21).bind fun r_12 =>
     bif r_12 then
      bif (decide (r_10.2=r_11.2)) then
       (d29 r_10.1 r_11.1).bind fun r_13 =>
       some r_13
      else
       some false
     else
      some false) fun j_ =>
 (d19 p1).bind fun r =>
 bif !(!r) then
  (d20 p6).bind fun r_1 =>
  bif !(!r_1) then
   bif !(decide (12 < (p2.length:Int))) then
    j_ (p1,p2,p3,p4,p5,p6,p0,(decide (12 < (p0.2.1.length:Int))))
   else
    j_ (p1,p2,p3,p4,p5,p6,p0,true)
  else
   j_ (p1,p2,p3,p4,p5,p6,p0,true)
 else
  j_ (p1,p2,p3,p4,p5,p6,p0,true)
noncomputable def d4 (ballots:Int) (seats:Int):Option Bool :=
 (d30 ballots seats).bind fun r =>
 letJ (fun ((ballots_1,seats_1,q,t22):Int × Int × Int × Bool) =>
   bif t22 then
    (d21).bind fun r_1 =>
    bif r_1 then
     some (decide (q=0))
    else
     some false
   else
    (d21).bind fun r_2 =>
    bif r_2 then
     bif (decide (1≤q)) then
      bif (decide (q≤100001)) then
       bif (decide (ballots_1 < (w (q * (w (seats_1+1)))))) then
        some (decide ((w ((w (q - 1)) * (w (seats_1+1))))≤ballots_1))
       else
        some false
      else
       some false
     else
      some false
    else
     some false) fun j_ =>
 bif !(decide (ballots < 0)) then
  bif !(decide (100000 < ballots)) then
   bif !(decide (seats < 1)) then
    j_ (ballots,seats,r,(decide (5 < seats)))
   else
    j_ (ballots,seats,r,true)
  else
   j_ (ballots,seats,r,true)
 else
  j_ (ballots,seats,r,true)
def sg4:Sig:=⟨[(y2,.sh),(y2,.sh)],[(y4,.sh)]⟩
def plan4:Plan:=(.seq (.reg [] []) (.seq (.reg [] []) (.seq (.join (.reg [] []) [(0,.v y2 .sh),(1,.v y2 .sh),(5,.v y2 .sh),(22,.v y4 .sh)] (.cond (.seq (.reg [] []) .nil) .nil)) (.seq (.reg [] []) .nil))))
theorem ev4 (xs:Vals (ptys sg4.ps)):evF (P:=Tryz.prog) tab [.fn E30,.fn E21] sg4 Tryz.f4.results.toList (code Tryz.f4) plan4 xs=d4 xs.1 xs.2.1:=by kernel_rfl
theorem sim4:Sim Tryz.prog 4 sg4 d4:=sim_ev mixd tabOK Tryz.func4 (code_of rfl) Tryz.call4 (Nat.le_of_ble_eq_true (by kernel_rfl)) (by kernel_rfl) plan4 _ fun xs y h=>(ev4 xs).trans h
noncomputable def d31 (n:Int) (seats:Int) (ties:Int) (code_:Int) (ballots:List (List Int)):Option ((List Int × (List (List Int) × (Int × (Int × (Int × (Int × (Int × (Int × Int)))))))) × (List (List Int × Int)) × (Int × (Int × (Int × (Int × (List (List (Bool × (List Int × List Int)) × (List (Bool × (List Int × List Int)) × ((Bool × (List Int × List Int)) × ((Bool × (List Int × List Int)) × ((Bool × (List Int × List Int)) × (List Int × (List Int × List Int))))))) × List Int))))) × Int) :=
 (d25 2 n seats 0 ties).bind fun r =>
 (d26 n ballots 16).bind fun r_1 =>
 (d27 n code_).bind fun r_2 =>
 (d22 r r_1 r_2).bind fun r_3 =>
 some (r,r_1,r_3.1,r_3.2)
def sg31:Sig:=⟨[(y2,.sh),(y2,.sh),(y2,.sh),(y2,.sh),(y27,.bw)],[(y23,.sh),(y25,.sh),(y32,.sh),(y2,.sh)]⟩
def plan31:Plan:=(.seq (.reg [] []) (.seq (.reg [] []) (.seq (.reg [] []) (.seq (.reg [] [{},{},{},{},{},{ frz:=[(30,[])] },{ fl:=1 }]) (.seq (.reg [] []) .nil)))))
theorem ev31 (xs:Vals (ptys sg31.ps)):evF (P:=Tryz.prog) tab [.fn E25,.fn E26,.fn E27,.fn E22] sg31 Tryz.f31.results.toList (code Tryz.f31) plan31 xs=d31 xs.1 xs.2.1 xs.2.2.1 xs.2.2.2.1 xs.2.2.2.2.1:=by kernel_rfl
theorem sim31:Sim Tryz.prog 31 sg31 d31:=sim_ev mixd tabOK Tryz.func31 (code_of rfl) Tryz.call31 (Nat.le_of_ble_eq_true (by kernel_rfl)) (by kernel_rfl) plan31 _ fun xs y h=>(ev31 xs).trans h
noncomputable def E31:FnE Tryz.prog:=⟨31,sg31,d31,sim31⟩
noncomputable def d5 (p0:Int) (p1:Int) (p2:Int) (p3:Int) (p4:List (List Int)):Option Bool :=
 (d20 p4).bind fun r =>
 bif !r then
  (d21).bind fun r_1 =>
  some r_1
 else
  (d24 p0 7).bind fun r_2 =>
  (d31 (w (1+r_2)) p1 p2 p3 p4).bind fun r_3 =>
  letJ (fun ((t0,t4,t13,t63):Int × (List (List Int)) × (Int × (Int × (Int × (Int × (List (List (Bool × (List Int × List Int)) × (List (Bool × (List Int × List Int)) × ((Bool × (List Int × List Int)) × ((Bool × (List Int × List Int)) × ((Bool × (List Int × List Int)) × (List Int × (List Int × List Int))))))) × List Int))))) × Bool) =>
    bif t63 then
     some false
    else
     (d33 0).bind fun r_5 =>
     (whileO (β:=Unit ⊕ Bool) (fun ((t0_1,t4_1,t13_1,t15,t16):Int × (List (List Int)) × (Int × (Int × (Int × (Int × (List (List (Bool × (List Int × List Int)) × (List (Bool × (List Int × List Int)) × ((Bool × (List Int × List Int)) × ((Bool × (List Int × List Int)) × ((Bool × (List Int × List Int)) × (List Int × (List Int × List Int))))))) × List Int))))) × (Bool × (List Bool × List Bool)) × Int) =>
       bif (decide (t16 < (t13_1.2.2.2.2.1.length:Int))) then
        bif (decide (0≤t16) && decide (t16 < (t13_1.2.2.2.2.1.length:Int))) then
         (d34 (((((List.getD t13_1.2.2.2.2.1 (Int.toNat t16) ([],[],(false,[],[]),(false,[],[]),(false,[],[]),[],[],[])).2).2).2).1)).bind fun r_6 =>
         (whileO (β:=(Int × (List (List Int)) × (Int × (Int × (Int × (Int × (List (List (Bool × (List Int × List Int)) × (List (Bool × (List Int × List Int)) × ((Bool × (List Int × List Int)) × ((Bool × (List Int × List Int)) × ((Bool × (List Int × List Int)) × (List Int × (List Int × List Int))))))) × List Int))))) × (Bool × (List Bool × List Bool)) × Int × (List (Bool × (List Int × List Int)) × (List (Bool × (List Int × List Int)) × ((Bool × (List Int × List Int)) × ((Bool × (List Int × List Int)) × ((Bool × (List Int × List Int)) × (List Int × (List Int × List Int))))))) × (Bool × (List Bool × List Bool)) × (Bool × (List Bool × List Bool)))) (fun ((t0_2,t4_2,t13_2,t15_1,t16_1,t17,t18,t19,t20):Int × (List (List Int)) × (Int × (Int × (Int × (Int × (List (List (Bool × (List Int × List Int)) × (List (Bool × (List Int × List Int)) × ((Bool × (List Int × List Int)) × ((Bool × (List Int × List Int)) × ((Bool × (List Int × List Int)) × (List Int × (List Int × List Int))))))) × List Int))))) × (Bool × (List Bool × List Bool)) × Int × (List (Bool × (List Int × List Int)) × (List (Bool × (List Int × List Int)) × ((Bool × (List Int × List Int)) × ((Bool × (List Int × List Int)) × ((Bool × (List Int × List Int)) × (List Int × (List Int × List Int))))))) × (Bool × (List Bool × List Bool)) × (Bool × (List Bool × List Bool)) × Int) =>
           bif (decide (t20 < (t17.1.length:Int))) then
            bif (decide (0≤t20) && decide (t20 < (t17.1.length:Int))) then
             (d34 (List.getD t17.1 (Int.toNat t20) (false,[],[]))).bind fun r_7 =>
             (d35 t19 r_7).bind fun r_8 =>
             some (Sum.inl (t0_2,t4_2,t13_2,t15_1,t16_1,t17,t18,r_8,(w (t20+1))))
            else none
           else
            some (Sum.inr (t0_2,t4_2,t13_2,t15_1,t16_1,t17,t18,t19))) (t0_1,t4_1,t13_1,t15,t16,(List.getD t13_1.2.2.2.2.1 (Int.toNat t16) ([],[],(false,[],[]),(false,[],[]),(false,[],[]),[],[],[])),r_6,r_6,0)).bind fun ((t0_3,t4_3,t13_3,t15_2,t16_2,t17_1,t18_1,t19_1):Int × (List (List Int)) × (Int × (Int × (Int × (Int × (List (List (Bool × (List Int × List Int)) × (List (Bool × (List Int × List Int)) × ((Bool × (List Int × List Int)) × ((Bool × (List Int × List Int)) × ((Bool × (List Int × List Int)) × (List Int × (List Int × List Int))))))) × List Int))))) × (Bool × (List Bool × List Bool)) × Int × (List (Bool × (List Int × List Int)) × (List (Bool × (List Int × List Int)) × ((Bool × (List Int × List Int)) × ((Bool × (List Int × List Int)) × ((Bool × (List Int × List Int)) × (List Int × (List Int × List Int))))))) × (Bool × (List Bool × List Bool)) × (Bool × (List Bool × List Bool))) =>
         letJ (fun ((t0_4,t4_4,t13_4,t15_3,t16_3,t18_2,t114):Int × (List (List Int)) × (Int × (Int × (Int × (Int × (List (List (Bool × (List Int × List Int)) × (List (Bool × (List Int × List Int)) × ((Bool × (List Int × List Int)) × ((Bool × (List Int × List Int)) × ((Bool × (List Int × List Int)) × (List Int × (List Int × List Int))))))) × List Int))))) × (Bool × (List Bool × List Bool)) × Int × (Bool × (List Bool × List Bool)) × Bool) =>
           bif t114 then
            some (Sum.inr (Sum.inr false))
           else
            some (Sum.inl (t0_4,t4_4,t13_4,t18_2,(w (t16_3+1))))) fun j__1 =>
         bif !(!(decide ((t17_1.1.length:Int)=t0_3))) then
          (d33 (t4_3.length:Int)).bind fun r_9 =>
          (d36 t19_1 r_9).bind fun r_10 =>
          bif !(!(decide (r_10=0))) then
           (d36 t18_1 t15_2).bind fun r_11 =>
           j__1 (t0_3,t4_3,t13_3,t15_2,t16_2,t18_1,(decide (r_11 < 0)))
          else
           j__1 (t0_3,t4_3,t13_3,t15_2,t16_2,t18_1,true)
         else
          j__1 (t0_3,t4_3,t13_3,t15_2,t16_2,t18_1,true)
        else none
       else
        some (Sum.inr (Sum.inl ()))) (t0,t4,t13,r_5,0)).bind fun
     | Sum.inl _ =>
      (d21).bind fun r_12 =>
      some r_12
     | Sum.inr t10 =>
      some t10) fun j_ =>
  bif !(!(decide (r_3.2.2.2=0))) then
   bif !(decide ((r_3.2.2.1.2.2.2.2.1.length:Int) < 1)) then
    bif !(!(decide ((r_3.2.2.1.2.2.2.2.2.length:Int)=(bif (decide ((w (1+r_2)) < r_3.1.2.2.2.1)) then (w (1+r_2)) else r_3.1.2.2.2.1)))) then
     (d32 (w (1+r_2)) r_3.2.2.1.2.2.2.2.2).bind fun r_4 =>
     j_ ((w (1+r_2)),p4,r_3.2.2.1,!r_4)
    else
     j_ ((w (1+r_2)),p4,r_3.2.2.1,true)
   else
    j_ ((w (1+r_2)),p4,r_3.2.2.1,true)
  else
   j_ ((w (1+r_2)),p4,r_3.2.2.1,true)
noncomputable def d6 (p0:Int) (p1:Int) (p2:Int) (p3:Int) (p4:List (List Int)):Option Bool :=
 (d20 p4).bind fun r =>
 bif !r then
  (d21).bind fun r_1 =>
  some r_1
 else
  (d24 p0 7).bind fun r_2 =>
  (d31 (w (1+r_2)) p1 p2 p3 p4).bind fun r_3 =>
  letJ (fun ((t0,t13,t47):Int × (Int × (Int × (Int × (Int × (List (List (Bool × (List Int × List Int)) × (List (Bool × (List Int × List Int)) × ((Bool × (List Int × List Int)) × ((Bool × (List Int × List Int)) × ((Bool × (List Int × List Int)) × (List Int × (List Int × List Int))))))) × List Int))))) × Bool) =>
    bif t47 then
     some false
    else
     (d33 1).bind fun r_4 =>
     (whileO (β:=Unit ⊕ Bool) (fun ((t0_1,t13_1,t15,t16):Int × (Int × (Int × (Int × (Int × (List (List (Bool × (List Int × List Int)) × (List (Bool × (List Int × List Int)) × ((Bool × (List Int × List Int)) × ((Bool × (List Int × List Int)) × ((Bool × (List Int × List Int)) × (List Int × (List Int × List Int))))))) × List Int))))) × (Bool × (List Bool × List Bool)) × Int) =>
       bif (decide ((w (t16+1)) < (t13_1.2.2.2.2.1.length:Int))) then
        bif (decide (0≤t16) && decide (t16 < (t13_1.2.2.2.2.1.length:Int))) then
         bif (decide (0≤(w (t16+1))) && decide ((w (t16+1)) < (t13_1.2.2.2.2.1.length:Int))) then
          letJ (fun ((t0_2,t13_2,t15_1,t16_1,t17,t18,t101):Int × (Int × (Int × (Int × (Int × (List (List (Bool × (List Int × List Int)) × (List (Bool × (List Int × List Int)) × ((Bool × (List Int × List Int)) × ((Bool × (List Int × List Int)) × ((Bool × (List Int × List Int)) × (List Int × (List Int × List Int))))))) × List Int))))) × (Bool × (List Bool × List Bool)) × Int × (List (Bool × (List Int × List Int)) × (List (Bool × (List Int × List Int)) × ((Bool × (List Int × List Int)) × ((Bool × (List Int × List Int)) × ((Bool × (List Int × List Int)) × (List Int × (List Int × List Int))))))) × (List (Bool × (List Int × List Int)) × (List (Bool × (List Int × List Int)) × ((Bool × (List Int × List Int)) × ((Bool × (List Int × List Int)) × ((Bool × (List Int × List Int)) × (List Int × (List Int × List Int))))))) × Bool) =>
            bif t101 then
             some (Sum.inr (Sum.inr false))
            else
             (whileO (β:=(Int × (Int × (Int × (Int × (Int × (List (List (Bool × (List Int × List Int)) × (List (Bool × (List Int × List Int)) × ((Bool × (List Int × List Int)) × ((Bool × (List Int × List Int)) × ((Bool × (List Int × List Int)) × (List Int × (List Int × List Int))))))) × List Int))))) × (Bool × (List Bool × List Bool)) × Int × Int) ⊕ Bool) (fun ((t0_3,t13_3,t15_2,t16_2,t17_1,t18_1,t19,t20):Int × (Int × (Int × (Int × (Int × (List (List (Bool × (List Int × List Int)) × (List (Bool × (List Int × List Int)) × ((Bool × (List Int × List Int)) × ((Bool × (List Int × List Int)) × ((Bool × (List Int × List Int)) × (List Int × (List Int × List Int))))))) × List Int))))) × (Bool × (List Bool × List Bool)) × Int × (List (Bool × (List Int × List Int)) × (List (Bool × (List Int × List Int)) × ((Bool × (List Int × List Int)) × ((Bool × (List Int × List Int)) × ((Bool × (List Int × List Int)) × (List Int × (List Int × List Int))))))) × (List (Bool × (List Int × List Int)) × (List (Bool × (List Int × List Int)) × ((Bool × (List Int × List Int)) × ((Bool × (List Int × List Int)) × ((Bool × (List Int × List Int)) × (List Int × (List Int × List Int))))))) × Int × Int) =>
               bif (decide (t20 < t0_3)) then
                letJ (fun ((t0_5,t13_5,t15_4,t16_4,t17_3,t18_3,t19_2,t20_2):Int × (Int × (Int × (Int × (Int × (List (List (Bool × (List Int × List Int)) × (List (Bool × (List Int × List Int)) × ((Bool × (List Int × List Int)) × ((Bool × (List Int × List Int)) × ((Bool × (List Int × List Int)) × (List Int × (List Int × List Int))))))) × List Int))))) × (Bool × (List Bool × List Bool)) × Int × (List (Bool × (List Int × List Int)) × (List (Bool × (List Int × List Int)) × ((Bool × (List Int × List Int)) × ((Bool × (List Int × List Int)) × ((Bool × (List Int × List Int)) × (List Int × (List Int × List Int))))))) × (List (Bool × (List Int × List Int)) × (List (Bool × (List Int × List Int)) × ((Bool × (List Int × List Int)) × ((Bool × (List Int × List Int)) × ((Bool × (List Int × List Int)) × (List Int × (List Int × List Int))))))) × Int × Int) =>
                  some (Sum.inl (t0_5,t13_5,t15_4,t16_4,t17_3,t18_3,t19_2,(w (t20_2+1))))) fun j__3 =>
                bif (decide (0≤t20) && decide (t20 < (t17_1.2.1.length:Int))) then
                 bif (decide (0≤t20) && decide (t20 < (t18_1.2.1.length:Int))) then
                  (d37 (List.getD t17_1.2.1 (Int.toNat t20) (false,[],[])) (List.getD t18_1.2.1 (Int.toNat t20) (false,[],[]))).bind fun r_6 =>
                  bif r_6 then
                   j__3 (t0_3,t13_3,t15_2,t16_2,t17_1,t18_1,t19,t20)
                  else
                   (d38 t17_1.2.2.2.2.2.2.1 [t20]).bind fun r_7 =>
                   bif r_7 then
                    bif (decide (0≤t20) && decide (t20 < (t18_1.2.1.length:Int))) then
                     (d39 0).bind fun r_8 =>
                     (d37 (List.getD t18_1.2.1 (Int.toNat t20) (false,[],[])) r_8).bind fun r_9 =>
                     bif !r_9 then
                      some (Sum.inr (Sum.inr false))
                     else
                      j__3 (t0_3,t13_3,t15_2,t16_2,t17_1,t18_1,(w (t19+1)),t20)
                    else none
                   else
                    bif (decide (0≤t20) && decide (t20 < (t17_1.1.length:Int))) then
                     (d34 (List.getD t17_1.1 (Int.toNat t20) (false,[],[]))).bind fun r_10 =>
                     bif (decide (0≤t20) && decide (t20 < (t18_1.2.1.length:Int))) then
                      (d34 (List.getD t18_1.2.1 (Int.toNat t20) (false,[],[]))).bind fun r_11 =>
                      (d41 r_11).bind fun r_12 =>
                      (d35 t15_2 r_12).bind fun r_13 =>
                      (d40 r_10 r_13).bind fun r_14 =>
                      letJ (fun ((t0_4,t13_4,t15_3,t16_3,t17_2,t18_2,t19_1,t20_1,t171):Int × (Int × (Int × (Int × (Int × (List (List (Bool × (List Int × List Int)) × (List (Bool × (List Int × List Int)) × ((Bool × (List Int × List Int)) × ((Bool × (List Int × List Int)) × ((Bool × (List Int × List Int)) × (List Int × (List Int × List Int))))))) × List Int))))) × (Bool × (List Bool × List Bool)) × Int × (List (Bool × (List Int × List Int)) × (List (Bool × (List Int × List Int)) × ((Bool × (List Int × List Int)) × ((Bool × (List Int × List Int)) × ((Bool × (List Int × List Int)) × (List Int × (List Int × List Int))))))) × (List (Bool × (List Int × List Int)) × (List (Bool × (List Int × List Int)) × ((Bool × (List Int × List Int)) × ((Bool × (List Int × List Int)) × ((Bool × (List Int × List Int)) × (List Int × (List Int × List Int))))))) × Int × Int × Bool) =>
                        bif t171 then
                         some (Sum.inr (Sum.inr false))
                        else
                         j__3 (t0_4,t13_4,t15_3,t16_3,t17_2,t18_2,t19_1,t20_1)) fun j__2 =>
                      bif !(!(decide ((t17_1.2.2.2.2.2.2.1.length:Int)=0))) then
                       (d34 t17_1.2.2.1).bind fun r_15 =>
                       (d36 r_14 r_15).bind fun r_16 =>
                       bif !(!(decide (r_16=0))) then
                        bif (decide (0≤t20) && decide (t20 < (t18_1.1.length:Int))) then
                         (d37 (List.getD t18_1.1 (Int.toNat t20) (false,[],[])) t17_1.2.2.1).bind fun r_17 =>
                         j__2 (t0_3,t13_3,t15_2,t16_2,t17_1,t18_1,(w (t19+1)),t20,!r_17)
                        else none
                       else
                        j__2 (t0_3,t13_3,t15_2,t16_2,t17_1,t18_1,(w (t19+1)),t20,true)
                      else
                       j__2 (t0_3,t13_3,t15_2,t16_2,t17_1,t18_1,(w (t19+1)),t20,true)
                     else none
                    else none
                 else none
                else none
               else
                some (Sum.inr (Sum.inl (t0_3,t13_3,t15_2,t16_2,t19)))) (t0_2,t13_2,t15_1,t16_1,t17,t18,0,0)).bind fun
             | Sum.inl (t0_6,t13_6,t15_5,t16_5,t19_3) =>
              bif !(decide (t19_3=1)) then
               some (Sum.inr (Sum.inr false))
              else
               some (Sum.inl (t0_6,t13_6,t15_5,(w (t16_5+1))))
             | Sum.inr t10 =>
              some (Sum.inr (Sum.inr t10))) fun j__1 =>
          bif !(!(decide (((((List.getD t13_1.2.2.2.2.1 (Int.toNat t16) ([],[],(false,[],[]),(false,[],[]),(false,[],[]),[],[],[])).2).1).length:Int)=t0_1))) then
           bif !(!(decide (((((List.getD t13_1.2.2.2.2.1 (Int.toNat (w (t16+1))) ([],[],(false,[],[]),(false,[],[]),(false,[],[]),[],[],[])).2).1).length:Int)=t0_1))) then
            bif !(!(decide ((((List.getD t13_1.2.2.2.2.1 (Int.toNat t16) ([],[],(false,[],[]),(false,[],[]),(false,[],[]),[],[],[])).1).length:Int)=t0_1))) then
             bif !(!(decide ((((List.getD t13_1.2.2.2.2.1 (Int.toNat (w (t16+1))) ([],[],(false,[],[]),(false,[],[]),(false,[],[]),[],[],[])).1).length:Int)=t0_1))) then
              (d37 ((((List.getD t13_1.2.2.2.2.1 (Int.toNat t16) ([],[],(false,[],[]),(false,[],[]),(false,[],[]),[],[],[])).2).2).1) ((((List.getD t13_1.2.2.2.2.1 (Int.toNat (w (t16+1))) ([],[],(false,[],[]),(false,[],[]),(false,[],[]),[],[],[])).2).2).1)).bind fun r_5 =>
              j__1 (t0_1,t13_1,t15,t16,(List.getD t13_1.2.2.2.2.1 (Int.toNat t16) ([],[],(false,[],[]),(false,[],[]),(false,[],[]),[],[],[])),(List.getD t13_1.2.2.2.2.1 (Int.toNat (w (t16+1))) ([],[],(false,[],[]),(false,[],[]),(false,[],[]),[],[],[])),!r_5)
             else
              j__1 (t0_1,t13_1,t15,t16,(List.getD t13_1.2.2.2.2.1 (Int.toNat t16) ([],[],(false,[],[]),(false,[],[]),(false,[],[]),[],[],[])),(List.getD t13_1.2.2.2.2.1 (Int.toNat (w (t16+1))) ([],[],(false,[],[]),(false,[],[]),(false,[],[]),[],[],[])),true)
            else
             j__1 (t0_1,t13_1,t15,t16,(List.getD t13_1.2.2.2.2.1 (Int.toNat t16) ([],[],(false,[],[]),(false,[],[]),(false,[],[]),[],[],[])),(List.getD t13_1.2.2.2.2.1 (Int.toNat (w (t16+1))) ([],[],(false,[],[]),(false,[],[]),(false,[],[]),[],[],[])),true)
           else
            j__1 (t0_1,t13_1,t15,t16,(List.getD t13_1.2.2.2.2.1 (Int.toNat t16) ([],[],(false,[],[]),(false,[],[]),(false,[],[]),[],[],[])),(List.getD t13_1.2.2.2.2.1 (Int.toNat (w (t16+1))) ([],[],(false,[],[]),(false,[],[]),(false,[],[]),[],[],[])),true)
          else
           j__1 (t0_1,t13_1,t15,t16,(List.getD t13_1.2.2.2.2.1 (Int.toNat t16) ([],[],(false,[],[]),(false,[],[]),(false,[],[]),[],[],[])),(List.getD t13_1.2.2.2.2.1 (Int.toNat (w (t16+1))) ([],[],(false,[],[]),(false,[],[]),(false,[],[]),[],[],[])),true)
         else none
        else none
       else
        some (Sum.inr (Sum.inl ()))) (t0,t13,r_4,0)).bind fun
     | Sum.inl _ =>
      (d21).bind fun r_18 =>
      some r_18
     | Sum.inr t10_1 =>
      some t10_1) fun j_ =>
  bif !(!(decide (r_3.2.2.2=0))) then
   j_ ((w (1+r_2)),r_3.2.2.1,(decide ((r_3.2.2.1.2.2.2.2.1.length:Int) < 1)))
  else
   j_ ((w (1+r_2)),r_3.2.2.1,true)
def sg6:Sig:=⟨[(y2,.sh),(y2,.sh),(y2,.sh),(y2,.sh),(y27,.bw)],[(y4,.sh)]⟩
def plan6:Plan:=(.seq (.reg [] []) (.seq (.seq (.reg [] []) (.cond (.seq (.reg [] []) .nil) .nil)) (.seq (.reg [] []) (.seq (.reg [] [{},{},{},{},{},{},{ fl:=1 }]) (.seq (.join (.reg [] []) [(0,.v y2 .sh),(13,.v (.ptr y32) (.own 0 .sh)),(47,.v y4 .sh)] (.cond (.seq (.reg [] []) .nil) .nil)) (.seq (.reg [] []) (.seq (.seq (.reg [] []) (.block (.loop [(0,.v y2 .sh),(13,.v (.ptr y32) (.own 0 .sh)),(15,.v (.ptr y50) (.own 0 .sh)),(16,.v y2 .sh)] [(.brk 0,[]),(.ret,[(10,.v y4 .sh)])] (.seq (.seq (.reg [] []) (.cond .nil .nil)) (.seq (.block (.seq (.reg [] []) (.seq (.join (.reg [] []) [(0,.v y2 .sh),(13,.v (.ptr y32) (.own 0 .sh)),(15,.v (.ptr y50) (.own 0 .sh)),(16,.v y2 .sh),(17,.v y154 (.own 0 .sh)),(18,.v y154 (.own 0 .sh)),(101,.v y4 .sh)] (.cond (.seq (.reg [] []) .nil) .nil)) (.seq (.reg [] []) (.seq (.seq (.reg [] []) (.block (.loop [(0,.v y2 .sh),(13,.v (.ptr y32) (.own 0 .sh)),(15,.v (.ptr y50) (.own 0 .sh)),(16,.v y2 .sh),(17,.v y154 (.own 0 .sh)),(18,.v y154 (.own 0 .sh)),(19,.v y2 .sh),(20,.v y2 .sh)] [(.brk 2,[(0,.v y2 .sh),(13,.v (.ptr y32) (.own 0 .sh)),(15,.v (.ptr y50) (.own 0 .sh)),(16,.v y2 .sh),(19,.v y2 .sh)]),(.ret,[(10,.v y4 .sh)])] (.seq (.seq (.reg [] []) (.cond .nil .nil)) (.join (.block (.seq (.seq (.reg [] []) (.cond .nil .nil)) (.seq (.reg [] []) (.seq (.seq (.reg [] []) (.cond (.seq (.seq (.reg [] []) (.cond (.seq (.reg [] []) .nil) .nil)) .nil) .nil)) (.seq (.reg [] []) (.join (.reg [] []) [(0,.v y2 .sh),(13,.v (.ptr y32) (.own 0 .sh)),(15,.v (.ptr y50) (.own 0 .sh)),(16,.v y2 .sh),(17,.v y154 (.own 0 .sh)),(18,.v y154 (.own 0 .sh)),(19,.v y2 .sh),(20,.v y2 .sh),(171,.v y4 .sh)] (.cond (.seq (.reg [] []) .nil) .nil))))))) [(0,.v y2 .sh),(13,.v (.ptr y32) (.own 0 .sh)),(15,.v (.ptr y50) (.own 0 .sh)),(16,.v y2 .sh),(17,.v y154 (.own 0 .sh)),(18,.v y154 (.own 0 .sh)),(19,.v y2 .sh),(20,.v y2 .sh)] (.reg [] [])))))) (.seq (.reg [] []) (.cond (.seq (.reg [] []) .nil) .nil))))))) (.reg [] [])))))) (.seq (.reg [] []) .nil))))))))
theorem ev6 (xs:Vals (ptys sg6.ps)):evF (P:=Tryz.prog) tab [.fn E20,.fn E21,.fn E24,.fn E31,.fn E33,.fn E37,.fn E38,.fn E39,.fn E34,.fn E41,.fn E35,.fn E40,.fn E36] sg6 Tryz.f6.results.toList (code Tryz.f6) plan6 xs=d6 xs.1 xs.2.1 xs.2.2.1 xs.2.2.2.1 xs.2.2.2.2.1:=by kernel_rfl
theorem sim6:Sim Tryz.prog 6 sg6 d6:=sim_ev mixd tabOK Tryz.func6 (code_of rfl) Tryz.call6 (Nat.le_of_ble_eq_true (by kernel_rfl)) (by kernel_rfl) plan6 _ fun xs y h=>(ev6 xs).trans h
noncomputable def d43 (l:List Int) (to:List Int):Option (List Int) :=
 (whileO (β:=(List Int)) (fun ((l_1,to_1,out,i):(List Int) × (List Int) × (List Int) × Int) =>
   bif (decide (i < (l_1.length:Int))) then
    bif (decide (0≤i) && decide (i < (l_1.length:Int))) then
     bif (decide (0≤(List.getD l_1 (Int.toNat i) 0)) && decide ((List.getD l_1 (Int.toNat i) 0) < (to_1.length:Int))) then
      bif (decide ((out.length:Int)+(([(List.getD to_1 (Int.toNat (List.getD l_1 (Int.toNat i) 0)) 0)]:List Int).length:Int)≤LIM)) then
       some (Sum.inl (l_1,to_1,(out++[(List.getD to_1 (Int.toNat (List.getD l_1 (Int.toNat i) 0)) 0)]),(w (i+1))))
      else none
     else none
    else none
   else
    some (Sum.inr out)) (l,to,[],0)).bind fun (out_1:List Int) =>
 some out_1
noncomputable def d42 (gs:List (List Int × Int)) (to:List Int):Option (List (List Int × Int)) :=
 (whileO (β:=(List (List Int × Int))) (fun ((gs_1,to_1,out,i):(List (List Int × Int)) × (List Int) × (List (List Int × Int)) × Int) =>
   bif (decide (i < (gs_1.length:Int))) then
    bif (decide (0≤i) && decide (i < (gs_1.length:Int))) then
     (d43 ((List.getD gs_1 (Int.toNat i) ([],0)).1) to_1).bind fun r =>
     bif (decide (0≤i) && decide (i < (gs_1.length:Int))) then
      (d98 out r ((List.getD gs_1 (Int.toNat i) ([],0)).2)).bind fun r_1 =>
      some (Sum.inl (gs_1,to_1,r_1,(w (i+1))))
     else none
    else none
   else
    some (Sum.inr out)) (gs,to,[],0)).bind fun (out_1:List (List Int × Int)) =>
 some out_1
noncomputable def d44 (l:List Int):Option (List Int) :=
 (whileO (β:=(List Int)) (fun ((l_1,out,x):(List Int) × (List Int) × Int) =>
   bif (decide (x < 12)) then
    letJ (fun ((l_2,out_1,x_1):(List Int) × (List Int) × Int) =>
      some (Sum.inl (l_2,out_1,(w (x_1+1))))) fun j_ =>
    (d49 l_1 x).bind fun r =>
    bif r then
     bif (decide ((out.length:Int)+(([x]:List Int).length:Int)≤LIM)) then
      j_ (l_1,(out++[x]),x)
     else none
    else
     j_ (l_1,out,x)
   else
    some (Sum.inr out)) (l,[],0)).bind fun (out_2:List Int) =>
 some out_2
noncomputable def d7 (p0:Int) (p1:Int) (p2:Int) (p3:Int) (p4:Int) (p5:List (List Int)):Option Bool :=
 (d20 p5).bind fun r =>
 bif !r then
  (d21).bind fun r_1 =>
  some r_1
 else
  (d24 p0 7).bind fun r_2 =>
  (d31 (w (1+r_2)) p1 p2 p3 p5).bind fun r_3 =>
  (d27 (w (1+r_2)) p4).bind fun r_4 =>
  (d42 r_3.2.1 r_4).bind fun r_5 =>
  (d27 (w (1+r_2)) p3).bind fun r_6 =>
  (d43 r_6 r_4).bind fun r_7 =>
  (d22 r_3.1 r_5 r_7).bind fun r_8 =>
  letJ (fun ((t15,t17,t18,t81):(Int × (Int × (Int × (Int × (List (List (Bool × (List Int × List Int)) × (List (Bool × (List Int × List Int)) × ((Bool × (List Int × List Int)) × ((Bool × (List Int × List Int)) × ((Bool × (List Int × List Int)) × (List Int × (List Int × List Int))))))) × List Int))))) × (List Int) × (Int × (Int × (Int × (Int × (List (List (Bool × (List Int × List Int)) × (List (Bool × (List Int × List Int)) × ((Bool × (List Int × List Int)) × ((Bool × (List Int × List Int)) × ((Bool × (List Int × List Int)) × (List Int × (List Int × List Int))))))) × List Int))))) × Bool) =>
    bif t81 then
     some false
    else
     (d21).bind fun r_10 =>
     bif r_10 then
      (d44 t18.2.2.2.2.2).bind fun r_11 =>
      (d43 t15.2.2.2.2.2 t17).bind fun r_12 =>
      (d44 r_12).bind fun r_13 =>
      (d38 r_11 r_13).bind fun r_14 =>
      some r_14
     else
      some false) fun j_ =>
  bif !(!(decide (r_3.2.2.2=0))) then
   bif !(!(decide (r_8.2=0))) then
    (d32 (w (1+r_2)) r_3.2.2.1.2.2.2.2.2).bind fun r_9 =>
    bif !(!r_9) then
     bif !(!(decide ((r_3.2.2.1.2.2.2.2.1.length:Int)=(r_8.1.2.2.2.2.1.length:Int)))) then
      j_ (r_3.2.2.1,r_4,r_8.1,(decide ((r_3.2.2.1.2.2.2.2.1.length:Int)=0)))
     else
      j_ (r_3.2.2.1,r_4,r_8.1,true)
    else
     j_ (r_3.2.2.1,r_4,r_8.1,true)
   else
    j_ (r_3.2.2.1,r_4,r_8.1,true)
  else
   j_ (r_3.2.2.1,r_4,r_8.1,true)
noncomputable def d45 (n:Int) (bits:Int):Option (List Int) :=
 (whileO (β:=(List Int)) (fun ((n_1,bits_1,out,i):Int × Int × (List Int) × Int) =>
   bif (decide (i < n_1)) then
    letJ (fun ((n_2,bits_2,out_1,i_1):Int × Int × (List Int) × Int) =>
      some (Sum.inl (n_2,bits_2,out_1,(w (i_1+1))))) fun j_ =>
    (d24 bits_1 128).bind fun r =>
    bif (decide (0≤(wu64 i))) then
     bif (decide ((w ((BitVec.ofInt 64 (w (Int.fdiv r (2 ^ (min (Int.toNat (wu64 i)) 64)))) &&& BitVec.ofInt 64 1).toNat:Int))=1)) then
      bif (decide ((out.length:Int)+(([i]:List Int).length:Int)≤LIM)) then
       j_ (n_1,bits_1,(out++[i]),i)
      else none
     else
      j_ (n_1,bits_1,out,i)
    else none
   else
    some (Sum.inr out)) (n,bits,[],0)).bind fun (out_2:List Int) =>
 bif (decide ((out_2.length:Int)=0)) then
  some [0]
 else
  some out_2
noncomputable def d47 (n:Int) (set_:List Int) (ballots:List (List Int)):Option (List (List Int)) :=
 (whileO (β:=(List (List Int))) (fun ((n_1,set__1,ballots_1,out,i):Int × (List Int) × (List (List Int)) × (List (List Int)) × Int) =>
   bif (decide (i < (ballots_1.length:Int))) then
    (whileO (β:=(Int × (List Int) × (List (List Int)) × (List (List Int)) × Int × (List Int))) (fun ((n_2,set__2,ballots_2,out_1,i_1,p,k):Int × (List Int) × (List (List Int)) × (List (List Int)) × Int × (List Int) × Int) =>
      bif (decide (0≤i_1) && decide (i_1 < (ballots_2.length:Int))) then
       bif (decide (k < ((List.getD ballots_2 (Int.toNat i_1) []).length:Int))) then
        letJ (fun ((n_3,set__3,ballots_3,out_2,i_2,p_1,k_1):Int × (List Int) × (List (List Int)) × (List (List Int)) × Int × (List Int) × Int) =>
          some (Sum.inl (n_3,set__3,ballots_3,out_2,i_2,p_1,(w (k_1+1))))) fun j_ =>
        bif (decide (0≤i_1) && decide (i_1 < (ballots_2.length:Int))) then
         bif (decide (0≤k) && decide (k < ((List.getD ballots_2 (Int.toNat i_1) []).length:Int))) then
          (d49 set__2 (List.getD (List.getD ballots_2 (Int.toNat i_1) []) (Int.toNat k) 0)).bind fun r =>
          bif r then
           bif (decide (0≤i_1) && decide (i_1 < (ballots_2.length:Int))) then
            bif (decide (0≤k) && decide (k < ((List.getD ballots_2 (Int.toNat i_1) []).length:Int))) then
             bif (decide ((p.length:Int)+(([(List.getD (List.getD ballots_2 (Int.toNat i_1) []) (Int.toNat k) 0)]:List Int).length:Int)≤LIM)) then
              j_ (n_2,set__2,ballots_2,out_1,i_1,(p++[(List.getD (List.getD ballots_2 (Int.toNat i_1) []) (Int.toNat k) 0)]),k)
             else none
            else none
           else none
          else
           j_ (n_2,set__2,ballots_2,out_1,i_1,p,k)
         else none
        else none
       else
        some (Sum.inr (n_2,set__2,ballots_2,out_1,i_1,p))
      else none) (n_1,set__1,ballots_1,out,i,[],0)).bind fun ((n_4,set__4,ballots_4,out_3,i_3,p_2):Int × (List Int) × (List (List Int)) × (List (List Int)) × Int × (List Int)) =>
    bif (decide ((p_2.length:Int)+(set__4.length:Int)≤LIM)) then
     bif (decide (0≤i_3) && decide (i_3 < (ballots_4.length:Int))) then
      bif (decide (((p_2++set__4).length:Int)+((List.getD ballots_4 (Int.toNat i_3) []).length:Int)≤LIM)) then
       (d99 n_4 ((p_2++set__4)++(List.getD ballots_4 (Int.toNat i_3) []))).bind fun r_1 =>
       bif (decide ((out_3.length:Int)+(([r_1]:List (List Int)).length:Int)≤LIM)) then
        some (Sum.inl (n_4,set__4,ballots_4,(out_3++[r_1]),(w (i_3+1))))
       else none
      else none
     else none
    else none
   else
    some (Sum.inr out)) (n,set_,ballots,[],0)).bind fun (out_4:List (List Int)) =>
 some out_4
noncomputable def d8 (p0:Int) (p1:Int) (p2:Int) (p3:Int) (p4:List (List Int)) (p5:List (List Int)) (p6:Int):Option Bool :=
 letJ (fun ((t0,t1,t2,t3,t4,t5,t6,t35):Int × Int × Int × Int × (List (List Int)) × (List (List Int)) × Int × Bool) =>
   bif t35 then
    (d21).bind fun r_2 =>
    some r_2
   else
    (d24 t0 7).bind fun r_3 =>
    (d25 2 (w (1+r_3)) t1 0 t2).bind fun r_4 =>
    (d45 (w (1+r_3)) t6).bind fun r_5 =>
    (d46 (w (1+r_3)) t4 8).bind fun r_6 =>
    (d46 (w (1+r_3)) t5 8).bind fun r_7 =>
    (d47 (w (1+r_3)) r_5 r_7).bind fun r_8 =>
    bif (decide ((r_6.length:Int)+(r_8.length:Int)≤LIM)) then
     (whileO (β:=(Int × Int × (List Int × (List (List Int) × (Int × (Int × (Int × (Int × (Int × (Int × Int)))))))) × (List Int) × (List (List Int)) × Int × Int)) (fun ((t0_1,t3_1,t15,t16,t17,t18,t19,t20):Int × Int × (List Int × (List (List Int) × (Int × (Int × (Int × (Int × (Int × (Int × Int)))))))) × (List Int) × (List (List Int)) × Int × Int × Int) =>
       bif (decide (t20 < (t17.length:Int))) then
        letJ (fun ((t0_4,t3_4,t15_3,t16_3,t17_3,t18_3,t19_3,t20_3):Int × Int × (List Int × (List (List Int) × (Int × (Int × (Int × (Int × (Int × (Int × Int)))))))) × (List Int) × (List (List Int)) × Int × Int × Int) =>
          some (Sum.inl (t0_4,t3_4,t15_3,t16_3,t17_3,t18_3,t19_3,(w (t20_3+1))))) fun j__3 =>
        letJ (fun ((t0_2,t3_2,t15_1,t16_1,t17_1,t18_1,t19_1,t20_1):Int × Int × (List Int × (List (List Int) × (Int × (Int × (Int × (Int × (Int × (Int × Int)))))))) × (List Int) × (List (List Int)) × Int × Int × Int) =>
          letJ (fun ((t0_3,t3_3,t15_2,t16_2,t17_2,t18_2,t19_2,t20_2,t91):Int × Int × (List Int × (List (List Int) × (Int × (Int × (Int × (Int × (Int × (Int × Int)))))))) × (List Int) × (List (List Int)) × Int × Int × Int × Bool) =>
            bif t91 then
             j__3 (t0_3,t3_3,t15_2,t16_2,t17_2,(w (t18_2+1)),t19_2,t20_2)
            else
             j__3 (t0_3,t3_3,t15_2,t16_2,t17_2,t18_2,t19_2,t20_2)) fun j__2 =>
          bif (decide (0≤t20_1) && decide (t20_1 < (t17_1.length:Int))) then
           bif (decide ((t16_1.length:Int)≤((List.getD t17_1 (Int.toNat t20_1) []).length:Int))) then
            bif (decide (0≤t20_1) && decide (t20_1 < (t17_1.length:Int))) then
             bif (cutOK 0 (t16_1.length:Int) (List.getD t17_1 (Int.toNat t20_1) []).length) then
              (d44 (List.drop 0 (List.take (Int.toNat (t16_1.length:Int)) (List.getD t17_1 (Int.toNat t20_1) [])))).bind fun r_9 =>
              (d38 r_9 t16_1).bind fun r_10 =>
              j__2 (t0_2,t3_2,t15_1,t16_1,t17_1,t18_1,t19_1,t20_1,r_10)
             else none
            else none
           else
            j__2 (t0_2,t3_2,t15_1,t16_1,t17_1,t18_1,t19_1,t20_1,false)
          else none) fun j__1 =>
        bif (decide (0≤t20) && decide (t20 < (t17.length:Int))) then
         bif (decide (0 < ((List.getD t17 (Int.toNat t20) []).length:Int))) then
          j__1 (t0_1,t3_1,t15,t16,t17,t18,(w (t19+1)),t20)
         else
          j__1 (t0_1,t3_1,t15,t16,t17,t18,t19,t20)
        else none
       else
        some (Sum.inr (t0_1,t3_1,t15,t16,t17,t18,t19))) ((w (1+r_3)),t3,r_4,r_5,(r_6++r_8),0,0,0)).bind fun ((t0_5,t3_5,t15_4,t16_4,t17_4,t18_4,t19_4):Int × Int × (List Int × (List (List Int) × (Int × (Int × (Int × (Int × (Int × (Int × Int)))))))) × (List Int) × (List (List Int)) × Int × Int) =>
     (d48 t0_5 t17_4).bind fun r_11 =>
     (d27 t0_5 t3_5).bind fun r_12 =>
     (d22 t15_4 r_11.1 r_12).bind fun r_13 =>
     letJ (fun ((t0_6,t15_5,t16_5,t18_5,t19_5,t23,t117):Int × (List Int × (List (List Int) × (Int × (Int × (Int × (Int × (Int × (Int × Int)))))))) × (List Int) × Int × Int × (Int × (Int × (Int × (Int × (List (List (Bool × (List Int × List Int)) × (List (Bool × (List Int × List Int)) × ((Bool × (List Int × List Int)) × ((Bool × (List Int × List Int)) × ((Bool × (List Int × List Int)) × (List Int × (List Int × List Int))))))) × List Int))))) × Bool) =>
       bif t117 then
        some false
       else
        (whileO (β:=(Int × (List Int × (List (List Int) × (Int × (Int × (Int × (Int × (Int × (Int × Int)))))))) × (List Int) × Int × Int × (Int × (Int × (Int × (Int × (List (List (Bool × (List Int × List Int)) × (List (Bool × (List Int × List Int)) × ((Bool × (List Int × List Int)) × ((Bool × (List Int × List Int)) × ((Bool × (List Int × List Int)) × (List Int × (List Int × List Int))))))) × List Int))))) × Int)) (fun ((t0_7,t15_6,t16_6,t18_6,t19_6,t23_1,t25,t26):Int × (List Int × (List (List Int) × (Int × (Int × (Int × (Int × (Int × (Int × Int)))))))) × (List Int) × Int × Int × (Int × (Int × (Int × (Int × (List (List (Bool × (List Int × List Int)) × (List (Bool × (List Int × List Int)) × ((Bool × (List Int × List Int)) × ((Bool × (List Int × List Int)) × ((Bool × (List Int × List Int)) × (List Int × (List Int × List Int))))))) × List Int))))) × Int × Int) =>
          bif (decide (t26 < (t23_1.2.2.2.2.2.length:Int))) then
           letJ (fun ((t0_8,t15_7,t16_7,t18_7,t19_7,t23_2,t25_1,t26_1):Int × (List Int × (List (List Int) × (Int × (Int × (Int × (Int × (Int × (Int × Int)))))))) × (List Int) × Int × Int × (Int × (Int × (Int × (Int × (List (List (Bool × (List Int × List Int)) × (List (Bool × (List Int × List Int)) × ((Bool × (List Int × List Int)) × ((Bool × (List Int × List Int)) × ((Bool × (List Int × List Int)) × (List Int × (List Int × List Int))))))) × List Int))))) × Int × Int) =>
             some (Sum.inl (t0_8,t15_7,t16_7,t18_7,t19_7,t23_2,t25_1,(w (t26_1+1))))) fun j__5 =>
           bif (decide (0≤t26) && decide (t26 < (t23_1.2.2.2.2.2.length:Int))) then
            (d49 t16_6 (List.getD t23_1.2.2.2.2.2 (Int.toNat t26) 0)).bind fun r_15 =>
            bif r_15 then
             j__5 (t0_7,t15_6,t16_6,t18_6,t19_6,t23_1,(w (t25+1)),t26)
            else
             j__5 (t0_7,t15_6,t16_6,t18_6,t19_6,t23_1,t25,t26)
           else none
          else
           some (Sum.inr (t0_7,t15_6,t16_6,t18_6,t19_6,t23_1,t25))) (t0_6,t15_5,t16_5,t18_5,t19_5,t23,0,0)).bind fun ((t0_9,t15_8,t16_8,t18_8,t19_8,t23_3,t25_2):Int × (List Int × (List (List Int) × (Int × (Int × (Int × (Int × (Int × (Int × Int)))))))) × (List Int) × Int × Int × (Int × (Int × (Int × (Int × (List (List (Bool × (List Int × List Int)) × (List (Bool × (List Int × List Int)) × ((Bool × (List Int × List Int)) × ((Bool × (List Int × List Int)) × ((Bool × (List Int × List Int)) × (List Int × (List Int × List Int))))))) × List Int))))) × Int) =>
        bif (!decide ((w (t15_8.2.2.2.1+1))=0)) then
         (d21).bind fun r_16 =>
         bif r_16 then
          bif (decide ((t23_3.2.2.2.2.2.length:Int)=(bif (decide (t0_9 < t15_8.2.2.2.1)) then t0_9 else t15_8.2.2.2.1))) then
           bif (!decide ((w ((w (Int.tdiv t19_8 (w (t15_8.2.2.2.1+1))))+1))=0)) then
            some (decide ((bif (decide ((t16_8.length:Int) < (w (Int.tdiv t18_8 (w ((w (Int.tdiv t19_8 (w (t15_8.2.2.2.1+1))))+1)))))) then (t16_8.length:Int) else (w (Int.tdiv t18_8 (w ((w (Int.tdiv t19_8 (w (t15_8.2.2.2.1+1))))+1)))))≤t25_2))
           else none
          else
           some false
         else
          some false
        else none) fun j__4 =>
     bif !(!(decide (r_13.2=0))) then
      (d32 t0_5 r_13.1.2.2.2.2.2).bind fun r_14 =>
      j__4 (t0_5,t15_4,t16_4,t18_4,t19_4,r_13.1,!r_14)
     else
      j__4 (t0_5,t15_4,t16_4,t18_4,t19_4,r_13.1,true)
    else none) fun j_ =>
 (d20 p4).bind fun r =>
 bif !(!r) then
  (d20 p5).bind fun r_1 =>
  j_ (p0,p1,p2,p3,p4,p5,p6,!r_1)
 else
  j_ (p0,p1,p2,p3,p4,p5,p6,true)
noncomputable def d51 (n:Int):Option (List Bool) :=
 bif (decide (n=n) && (decide (0≤n) && decide (n≤LIM))) then
  (whileO (β:=(List Bool)) (fun ((n_1,out,i):Int × (List Bool) × Int) =>
    bif (decide (i < n_1)) then
     bif (decide (0≤i) && decide (i < (out.length:Int))) then
      some (Sum.inl (n_1,(List.set out (Int.toNat i) true),(w (i+1))))
     else none
    else
     some (Sum.inr out)) (n,(List.replicate (Int.toNat n) false),0)).bind fun (out_1:List Bool) =>
  some out_1
 else none
noncomputable def d103 (remain:List Bool) (i:Int):Option Bool :=
 bif (decide (i < (remain.length:Int))) then
  bif (decide (0≤i) && decide (i < (remain.length:Int))) then
   some (List.getD remain (Int.toNat i) false)
  else none
 else
  some false
noncomputable def d102 (p:Int) (p1:List Bool):Option Bool :=
 (d103 p1 p).bind fun r =>
 some r
noncomputable def d50 (gs:List (List Int × Int)) (remain:List Bool):Option ((List Int) × Int) :=
 letJ (fun ((gs_1,remain_1,exhausted,t16):(List (List Int × Int)) × (List Bool) × Int × Bool) =>
   bif t16 then
    some ([],0)
   else
    bif (decide ((remain_1.length:Int)=(remain_1.length:Int)) && (decide (0≤(remain_1.length:Int)) && decide ((remain_1.length:Int)≤LIM))) then
     (whileO (β:=((List Int) × Int)) (fun ((remain_2,votes,exhausted_1,t20,t21,t22):(List Bool) × (List Int) × Int × (List (List Int × Int)) × Int × Int) =>
       bif (decide (t22 < t21)) then
        letJ (fun ((remain_3,votes_1,exhausted_2,t20_1,t21_1,t22_1):(List Bool) × (List Int) × Int × (List (List Int × Int)) × Int × Int) =>
          some (Sum.inl (remain_3,votes_1,exhausted_2,t20_1,t21_1,(w (t22_1+1))))) fun j__1 =>
        bif (decide (0≤t22) && decide (t22 < (t20.length:Int))) then
         (d101 ((List.getD t20 (Int.toNat t22) ([],0)).1) (fun a=>d102 a remain_2)).bind fun r_1 =>
         bif (decide (r_1 < 0)) then
          j__1 (remain_2,votes,(w (exhausted_1+((List.getD t20 (Int.toNat t22) ([],0)).2))),t20,t21,t22)
         else
          bif (decide (0≤r_1) && decide (r_1 < (((List.getD t20 (Int.toNat t22) ([],0)).1).length:Int))) then
           bif (decide (0≤(List.getD ((List.getD t20 (Int.toNat t22) ([],0)).1) (Int.toNat r_1) 0)) && decide ((List.getD ((List.getD t20 (Int.toNat t22) ([],0)).1) (Int.toNat r_1) 0) < (votes.length:Int))) then
            bif (decide (0≤(List.getD ((List.getD t20 (Int.toNat t22) ([],0)).1) (Int.toNat r_1) 0)) && decide ((List.getD ((List.getD t20 (Int.toNat t22) ([],0)).1) (Int.toNat r_1) 0) < (votes.length:Int))) then
             j__1 (remain_2,(List.set votes (Int.toNat (List.getD ((List.getD t20 (Int.toNat t22) ([],0)).1) (Int.toNat r_1) 0)) (w ((List.getD votes (Int.toNat (List.getD ((List.getD t20 (Int.toNat t22) ([],0)).1) (Int.toNat r_1) 0)) 0)+((List.getD t20 (Int.toNat t22) ([],0)).2)))),exhausted_1,t20,t21,t22)
            else none
           else none
          else none
        else none
       else
        some (Sum.inr (votes,exhausted_1))) (remain_1,(List.replicate (Int.toNat (remain_1.length:Int)) 0),exhausted,gs_1,(gs_1.length:Int),0)).bind fun ((votes_2,exhausted_3):(List Int) × Int) =>
     some (votes_2,exhausted_3)
    else none) fun j_ =>
 (d100 gs).bind fun r =>
 bif !(!r) then
  j_ (gs,remain,0,(decide (7 < (remain.length:Int))))
 else
  j_ (gs,remain,0,true)
noncomputable def d9 (p0:Int) (p1:Int) (p2:Int) (p3:Int) (p4:List (List Int)):Option Bool :=
 (d20 p4).bind fun r =>
 bif !r then
  (d21).bind fun r_1 =>
  some r_1
 else
  (d24 p0 7).bind fun r_2 =>
  (d31 (w (1+r_2)) p1 p2 p3 p4).bind fun r_3 =>
  (d51 (w (1+r_2))).bind fun r_4 =>
  (d50 r_3.2.1 r_4).bind fun r_5 =>
  letJ (fun ((t0,t11,t12,t13,t15,t56):Int × (List Int × (List (List Int) × (Int × (Int × (Int × (Int × (Int × (Int × Int)))))))) × (List (List Int × Int)) × (Int × (Int × (Int × (Int × (List (List (Bool × (List Int × List Int)) × (List (Bool × (List Int × List Int)) × ((Bool × (List Int × List Int)) × ((Bool × (List Int × List Int)) × ((Bool × (List Int × List Int)) × (List Int × (List Int × List Int))))))) × List Int))))) × (List Int) × Bool) =>
    bif t56 then
     some false
    else
     (whileO (β:=Unit ⊕ Bool) (fun ((t0_1,t11_1,t12_1,t13_1,t15_1,t17):Int × (List Int × (List (List Int) × (Int × (Int × (Int × (Int × (Int × (Int × Int)))))))) × (List (List Int × Int)) × (Int × (Int × (Int × (Int × (List (List (Bool × (List Int × List Int)) × (List (Bool × (List Int × List Int)) × ((Bool × (List Int × List Int)) × ((Bool × (List Int × List Int)) × ((Bool × (List Int × List Int)) × (List Int × (List Int × List Int))))))) × List Int))))) × (List Int) × Int) =>
       bif (decide (t17 < t0_1)) then
        letJ (fun ((t0_2,t11_2,t12_2,t13_2,t15_2,t17_1,t82):Int × (List Int × (List (List Int) × (Int × (Int × (Int × (Int × (Int × (Int × Int)))))))) × (List (List Int × Int)) × (Int × (Int × (Int × (Int × (List (List (Bool × (List Int × List Int)) × (List (Bool × (List Int × List Int)) × ((Bool × (List Int × List Int)) × ((Bool × (List Int × List Int)) × ((Bool × (List Int × List Int)) × (List Int × (List Int × List Int))))))) × List Int))))) × (List Int) × Int × Bool) =>
          bif t82 then
           some (Sum.inr (Sum.inr false))
          else
           some (Sum.inl (t0_2,t11_2,t12_2,t13_2,t15_2,(w (t17_1+1))))) fun j__1 =>
        bif (decide (0≤t17) && decide (t17 < (t15_1.length:Int))) then
         (d52 t12_1).bind fun r_6 =>
         bif (decide (r_6 < (w ((w (t11_1.2.2.2.1+1)) * (List.getD t15_1 (Int.toNat t17) 0))))) then
          bif (decide (0≤0) && decide (0 < (t13_1.2.2.2.2.1.length:Int))) then
           (d49 (((((((List.getD t13_1.2.2.2.2.1 0 ([],[],(false,[],[]),(false,[],[]),(false,[],[]),[],[],[])).2).2).2).2).2).1) t17).bind fun r_7 =>
           j__1 (t0_1,t11_1,t12_1,t13_1,t15_1,t17,!r_7)
          else none
         else
          j__1 (t0_1,t11_1,t12_1,t13_1,t15_1,t17,false)
        else none
       else
        some (Sum.inr (Sum.inl ()))) (t0,t11,t12,t13,t15,0)).bind fun
     | Sum.inl _ =>
      (d21).bind fun r_8 =>
      some r_8
     | Sum.inr t10 =>
      some t10) fun j_ =>
  bif !(!(decide (r_3.2.2.2=0))) then
   bif !(decide ((r_3.2.2.1.2.2.2.2.1.length:Int) < 1)) then
    j_ ((w (1+r_2)),r_3.1,r_3.2.1,r_3.2.2.1,r_5.1,!(decide ((r_5.1.length:Int)=(w (1+r_2)))))
   else
    j_ ((w (1+r_2)),r_3.1,r_3.2.1,r_3.2.2.1,r_5.1,true)
  else
   j_ ((w (1+r_2)),r_3.1,r_3.2.1,r_3.2.2.1,r_5.1,true)
noncomputable def d106 (c:(List Int × (List (List Int) × (Int × (Int × (Int × (Int × (Int × (Int × Int))))))))) (gs:List (List Int × Int)) (lots:List Int):Option ((List Int × (List (List Int) × (Int × (Int × (Int × (Int × (Int × (Int × Int)))))))) × (List (List Int × Int) × (List Int × (List Bool × List (List (Bool × (List Int × List Int))))))) :=
 bif (decide ((c.2.1.length:Int)=(c.2.1.length:Int)) && (decide (0≤(c.2.1.length:Int)) && decide ((c.2.1.length:Int)≤LIM))) then
  (whileO (β:=((List (List Int × Int)) × (List Int) × (List Int × (List (List Int) × (Int × (Int × (Int × (Int × (Int × (Int × Int)))))))) × (List Bool))) (fun ((gs_1,lots_1,c_1,remain,t14,t15):(List (List Int × Int)) × (List Int) × (List Int × (List (List Int) × (Int × (Int × (Int × (Int × (Int × (Int × Int)))))))) × (List Bool) × Int × Int) =>
    bif (decide (t15 < t14)) then
     bif (decide (0≤t15) && decide (t15 < (remain.length:Int))) then
      some (Sum.inl (gs_1,lots_1,c_1,(List.set remain (Int.toNat t15) true),t14,(w (t15+1))))
     else none
    else
     some (Sum.inr (gs_1,lots_1,c_1,remain))) (gs,lots,c,(List.replicate (Int.toNat (c.2.1.length:Int)) false),((List.replicate (Int.toNat (c.2.1.length:Int)) false).length:Int),0)).bind fun ((gs_2,lots_2,c_2,remain_1):(List (List Int × Int)) × (List Int) × (List Int × (List (List Int) × (Int × (Int × (Int × (Int × (Int × (Int × Int)))))))) × (List Bool)) =>
  some (c_2,gs_2,lots_2,remain_1,[])
 else none
noncomputable def d154 (l:List Int):Option (List (Bool × (List Int × List Int))) :=
 (whileO (β:=(List (Bool × (List Int × List Int)))) (fun ((out,t6,t7,t8):(List (Bool × (List Int × List Int))) × (List Int) × Int × Int) =>
   bif (decide (t8 < t7)) then
    bif (decide (0≤t8) && decide (t8 < (t6.length:Int))) then
     (d68 (List.getD t6 (Int.toNat t8) 0)).bind fun r =>
     bif (decide ((out.length:Int)+(([r]:List (Bool × (List Int × List Int))).length:Int)≤LIM)) then
      some (Sum.inl ((out++[r]),t6,t7,(w (t8+1))))
     else none
    else none
   else
    some (Sum.inr out)) ([],l,(l.length:Int),0)).bind fun (out_1:List (Bool × (List Int × List Int))) =>
 some out_1
noncomputable def d107 (k:((List Int × (List (List Int) × (Int × (Int × (Int × (Int × (Int × (Int × Int)))))))) × (List (List Int × Int) × (List Int × (List Bool × List (List (Bool × (List Int × List Int)))))))) (votes:List Int) (exhausted:Int):Option ((List (Bool × (List Int × List Int)) × (List (Bool × (List Int × List Int)) × ((Bool × (List Int × List Int)) × ((Bool × (List Int × List Int)) × ((Bool × (List Int × List Int)) × (List Int × (List Int × List Int))))))) × Int) :=
 (whileO (β:=(((List Int × (List (List Int) × (Int × (Int × (Int × (Int × (Int × (Int × Int)))))))) × (List (List Int × Int) × (List Int × (List Bool × List (List (Bool × (List Int × List Int))))))) × (List Int) × Int × (List (Bool × (List Int × List Int)) × (List (Bool × (List Int × List Int)) × ((Bool × (List Int × List Int)) × ((Bool × (List Int × List Int)) × ((Bool × (List Int × List Int)) × (List Int × (List Int × List Int))))))) × Int)) (fun ((k_1,votes_1,exhausted_1,r,sum,t14,t15,t16):((List Int × (List (List Int) × (Int × (Int × (Int × (Int × (Int × (Int × Int)))))))) × (List (List Int × Int) × (List Int × (List Bool × List (List (Bool × (List Int × List Int))))))) × (List Int) × Int × (List (Bool × (List Int × List Int)) × (List (Bool × (List Int × List Int)) × ((Bool × (List Int × List Int)) × ((Bool × (List Int × List Int)) × ((Bool × (List Int × List Int)) × (List Int × (List Int × List Int))))))) × Int × (List Int) × Int × Int) =>
   bif (decide (t16 < t15)) then
    bif (decide (0≤t16) && decide (t16 < (t14.length:Int))) then
     some (Sum.inl (k_1,votes_1,exhausted_1,r,(w (sum+(List.getD t14 (Int.toNat t16) 0))),t14,t15,(w (t16+1))))
    else none
   else
    some (Sum.inr (k_1,votes_1,exhausted_1,r,sum))) (k,votes,exhausted,([],[],(false,[],[]),(false,[],[]),(false,[],[]),[],[],[]),0,votes,(votes.length:Int),0)).bind fun ((k_2,votes_2,exhausted_2,r_1,sum_1):((List Int × (List (List Int) × (Int × (Int × (Int × (Int × (Int × (Int × Int)))))))) × (List (List Int × Int) × (List Int × (List Bool × List (List (Bool × (List Int × List Int))))))) × (List Int) × Int × (List (Bool × (List Int × List Int)) × (List (Bool × (List Int × List Int)) × ((Bool × (List Int × List Int)) × ((Bool × (List Int × List Int)) × ((Bool × (List Int × List Int)) × (List Int × (List Int × List Int))))))) × Int) =>
 (d154 votes_2).bind fun r_2 =>
 (d68 (w ((w (Int.tdiv sum_1 2))+1))).bind fun r_3 =>
 (d68 exhausted_2).bind fun r_4 =>
 (d68 0).bind fun r_5 =>
 (whileO (β:=((List (Bool × (List Int × List Int)) × (List (Bool × (List Int × List Int)) × ((Bool × (List Int × List Int)) × ((Bool × (List Int × List Int)) × ((Bool × (List Int × List Int)) × (List Int × (List Int × List Int))))))) × Int)) (fun ((r_6,quota,t38,t39,t40):(List (Bool × (List Int × List Int)) × (List (Bool × (List Int × List Int)) × ((Bool × (List Int × List Int)) × ((Bool × (List Int × List Int)) × ((Bool × (List Int × List Int)) × (List Int × (List Int × List Int))))))) × Int × (List Bool) × Int × Int) =>
   bif (decide (t40 < t39)) then
    bif (decide (0≤t40) && decide (t40 < (t38.length:Int))) then
     letJ (fun ((r_7,quota_1,keep,t38_1,t39_1,t40_1):(List (Bool × (List Int × List Int)) × (List (Bool × (List Int × List Int)) × ((Bool × (List Int × List Int)) × ((Bool × (List Int × List Int)) × ((Bool × (List Int × List Int)) × (List Int × (List Int × List Int))))))) × Int × Int × (List Bool) × Int × Int) =>
       (d68 keep).bind fun r_8 =>
       bif (decide ((r_7.2.1.length:Int)+(([r_8]:List (Bool × (List Int × List Int))).length:Int)≤LIM)) then
        some (Sum.inl ((r_7.1,(r_7.2.1++[r_8]),r_7.2.2),quota_1,t38_1,t39_1,(w (t40_1+1))))
       else none) fun j_ =>
     bif (List.getD t38 (Int.toNat t40) false) then
      j_ (r_6,quota,1,t38,t39,t40)
     else
      j_ (r_6,quota,0,t38,t39,t40)
    else none
   else
    some (Sum.inr (r_6,quota))) ((r_2,[],r_3,r_4,r_5,[],[],[]),(w ((w (Int.tdiv sum_1 2))+1)),k_2.2.2.2.1,(k_2.2.2.2.1.length:Int),0)).bind fun ((r_9,quota_2):(List (Bool × (List Int × List Int)) × (List (Bool × (List Int × List Int)) × ((Bool × (List Int × List Int)) × ((Bool × (List Int × List Int)) × ((Bool × (List Int × List Int)) × (List Int × (List Int × List Int))))))) × Int) =>
 some (r_9,quota_2)
noncomputable def d108 (k:((List Int × (List (List Int) × (Int × (Int × (Int × (Int × (Int × (Int × Int)))))))) × (List (List Int × Int) × (List Int × (List Bool × List (List (Bool × (List Int × List Int)))))))):Option (List Int) :=
 (whileO (β:=(List Int)) (fun ((out,t9,t10,t11):(List Int) × (List Bool) × Int × Int) =>
   bif (decide (t11 < t10)) then
    letJ (fun ((out_1,t9_1,t10_1,t11_1):(List Int) × (List Bool) × Int × Int) =>
      some (Sum.inl (out_1,t9_1,t10_1,(w (t11_1+1))))) fun j_ =>
    bif (decide (0≤t11) && decide (t11 < (t9.length:Int))) then
     bif (List.getD t9 (Int.toNat t11) false) then
      bif (decide ((out.length:Int)+(([t11]:List Int).length:Int)≤LIM)) then
       j_ ((out++[t11]),t9,t10,t11)
      else none
     else
      j_ (out,t9,t10,t11)
    else none
   else
    some (Sum.inr out)) ([],k.2.2.2.1,(k.2.2.2.1.length:Int),0)).bind fun (out_2:List Int) =>
 some out_2
noncomputable def d109 (c:Int) (p1:List Int) (p2:Int):Option Bool :=
 bif (decide (0≤c) && decide (c < (p1.length:Int))) then
  some (decide (p2≤(List.getD p1 (Int.toNat c) 0)))
 else none
noncomputable def d110 (p0:((List Int × (List (List Int) × (Int × (Int × (Int × (Int × (Int × (Int × Int)))))))) × (List (List Int × Int) × (List Int × (List Bool × List (List (Bool × (List Int × List Int)))))))) (p1:List Int):Option (Int × (List Int) × ((List Int × (List (List Int) × (Int × (Int × (Int × (Int × (Int × (Int × Int)))))))) × (List (List Int × Int) × (List Int × (List Bool × List (List (Bool × (List Int × List Int)))))))) :=
 (d108 p0).bind fun r =>
 (whileO (β:=(((List Int × (List (List Int) × (Int × (Int × (Int × (Int × (Int × (Int × Int)))))))) × (List (List Int × Int) × (List Int × (List Bool × List (List (Bool × (List Int × List Int))))))) × (List Int) × (List Int))) (fun ((t0,t1,t5,t9,t10,t11):((List Int × (List (List Int) × (Int × (Int × (Int × (Int × (Int × (Int × Int)))))))) × (List (List Int × Int) × (List Int × (List Bool × List (List (Bool × (List Int × List Int))))))) × (List Int) × (List Int) × (List Int) × Int × Int) =>
   bif (decide (t11 < t10)) then
    letJ (fun ((t0_2,t1_2,t5_2,t9_2,t10_2,t11_2):((List Int × (List (List Int) × (Int × (Int × (Int × (Int × (Int × (Int × Int)))))))) × (List (List Int × Int) × (List Int × (List Bool × List (List (Bool × (List Int × List Int))))))) × (List Int) × (List Int) × (List Int) × Int × Int) =>
      some (Sum.inl (t0_2,t1_2,t5_2,t9_2,t10_2,(w (t11_2+1))))) fun j__1 =>
    bif (decide (0≤t11) && decide (t11 < (t9.length:Int))) then
     letJ (fun ((t0_1,t1_1,t5_1,t7,t9_1,t10_1,t11_1,t15):((List Int × (List (List Int) × (Int × (Int × (Int × (Int × (Int × (Int × Int)))))))) × (List (List Int × Int) × (List Int × (List Bool × List (List (Bool × (List Int × List Int))))))) × (List Int) × (List Int) × Int × (List Int) × Int × Int × Bool) =>
       bif t15 then
        j__1 (t0_1,t1_1,[t7],t9_1,t10_1,t11_1)
       else
        bif (decide (0≤t7) && decide (t7 < (t1_1.length:Int))) then
         bif (decide (0≤0) && decide (0 < (t5_1.length:Int))) then
          bif (decide (0≤(List.getD t5_1 0 0)) && decide ((List.getD t5_1 0 0) < (t1_1.length:Int))) then
           bif (decide ((List.getD t1_1 (Int.toNat t7) 0)=(List.getD t1_1 (Int.toNat (List.getD t5_1 0 0)) 0))) then
            bif (decide ((t5_1.length:Int)+(([t7]:List Int).length:Int)≤LIM)) then
             j__1 (t0_1,t1_1,(t5_1++[t7]),t9_1,t10_1,t11_1)
            else none
           else
            j__1 (t0_1,t1_1,t5_1,t9_1,t10_1,t11_1)
          else none
         else none
        else none) fun j_ =>
     bif !(decide ((t5.length:Int)=0)) then
      bif (decide (0≤(List.getD t9 (Int.toNat t11) 0)) && decide ((List.getD t9 (Int.toNat t11) 0) < (t1.length:Int))) then
       bif (decide (0≤0) && decide (0 < (t5.length:Int))) then
        bif (decide (0≤(List.getD t5 0 0)) && decide ((List.getD t5 0 0) < (t1.length:Int))) then
         j_ (t0,t1,t5,(List.getD t9 (Int.toNat t11) 0),t9,t10,t11,(decide ((List.getD t1 (Int.toNat (List.getD t9 (Int.toNat t11) 0)) 0) < (List.getD t1 (Int.toNat (List.getD t5 0 0)) 0))))
        else none
       else none
      else none
     else
      j_ (t0,t1,t5,(List.getD t9 (Int.toNat t11) 0),t9,t10,t11,true)
    else none
   else
    some (Sum.inr (t0,t1,t5))) (p0,p1,[],r,(r.length:Int),0)).bind fun ((t0_3,t1_3,t5_3):((List Int × (List (List Int) × (Int × (Int × (Int × (Int × (Int × (Int × Int)))))))) × (List (List Int × Int) × (List Int × (List Bool × List (List (Bool × (List Int × List Int))))))) × (List Int) × (List Int)) =>
 bif (decide (0≤0) && decide (0 < (t5_3.length:Int))) then
  letJ (fun ((t0_4,t1_4,t4,t5_4):((List Int × (List (List Int) × (Int × (Int × (Int × (Int × (Int × (Int × Int)))))))) × (List (List Int × Int) × (List Int × (List Bool × List (List (Bool × (List Int × List Int))))))) × (List Int) × Int × (List Int)) =>
    bif (decide (0≤t4) && decide (t4 < (t0_4.2.2.2.1.length:Int))) then
     (d154 t1_4).bind fun r_2 =>
     bif (decide ((t0_4.2.2.2.2.length:Int)+(([r_2]:List (List (Bool × (List Int × List Int)))).length:Int)≤LIM)) then
      some (t4,t5_4,(t0_4.1,t0_4.2.1,t0_4.2.2.1,(List.set t0_4.2.2.2.1 (Int.toNat t4) false),(t0_4.2.2.2.2++[r_2])))
     else none
    else none) fun j__2 =>
  bif (decide (1 < (t5_3.length:Int))) then
   (d155 t0_3.1.2.2.2.2.2.2.1 t0_3.2.2.2.2 t5_3 t0_3.2.2.1 true).bind fun r_1 =>
   j__2 ((t0_3.1,t0_3.2.1,t0_3.2.2.1,t0_3.2.2.2.1,r_1.2.2),t1_3,r_1.1,t5_3)
  else
   j__2 (t0_3,t1_3,(List.getD t5_3 0 0),[])
 else none
noncomputable def d53 (p0:(List Int × (List (List Int) × (Int × (Int × (Int × (Int × (Int × (Int × Int))))))))) (p1:List (List Int × Int)) (p2:List Int):Option ((Int × (Int × (Int × (Int × (List (List (Bool × (List Int × List Int)) × (List (Bool × (List Int × List Int)) × ((Bool × (List Int × List Int)) × ((Bool × (List Int × List Int)) × ((Bool × (List Int × List Int)) × (List Int × (List Int × List Int))))))) × List Int))))) × Int) :=
 (d66 1 p0 p1 p2).bind fun r =>
 bif !(decide (r=0)) then
  some ((0,0,0,0,[],[]),r)
 else
  (d106 p0 p1 p2).bind fun r_1 =>
  (whileO (β:=((Int × (Int × (Int × (Int × (List (List (Bool × (List Int × List Int)) × (List (Bool × (List Int × List Int)) × ((Bool × (List Int × List Int)) × ((Bool × (List Int × List Int)) × ((Bool × (List Int × List Int)) × (List Int × (List Int × List Int))))))) × List Int))))) × Int)) (fun ((t1,t6,t9,t10):(List (List Int × Int)) × (Int × (Int × (Int × (Int × (List (List (Bool × (List Int × List Int)) × (List (Bool × (List Int × List Int)) × ((Bool × (List Int × List Int)) × ((Bool × (List Int × List Int)) × ((Bool × (List Int × List Int)) × (List Int × (List Int × List Int))))))) × List Int))))) × ((List Int × (List (List Int) × (Int × (Int × (Int × (Int × (Int × (Int × Int)))))))) × (List (List Int × Int) × (List Int × (List Bool × List (List (Bool × (List Int × List Int))))))) × (Int × (Int × (Int × (Int × (List (List (Bool × (List Int × List Int)) × (List (Bool × (List Int × List Int)) × ((Bool × (List Int × List Int)) × ((Bool × (List Int × List Int)) × ((Bool × (List Int × List Int)) × (List Int × (List Int × List Int))))))) × List Int)))))) =>
    (d50 t1 t9.2.2.2.1).bind fun r_2 =>
    (d107 t9 r_2.1 r_2.2).bind fun r_3 =>
    (d108 t9).bind fun r_4 =>
    (d101 r_4 (fun a=>d109 a r_2.1 r_3.2)).bind fun r_5 =>
    letJ (fun ((t1_1,t6_1,t9_1,t10_1,t11,t13,t15,t16):(List (List Int × Int)) × (Int × (Int × (Int × (Int × (List (List (Bool × (List Int × List Int)) × (List (Bool × (List Int × List Int)) × ((Bool × (List Int × List Int)) × ((Bool × (List Int × List Int)) × ((Bool × (List Int × List Int)) × (List Int × (List Int × List Int))))))) × List Int))))) × ((List Int × (List (List Int) × (Int × (Int × (Int × (Int × (Int × (Int × Int)))))))) × (List (List Int × Int) × (List Int × (List Bool × List (List (Bool × (List Int × List Int))))))) × (Int × (Int × (Int × (Int × (List (List (Bool × (List Int × List Int)) × (List (Bool × (List Int × List Int)) × ((Bool × (List Int × List Int)) × ((Bool × (List Int × List Int)) × ((Bool × (List Int × List Int)) × (List Int × (List Int × List Int))))))) × List Int))))) × (List Int) × (List (Bool × (List Int × List Int)) × (List (Bool × (List Int × List Int)) × ((Bool × (List Int × List Int)) × ((Bool × (List Int × List Int)) × ((Bool × (List Int × List Int)) × (List Int × (List Int × List Int))))))) × (List Int) × Int) =>
      bif (decide (0≤t16)) then
       bif (decide (0≤t16) && decide (t16 < (t15.length:Int))) then
        bif (decide ((t10_1.2.2.2.2.1.length:Int)+(([(t13.1,t13.2.1,t13.2.2.1,t13.2.2.2.1,t13.2.2.2.2.1,[(List.getD t15 (Int.toNat t16) 0)],t13.2.2.2.2.2.2)]:List (List (Bool × (List Int × List Int)) × (List (Bool × (List Int × List Int)) × ((Bool × (List Int × List Int)) × ((Bool × (List Int × List Int)) × ((Bool × (List Int × List Int)) × (List Int × (List Int × List Int)))))))).length:Int)≤LIM)) then
         bif (decide (0≤t16) && decide (t16 < (t15.length:Int))) then
          some (Sum.inr ((t10_1.1,t10_1.2.1,t10_1.2.2.1,t10_1.2.2.2.1,(t10_1.2.2.2.2.1++[(t13.1,t13.2.1,t13.2.2.1,t13.2.2.2.1,t13.2.2.2.2.1,[(List.getD t15 (Int.toNat t16) 0)],t13.2.2.2.2.2.2)]),[(List.getD t15 (Int.toNat t16) 0)]),0))
         else none
        else none
       else none
      else
       (d110 t9_1 t11).bind fun r_6 =>
       bif (decide ((t10_1.2.2.2.2.1.length:Int)+(([(t13.1,t13.2.1,t13.2.2.1,t13.2.2.2.1,t13.2.2.2.2.1,t13.2.2.2.2.2.1,[r_6.1],r_6.2.1)]:List (List (Bool × (List Int × List Int)) × (List (Bool × (List Int × List Int)) × ((Bool × (List Int × List Int)) × ((Bool × (List Int × List Int)) × ((Bool × (List Int × List Int)) × (List Int × (List Int × List Int)))))))).length:Int)≤LIM)) then
        some (Sum.inl (t1_1,t6_1,r_6.2.2,(t10_1.1,t10_1.2.1,t10_1.2.2.1,t10_1.2.2.2.1,(t10_1.2.2.2.2.1++[(t13.1,t13.2.1,t13.2.2.1,t13.2.2.2.1,t13.2.2.2.2.1,t13.2.2.2.2.2.1,[r_6.1],r_6.2.1)]),t10_1.2.2.2.2.2)))
       else none) fun j_ =>
    bif (decide ((r_4.length:Int)=1)) then
     j_ (t1,t6,t9,t10,r_2.1,r_3.1,r_4,0)
    else
     j_ (t1,t6,t9,t10,r_2.1,r_3.1,r_4,r_5)) (p1,(0,0,0,0,[],[]),r_1,(1,1,0,(p0.2.1.length:Int),[],[]))).bind fun ((t6_2,t7):(Int × (Int × (Int × (Int × (List (List (Bool × (List Int × List Int)) × (List (Bool × (List Int × List Int)) × ((Bool × (List Int × List Int)) × ((Bool × (List Int × List Int)) × ((Bool × (List Int × List Int)) × (List Int × (List Int × List Int))))))) × List Int))))) × Int) =>
  some (t6_2,t7)
noncomputable def d10 (p0:Int) (p1:Int) (p2:Int) (p3:List (List Int)):Option Bool :=
 (d20 p3).bind fun r =>
 bif !r then
  (d21).bind fun r_1 =>
  some r_1
 else
  (d24 p0 7).bind fun r_2 =>
  (d31 (w (1+r_2)) 0 p1 p2 p3).bind fun r_3 =>
  (d25 0 (w (1+r_2)) 0 0 p1).bind fun r_4 =>
  (d27 (w (1+r_2)) p2).bind fun r_5 =>
  (d53 r_4 r_3.2.1 r_5).bind fun r_6 =>
  (d21).bind fun r_7 =>
  bif r_7 then
   bif (decide (r_3.2.2.2=0)) then
    bif (decide (r_6.2=0)) then
     bif (decide ((r_3.2.2.1.2.2.2.2.2.length:Int)=1)) then
      (d38 r_3.2.2.1.2.2.2.2.2 r_6.1.2.2.2.2.2).bind fun r_8 =>
      some r_8
     else
      some false
    else
     some false
   else
    some false
  else
   some false
end Go.Proofs.YtmipjomnjkmdbaaGreat
