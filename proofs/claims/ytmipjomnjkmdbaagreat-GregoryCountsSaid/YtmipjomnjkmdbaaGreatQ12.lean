/- Part 12 of what stands below the statement. -/
import Derived.Test.YtmipjomnjkmdbaaGreatQ11
open Go Go.Proofs Go.X
namespace Go.Proofs.YtmipjomnjkmdbaaGreat
set_option linter.unusedVariables false
set_option maxRecDepth 100000
abbrev uc9:=(Bool × (List Bool × List Bool))
abbrev uc10:=(Bool × (List Int × List Int))
abbrev uc4:=(List uc10 × (List uc10 × (uc10 × (uc10 × (uc10 × (List Int × (List Int × List Int)))))))
abbrev uc2:=(Int × (Int × (Int × (Int × (List uc4 × List Int)))))
abbrev uc1:=(uc2 × Int)
abbrev uc3:=(List uc4)
abbrev uc8:=(List uc10)
abbrev uc6:=(List uc8)
abbrev uc14:=(List Int × Int)
abbrev uc11:=(List uc14)
abbrev uc15:=(List Bool)
abbrev uc7:=(List uc15 × (List Bool × List Int))
abbrev uc12:=(List uc15)
abbrev uc16:=(List Int)
abbrev uc5:=(List Int × (List uc16 × (Int × (Int × (Int × (Int × (Int × (Int × Int))))))))
abbrev uc0:=(uc11 × uc16 × uc5 × uc2 × Int × Int × uc2 × uc16 × uc7 × uc8)
abbrev uc13:=(List uc16)
abbrev uc17:=uc11 × uc16 × uc5 × uc2 × Int × Int × uc2 × uc16 × uc7 × uc8 × uc12 × uc15 × uc4 × uc15 × uc15 × Int
abbrev uc18:=uc11 × uc16 × uc5 × uc2 × Int × Int × uc2 × uc16 × uc7 × uc8 × uc12 × uc15 × uc4 × Int × Bool
abbrev uc19:=uc11 × uc16 × uc5 × uc2 × Int × Int × uc2 × uc16 × uc7 × uc8
noncomputable def d21:Option Bool :=
 (d48 3 [[0,1],[0,1],[0,1],[0,1],[0,1],[0,1],[2],[2],[2]]).bind fun r =>
 (d25 2 3 1 0 2).bind fun r_1 =>
 (d22 r_1 r.1 [0,1,2]).bind fun r_2 =>
 letJ (fun ((t3,t49):uc2 × Bool) =>
   bif t49 then
    some false
   else
    bif (decide (0≤1) && decide (1 < (t3.2.2.2.2.1.length:Int))) then
     bif (decide (0≤0) && decide (0 < ((((List.getD t3.2.2.2.2.1 1 ([],[],(false,[],[]),(false,[],[]),(false,[],[]),[],[],[])).2).1).length:Int))) then
      (d65 1 3).bind fun r_4 =>
      (d37 (List.getD (((List.getD t3.2.2.2.2.1 1 ([],[],(false,[],[]),(false,[],[]),(false,[],[]),[],[],[])).2).1) 0 (false,[],[])) r_4).bind fun r_5 =>
      bif r_5 then
       bif (decide (0≤2) && decide (2 < (t3.2.2.2.2.1.length:Int))) then
        (d39 2).bind fun r_6 =>
        (d37 (((((List.getD t3.2.2.2.2.1 2 ([],[],(false,[],[]),(false,[],[]),(false,[],[]),[],[],[])).2).2).2).1) r_6).bind fun r_7 =>
        bif r_7 then
         (d30 9 2).bind fun r_8 =>
         some (decide (r_8=4))
        else
         some false
       else none
      else
       some false
     else none
    else none) fun j_ =>
 bif !(!(decide (r_2.2=0))) then
  bif !(!(decide ((r_2.1.2.2.2.2.1.length:Int)=3))) then
   bif (decide (0≤1) && decide (1 < (r_2.1.2.2.2.2.1.length:Int))) then
    bif !(!(decide (((((List.getD r_2.1.2.2.2.2.1 1 ([],[],(false,[],[]),(false,[],[]),(false,[],[]),[],[],[])).2).1).length:Int)=3))) then
     (d38 r_2.1.2.2.2.2.2 [0,2]).bind fun r_3 =>
     j_ (r_2.1,!r_3)
    else
     j_ (r_2.1,true)
   else none
  else
   j_ (r_2.1,true)
 else
  j_ (r_2.1,true)
def sg21:Sig:=⟨[],[(y4,.sh)]⟩
def plan21:Plan:=(.seq (.reg [] []) (.seq (.reg [] [{},{},{},{},{},{},{},{},{},{ frz:=[(6,[]),(7,[]),(8,[]),(9,[]),(10,[]),(11,[]),(12,[]),(13,[]),(14,[])] },{},{ fl:=1 }]) (.seq (.reg [] [{},{},{},{ frz:=[(22,[])] },{ fl:=1 }]) (.seq (.join (.reg [] []) [(3,.v (.ptr y32) (.own 0 .sh)),(49,.v y4 .sh)] (.cond (.seq (.reg [] []) .nil) .nil)) (.seq (.reg [] []) .nil)))))
theorem ev21 (xs:Vals (ptys sg21.ps)):evF (P:=Tryz.prog) tab [.fn E48,.fn E25,.fn E22,.fn E38,.fn E65,.fn E37,.fn E39,.fn E30] sg21 Tryz.f21.results.toList (code Tryz.f21) plan21 xs=d21  := by kernel_rfl
theorem sim21:Sim Tryz.prog 21 sg21 d21:=zad mixd zam Tryz.func21 (zaa rfl) Tryz.call21 (Nat.le_of_ble_eq_true (by kernel_rfl)) (by kernel_rfl) plan21 _ fun xs y h=>(ev21 xs).trans h
noncomputable def E21:FnE Tryz.prog:=⟨21,sg21,d21,sim21⟩
noncomputable def d70 (p0:Int) (p1:List uc14):Option Bool :=
 letJ (fun ((t0,t1,t12):Int × uc11 × Bool) =>
   bif t12 then
    some false
   else
    (zae (β:=Unit ⊕ Bool) (fun ((t0_1,t1_1,t5,t6):Int × uc11 × Int × Int) =>
      bif (decide (t6 < (t1_1.length:Int))) then
       letJ (fun ((t0_2,t1_2,t5_1,t6_1,t62):Int × uc11 × Int × Int × Bool) =>
         bif t62 then
          some (Sum.inr (Sum.inr false))
         else
          bif (decide (0≤t6_1) && decide (t6_1 < (t1_2.length:Int))) then
           some (Sum.inl (t0_2,t1_2,(w (t5_1 - ((List.getD t1_2 (Int.toNat t6_1) ([],0)).2))),(w (t6_1+1))))
          else none) fun j__1 =>
       bif (decide (0≤t6) && decide (t6 < (t1_1.length:Int))) then
        (d32 t0_1 ((List.getD t1_1 (Int.toNat t6) ([],0)).1)).bind fun r =>
        bif !(!r) then
         bif (decide (0≤t6) && decide (t6 < (t1_1.length:Int))) then
          bif !(decide ((List.getD t1_1 (Int.toNat t6) ([],0)).2 < 1)) then
           bif (decide (0≤t6) && decide (t6 < (t1_1.length:Int))) then
            bif !(decide (t5 < (List.getD t1_1 (Int.toNat t6) ([],0)).2)) then
             bif (decide (0 < t6)) then
              bif (decide (0≤(w (t6 - 1))) && decide ((w (t6 - 1)) < (t1_1.length:Int))) then
               bif (decide (0≤t6) && decide (t6 < (t1_1.length:Int))) then
                (d97 ((List.getD t1_1 (Int.toNat (w (t6 - 1))) ([],0)).1) ((List.getD t1_1 (Int.toNat t6) ([],0)).1)).bind fun r_1 =>
                j__1 (t0_1,t1_1,t5,t6,!r_1)
               else none
              else none
             else
              j__1 (t0_1,t1_1,t5,t6,false)
            else
             j__1 (t0_1,t1_1,t5,t6,true)
           else none
          else
           j__1 (t0_1,t1_1,t5,t6,true)
         else none
        else
         j__1 (t0_1,t1_1,t5,t6,true)
       else none
      else
       some (Sum.inr (Sum.inl ()))) (t0,t1,100000,0)).bind fun
    | Sum.inl _ =>
     some true
    | Sum.inr t4 =>
     some t4) fun j_ =>
 bif !(decide (p0 < 1)) then
  j_ (p0,p1,(decide (7 < p0)))
 else
  j_ (p0,p1,true)
def sg70:Sig:=⟨[(y2,.sh),(y25,.bw)],[(y4,.sh)]⟩
def plan70:Plan:=(.seq (.reg [] []) (.seq (.join (.reg [] []) [(0,.v y2 .sh),(1,.v y25 .bw),(12,.v y4 .sh)] (.cond (.seq (.reg [] []) .nil) .nil)) (.seq (.reg [] []) (.seq (.seq (.reg [] []) (.block (.loop [(0,.v y2 .sh),(1,.v y25 .bw),(5,.v y2 .sh),(6,.v y2 .sh)] [(.brk 0,[]),(.ret,[(4,.v y4 .sh)])] (.seq (.seq (.reg [] []) (.cond .nil .nil)) (.seq (.block (.seq (.join (.reg [] []) [(0,.v y2 .sh),(1,.v y25 .bw),(5,.v y2 .sh),(6,.v y2 .sh),(62,.v y4 .sh)] (.cond (.seq (.reg [] []) .nil) .nil)) (.reg [] []))) (.reg [] [])))))) (.seq (.reg [] []) .nil)))))
theorem ev70 (xs:Vals (ptys sg70.ps)):evF (P:=Tryz.prog) tab [.fn E32,.fn E97] sg70 Tryz.f70.results.toList (code Tryz.f70) plan70 xs=d70 xs.1 xs.2.1:=by kernel_rfl
theorem sim70:Sim Tryz.prog 70 sg70 d70:=zad mixd zam Tryz.func70 (zaa rfl) Tryz.call70 (Nat.le_of_ble_eq_true (by kernel_rfl)) (by kernel_rfl) plan70 _ fun xs y h=>(ev70 xs).trans h
noncomputable def E70:FnE Tryz.prog:=⟨70,sg70,d70,sim70⟩
noncomputable def d71 (n:Int) (l:List Int):Option Bool :=
 bif (decide ((l.length:Int)=n)) then
  (d32 n l).bind fun r =>
  some r
 else
  some false
def sg71:Sig:=⟨[(y2,.sh),(y26,.bw)],[(y4,.sh)]⟩
def plan71:Plan:=(.seq (.reg [] []) (.seq (.reg [] []) .nil))
theorem ev71 (xs:Vals (ptys sg71.ps)):evF (P:=Tryz.prog) tab [.fn E32] sg71 Tryz.f71.results.toList (code Tryz.f71) plan71 xs=d71 xs.1 xs.2.1:=by kernel_rfl
theorem sim71:Sim Tryz.prog 71 sg71 d71:=zad mixd zam Tryz.func71 (zaa rfl) Tryz.call71 (Nat.le_of_ble_eq_true (by kernel_rfl)) (by kernel_rfl) plan71 _ fun xs y h=>(ev71 xs).trans h
noncomputable def E71:FnE Tryz.prog:=⟨71,sg71,d71,sim71⟩
noncomputable def d23 (p0:Int) (p1:uc5) (p2:List uc14) (p3:List Int):Option Int :=
 letJ (fun ((t0,t2,t3,t5,t9,t25):Int × uc11 × uc16 × uc5 × Int × Bool) =>
   bif t25 then
    some 5
   else
    letJ (fun ((t0_1,t2_1,t3_1,t5_1,t9_1,t10):Int × uc11 × uc16 × uc5 × Int × Bool) =>
      letJ (fun ((t2_2,t3_2,t9_2,t77):uc11 × uc16 × Int × Bool) =>
        bif t77 then
         some 4
        else
         (d70 t9_2 t2_2).bind fun r =>
         bif !r then
          some 8
         else
          (d71 t9_2 t3_2).bind fun r_1 =>
          bif !r_1 then
           some 13
          else
           some 0) fun j__2 =>
      bif !(decide (t9_1 < 1)) then
       bif !(decide (7 < t9_1)) then
        bif !(decide (t5_1.2.2.2.1 < 1)) then
         bif !(decide (5 < t5_1.2.2.2.1)) then
          bif (decide (t0_1=1)) then
           bif !(!(decide (t5_1.2.2.2.1=1))) then
            bif !(!t10) then
             bif !(decide (t5_1.2.2.2.2.2.2.1 < 1)) then
              j__2 (t2_1,t3_1,t9_1,(decide (3 < t5_1.2.2.2.2.2.2.1)))
             else
              j__2 (t2_1,t3_1,t9_1,true)
            else
             j__2 (t2_1,t3_1,t9_1,true)
           else
            j__2 (t2_1,t3_1,t9_1,true)
          else
           bif !(!t10) then
            bif !(decide (t5_1.2.2.2.2.2.2.1 < 1)) then
             j__2 (t2_1,t3_1,t9_1,(decide (3 < t5_1.2.2.2.2.2.2.1)))
            else
             j__2 (t2_1,t3_1,t9_1,true)
           else
            j__2 (t2_1,t3_1,t9_1,true)
         else
          j__2 (t2_1,t3_1,t9_1,true)
        else
         j__2 (t2_1,t3_1,t9_1,true)
       else
        j__2 (t2_1,t3_1,t9_1,true)
      else
       j__2 (t2_1,t3_1,t9_1,true)) fun j__1 =>
    bif (decide (t0=2)) then
     bif (decide (1≤t5.2.2.2.2.2.1)) then
      j__1 (t0,t2,t3,t5,t9,(decide (t5.2.2.2.2.2.1≤6)))
     else
      j__1 (t0,t2,t3,t5,t9,false)
    else
     j__1 (t0,t2,t3,t5,t9,(decide (t5.2.2.2.2.2.1=0)))) fun j_ =>
 bif !(decide (p0 < 1)) then
  bif !(decide (3 < p0)) then
   j_ (p0,p2,p3,p1,(p1.2.1.length:Int),!(decide (p1.2.2.1=p0)))
  else
   j_ (p0,p2,p3,p1,(p1.2.1.length:Int),true)
 else
  j_ (p0,p2,p3,p1,(p1.2.1.length:Int),true)
def sg23:Sig:=⟨[(y2,.sh),(y23,.bw),(y25,.bw),(y26,.bw)],[(y2,.sh)]⟩
def plan23:Plan:=(.seq (.reg [] []) (.seq (.reg [] []) (.seq (.join (.reg [] []) [(0,.v y2 .sh),(2,.v y25 .bw),(3,.v y26 .bw),(5,.v (.ptr y23) (.own 0 .bw)),(9,.v y2 .sh),(25,.v y4 .sh)] (.cond (.seq (.reg [] []) .nil) .nil)) (.seq (.reg [] []) (.join (.seq (.reg [] []) (.cond (.reg [] []) .nil)) [(0,.v y2 .sh),(2,.v y25 .bw),(3,.v y26 .bw),(5,.v (.ptr y23) (.own 0 .bw)),(9,.v y2 .sh),(10,.v y4 .sh)] (.seq (.join (.reg [] []) [(2,.v y25 .bw),(3,.v y26 .bw),(9,.v y2 .sh),(77,.v y4 .sh)] (.cond (.seq (.reg [] []) .nil) .nil)) (.seq (.seq (.reg [] []) (.cond (.seq (.reg [] []) .nil) .nil)) (.seq (.seq (.reg [] []) (.cond (.seq (.reg [] []) .nil) .nil)) (.seq (.reg [] []) .nil)))))))))
theorem ev23 (xs:Vals (ptys sg23.ps)):evF (P:=Tryz.prog) tab [.fn E70,.fn E71] sg23 Tryz.f23.results.toList (code Tryz.f23) plan23 xs=d23 xs.1 xs.2.1 xs.2.2.1 xs.2.2.2.1:=by kernel_rfl
theorem sim23:Sim Tryz.prog 23 sg23 d23:=zad mixd zam Tryz.func23 (zaa rfl) Tryz.call23 (Nat.le_of_ble_eq_true (by kernel_rfl)) (by kernel_rfl) plan23 _ fun xs y h=>(ev23 xs).trans h
noncomputable def E23:FnE Tryz.prog:=⟨23,sg23,d23,sim23⟩
noncomputable def d99 (n:Int) (l:List Int):Option uc16 :=
 (zae (β:=uc16) (fun ((n_1,l_1,out,i):Int × uc16 × uc16 × Int) =>
   letJ (fun ((n_2,l_2,out_1,i_1,t17):Int × uc16 × uc16 × Int × Bool) =>
     bif t17 then
      letJ (fun ((n_3,l_3,out_2,i_2):Int × uc16 × uc16 × Int) =>
        some (Sum.inl (n_3,l_3,out_2,(w (i_2+1))))) fun j__1 =>
      bif (decide (0≤i_1) && decide (i_1 < (l_2.length:Int))) then
       (d24 (List.getD l_2 (Int.toNat i_1) 0) n_2).bind fun r =>
       (d49 out_1 r).bind fun r_1 =>
       bif !r_1 then
        bif (decide ((out_1.length:Int)+(([r]:List Int).length:Int)≤LIM)) then
         j__1 (n_2,l_2,(out_1++[r]),i_1)
        else none
       else
        j__1 (n_2,l_2,out_1,i_1)
      else none
     else
      some (Sum.inr out_1)) fun j_ =>
   bif (decide (i < (l_1.length:Int))) then
    j_ (n_1,l_1,out,i,(decide ((out.length:Int) < n_1)))
   else
    j_ (n_1,l_1,out,i,false)) (n,l,[],0)).bind fun (out_3:List Int) =>
 some out_3
def sg99:Sig:=⟨[(y2,.sh),(y26,.bw)],[(y26,(.own 3 .sh))]⟩
def plan99:Plan:=(.seq (.reg [] []) (.seq (.reg [] [{ fl:=2 }]) (.seq (.seq (.reg [] []) (.block (.loop [(0,.v y2 .sh),(1,.v y26 .bw),(5,.v y26 (.own 3 .sh)),(6,.v y2 .sh)] [(.brk 0,[(5,.v y26 (.own 3 .sh))])] (.seq (.join (.reg [] []) [(0,.v y2 .sh),(1,.v y26 .bw),(5,.v y26 (.own 3 .sh)),(6,.v y2 .sh),(17,.v y4 .sh)] (.cond .nil .nil)) (.join (.block (.seq (.reg [] []) (.seq (.reg [] []) (.cond (.reg [] []) .nil)))) [(0,.v y2 .sh),(1,.v y26 .bw),(5,.v y26 (.own 3 .sh)),(6,.v y2 .sh)] (.reg [] [])))))) (.seq (.reg [] []) .nil))))
theorem ev99 (xs:Vals (ptys sg99.ps)):evF (P:=Tryz.prog) tab [.fn E24,.fn E49] sg99 Tryz.f99.results.toList (code Tryz.f99) plan99 xs=d99 xs.1 xs.2.1:=by kernel_rfl
theorem sim99:Sim Tryz.prog 99 sg99 d99:=zad mixd zam Tryz.func99 (zaa rfl) Tryz.call99 (Nat.le_of_ble_eq_true (by kernel_rfl)) (by kernel_rfl) plan99 _ fun xs y h=>(ev99 xs).trans h
noncomputable def E99:FnE Tryz.prog:=⟨99,sg99,d99,sim99⟩
noncomputable def d46 (n:Int) (l:List uc16) (most:Int):Option uc13 :=
 (zae (β:=uc13) (fun ((n_1,l_1,most_1,out,i):Int × uc13 × Int × uc13 × Int) =>
   letJ (fun ((n_2,l_2,most_2,out_1,i_1,t17):Int × uc13 × Int × uc13 × Int × Bool) =>
     bif t17 then
      bif (decide (0≤i_1) && decide (i_1 < (l_2.length:Int))) then
       bif (decide (0≤i_1) && decide (i_1 < (l_2.length:Int))) then
        bif (zdg 0 (bif (decide (12 < ((List.getD l_2 (Int.toNat i_1) []).length:Int))) then 12 else ((List.getD l_2 (Int.toNat i_1) []).length:Int)) (List.getD l_2 (Int.toNat i_1) []).length) then
         (d99 n_2 (List.drop 0 (List.take (Int.toNat (bif (decide (12 < ((List.getD l_2 (Int.toNat i_1) []).length:Int))) then 12 else ((List.getD l_2 (Int.toNat i_1) []).length:Int))) (List.getD l_2 (Int.toNat i_1) [])))).bind fun r =>
         bif (decide ((out_1.length:Int)+(([r]:List uc16).length:Int)≤LIM)) then
          some (Sum.inl (n_2,l_2,most_2,(out_1++[r]),(w (i_1+1))))
         else none
        else none
       else none
      else none
     else
      some (Sum.inr out_1)) fun j_ =>
   bif (decide (i < (l_1.length:Int))) then
    j_ (n_1,l_1,most_1,out,i,(decide (i < most_1)))
   else
    j_ (n_1,l_1,most_1,out,i,false)) (n,l,most,[],0)).bind fun (out_2:List uc16) =>
 some out_2
def sg46:Sig:=⟨[(y2,.sh),(y27,.bw),(y2,.sh)],[(y27,(.own 26 .sh))]⟩
def plan46:Plan:=(.seq (.reg [] []) (.seq (.reg [] [{ fl:=2 }]) (.seq (.seq (.reg [] []) (.block (.loop [(0,.v y2 .sh),(1,.v y27 .bw),(2,.v y2 .sh),(7,.v y27 (.own 26 .sh)),(8,.v y2 .sh)] [(.brk 0,[(7,.v y27 (.own 26 .sh))])] (.seq (.join (.reg [] []) [(0,.v y2 .sh),(1,.v y27 .bw),(2,.v y2 .sh),(7,.v y27 (.own 26 .sh)),(8,.v y2 .sh),(17,.v y4 .sh)] (.cond .nil .nil)) (.seq (.block (.reg [] [{},{},{},{},{},{},{},{},{},{},{},{},{},{},{ frz:=[(33,[])] }])) (.reg [] [])))))) (.seq (.reg [] []) .nil))))
theorem ev46 (xs:Vals (ptys sg46.ps)):evF (P:=Tryz.prog) tab [.fn E99] sg46 Tryz.f46.results.toList (code Tryz.f46) plan46 xs=d46 xs.1 xs.2.1 xs.2.2.1:=by kernel_rfl
theorem sim46:Sim Tryz.prog 46 sg46 d46:=zad mixd zam Tryz.func46 (zaa rfl) Tryz.call46 (Nat.le_of_ble_eq_true (by kernel_rfl)) (by kernel_rfl) plan46 _ fun xs y h=>(ev46 xs).trans h
noncomputable def E46:FnE Tryz.prog:=⟨46,sg46,d46,sim46⟩
noncomputable def d26 (n:Int) (l:List uc16) (most:Int):Option uc11 :=
 (d46 n l most).bind fun r =>
 (d48 n r).bind fun r_1 =>
 some r_1.1
def sg26:Sig:=⟨[(y2,.sh),(y27,.bw),(y2,.sh)],[(y25,.sh)]⟩
def plan26:Plan:=(.seq (.reg [] []) (.seq (.reg [] [{},{},{},{},{},{},{ fl:=1 }]) (.seq (.reg [] []) .nil)))
theorem ev26 (xs:Vals (ptys sg26.ps)):evF (P:=Tryz.prog) tab [.fn E46,.fn E48] sg26 Tryz.f26.results.toList (code Tryz.f26) plan26 xs=d26 xs.1 xs.2.1 xs.2.2.1:=by kernel_rfl
theorem sim26:Sim Tryz.prog 26 sg26 d26:=zad mixd zam Tryz.func26 (zaa rfl) Tryz.call26 (Nat.le_of_ble_eq_true (by kernel_rfl)) (by kernel_rfl) plan26 _ fun xs y h=>(ev26 xs).trans h
noncomputable def E26:FnE Tryz.prog:=⟨26,sg26,d26,sim26⟩
noncomputable def d27 (n:Int) (code_:Int):Option uc16 :=
 (zae (β:=uc16) (fun ((n_1,code__1,out,i):Int × Int × uc16 × Int) =>
   bif (decide (i < n_1)) then
    (d24 code__1 (w (i+1))).bind fun r =>
    bif (!decide ((w (i+1))=0)) then
     bif (zdg 0 r out.length) then
      bif (decide ((([]:List Int).length:Int)+((List.drop 0 (List.take (Int.toNat r) out)).length:Int)≤LIM)) then
       bif (decide (((List.drop 0 (List.take (Int.toNat r) out)).length:Int)+(([i]:List Int).length:Int)≤LIM)) then
        bif (zdg r (out.length:Int) out.length) then
         bif (decide ((((List.drop 0 (List.take (Int.toNat r) out))++[i]).length:Int)+((List.drop (Int.toNat r) (List.take (Int.toNat (out.length:Int)) out)).length:Int)≤LIM)) then
          some (Sum.inl (n_1,(w (Int.tdiv code__1 (w (i+1)))),(((List.drop 0 (List.take (Int.toNat r) out))++[i])++(List.drop (Int.toNat r) (List.take (Int.toNat (out.length:Int)) out))),(w (i+1))))
         else none
        else none
       else none
      else none
     else none
    else none
   else
    some (Sum.inr out)) (n,code_,[],0)).bind fun (out_1:List Int) =>
 some out_1
def sg27:Sig:=⟨[(y2,.sh),(y2,.sh)],[(y26,(.own 3 .sh))]⟩
def plan27:Plan:=(.seq (.reg [] []) (.seq (.reg [] [{ fl:=2 }]) (.seq (.seq (.reg [] []) (.block (.loop [(0,.v y2 .sh),(1,.v y2 .sh),(5,.v y26 (.own 3 .sh)),(6,.v y2 .sh)] [(.brk 0,[(5,.v y26 (.own 3 .sh))])] (.seq (.seq (.reg [] []) (.cond .nil .nil)) (.seq (.block (.seq (.reg [] []) (.seq (.reg [] []) (.reg [(5,[])] [])))) (.reg [] [])))))) (.seq (.reg [] []) .nil))))
theorem ev27 (xs:Vals (ptys sg27.ps)):evF (P:=Tryz.prog) tab [.fn E24] sg27 Tryz.f27.results.toList (code Tryz.f27) plan27 xs=d27 xs.1 xs.2.1:=by kernel_rfl
theorem sim27:Sim Tryz.prog 27 sg27 d27:=zad mixd zam Tryz.func27 (zaa rfl) Tryz.call27 (Nat.le_of_ble_eq_true (by kernel_rfl)) (by kernel_rfl) plan27 _ fun xs y h=>(ev27 xs).trans h
noncomputable def E27:FnE Tryz.prog:=⟨27,sg27,d27,sim27⟩
noncomputable def d146 (gs:List uc14):Option Bool :=
 (d70 7 gs).bind fun r =>
 some r
def sg146:Sig:=⟨[(y25,.bw)],[(y4,.sh)]⟩
def plan146:Plan:=(.seq (.reg [] []) (.seq (.reg [] []) .nil))
theorem ev146 (xs:Vals (ptys sg146.ps)):evF (P:=Tryz.prog) tab [.fn E70] sg146 Tryz.f146.results.toList (code Tryz.f146) plan146 xs=d146 xs.1:=by kernel_rfl
theorem sim146:Sim Tryz.prog 146 sg146 d146:=zad mixd zam Tryz.func146 (zaa rfl) Tryz.call146 (Nat.le_of_ble_eq_true (by kernel_rfl)) (by kernel_rfl) plan146 _ fun xs y h=>(ev146 xs).trans h
noncomputable def E146:FnE Tryz.prog:=⟨146,sg146,d146,sim146⟩
noncomputable def d83 (gs:List uc14):Option Int :=
 (zae (β:=Int) (fun ((gs_1,n,i):uc11 × Int × Int) =>
   letJ (fun ((gs_2,n_1,i_1,t12):uc11 × Int × Int × Bool) =>
     bif t12 then
      bif (decide (0≤i_1) && decide (i_1 < (gs_2.length:Int))) then
       some (Sum.inl (gs_2,(w (n_1+((List.getD gs_2 (Int.toNat i_1) ([],0)).2))),(w (i_1+1))))
      else none
     else
      some (Sum.inr n_1)) fun j_ =>
   bif (decide (i < (gs_1.length:Int))) then
    (d146 gs_1).bind fun r =>
    j_ (gs_1,n,i,r)
   else
    j_ (gs_1,n,i,false)) (gs,0,0)).bind fun (n_2:Int) =>
 some n_2
def sg83:Sig:=⟨[(y25,.bw)],[(y2,.sh)]⟩
def plan83:Plan:=(.seq (.reg [] []) (.seq (.reg [] []) (.seq (.seq (.reg [] []) (.block (.loop [(0,.v y25 .bw),(3,.v y2 .sh),(4,.v y2 .sh)] [(.brk 0,[(3,.v y2 .sh)])] (.seq (.join (.reg [] []) [(0,.v y25 .bw),(3,.v y2 .sh),(4,.v y2 .sh),(12,.v y4 .sh)] (.cond .nil .nil)) (.seq (.block (.reg [] [])) (.reg [] [])))))) (.seq (.reg [] []) .nil))))
theorem ev83 (xs:Vals (ptys sg83.ps)):evF (P:=Tryz.prog) tab [.fn E146] sg83 Tryz.f83.results.toList (code Tryz.f83) plan83 xs=d83 xs.1:=by kernel_rfl
theorem sim83:Sim Tryz.prog 83 sg83 d83:=zad mixd zam Tryz.func83 (zaa rfl) Tryz.call83 (Nat.le_of_ble_eq_true (by kernel_rfl)) (by kernel_rfl) plan83 _ fun xs y h=>(ev83 xs).trans h
noncomputable def E83:FnE Tryz.prog:=⟨83,sg83,d83,sim83⟩
noncomputable def d74 (gs:List uc14):Option Int :=
 (d83 gs).bind fun r =>
 letJ (fun (n_1:Int) =>
   some n_1) fun j__1 =>
 letJ (fun ((gs_1,n,t15):uc11 × Int × Bool) =>
   bif t15 then
    bif (decide (0≤0) && decide (0 < (gs_1.length:Int))) then
     j__1 (w (n - ((List.getD gs_1 0 ([],0)).2)))
    else none
   else
    j__1 n) fun j_ =>
 bif (decide (0 < r)) then
  bif (decide (0≤0) && decide (0 < (gs.length:Int))) then
   j_ (gs,r,(decide ((((List.getD gs 0 ([],0)).1).length:Int)=0)))
  else none
 else
  j_ (gs,r,false)
def sg74:Sig:=⟨[(y25,.bw)],[(y2,.sh)]⟩
def plan74:Plan:=(.seq (.reg [] []) (.seq (.reg [] []) (.join (.join (.reg [] []) [(0,.v y25 .bw),(3,.v y2 .sh),(15,.v y4 .sh)] (.cond (.reg [] []) .nil)) [(3,.v y2 .sh)] (.seq (.reg [] []) .nil))))
theorem ev74 (xs:Vals (ptys sg74.ps)):evF (P:=Tryz.prog) tab [.fn E83] sg74 Tryz.f74.results.toList (code Tryz.f74) plan74 xs=d74 xs.1:=by kernel_rfl
theorem sim74:Sim Tryz.prog 74 sg74 d74:=zad mixd zam Tryz.func74 (zaa rfl) Tryz.call74 (Nat.le_of_ble_eq_true (by kernel_rfl)) (by kernel_rfl) plan74 _ fun xs y h=>(ev74 xs).trans h
noncomputable def E74:FnE Tryz.prog:=⟨74,sg74,d74,sim74⟩
noncomputable def d73 (ballots:Int) (seats:Int):Option Int :=
 letJ (fun ((ballots_1,seats_1,t18):Int × Int × Bool) =>
   bif t18 then
    some 0
   else
    bif (!decide ((w (seats_1+1))=0)) then
     some (w ((w (Int.tdiv ballots_1 (w (seats_1+1))))+1))
    else none) fun j_ =>
 bif !(decide (ballots < 0)) then
  bif !(decide (100000 < ballots)) then
   bif !(decide (seats < 1)) then
    j_ (ballots,seats,(decide (5 < seats)))
   else
    j_ (ballots,seats,true)
  else
   j_ (ballots,seats,true)
 else
  j_ (ballots,seats,true)
def sg73:Sig:=⟨[(y2,.sh),(y2,.sh)],[(y2,.sh)]⟩
def plan73:Plan:=(.seq (.reg [] []) (.seq (.join (.reg [] []) [(0,.v y2 .sh),(1,.v y2 .sh),(18,.v y4 .sh)] (.cond (.seq (.reg [] []) .nil) .nil)) (.seq (.reg [] []) .nil)))
theorem ev73 (xs:Vals (ptys sg73.ps)):evF (P:=Tryz.prog) tab [] sg73 Tryz.f73.results.toList (code Tryz.f73) plan73 xs=d73 xs.1 xs.2.1:=by kernel_rfl
theorem sim73:Sim Tryz.prog 73 sg73 d73:=zad mixd zam Tryz.func73 (zaa rfl) Tryz.call73 (Nat.le_of_ble_eq_true (by kernel_rfl)) (by kernel_rfl) plan73 _ fun xs y h=>(ev73 xs).trans h
noncomputable def E73:FnE Tryz.prog:=⟨73,sg73,d73,sim73⟩
noncomputable def d75 (n:Int):Option uc15 :=
 (d93 (wu64 n)).bind fun r =>
 some r
def sg75:Sig:=⟨[(y2,.sh)],[(y48,(.own 4 .sh))]⟩
def plan75:Plan:=(.seq (.reg [] []) (.seq (.reg [] []) .nil))
theorem ev75 (xs:Vals (ptys sg75.ps)):evF (P:=Tryz.prog) tab [.fn E93] sg75 Tryz.f75.results.toList (code Tryz.f75) plan75 xs=d75 xs.1:=by kernel_rfl
theorem sim75:Sim Tryz.prog 75 sg75 d75:=zad mixd zam Tryz.func75 (zaa rfl) Tryz.call75 (Nat.le_of_ble_eq_true (by kernel_rfl)) (by kernel_rfl) plan75 _ fun xs y h=>(ev75 xs).trans h
noncomputable def E75:FnE Tryz.prog:=⟨75,sg75,d75,sim75⟩
noncomputable def d76 (p0:uc7) (p1:List uc14) (p2:List Int) (p3:Int):Option uc12 :=
 (zae (β:=uc12) (fun ((t1,t2,t3,t4,t9,t10):uc11 × uc16 × Int × uc7 × uc12 × Int) =>
   bif (decide (t10 < (t2.length:Int))) then
    (d75 0).bind fun r =>
    letJ (fun ((t1_1,t2_1,t3_1,t4_1,t9_1,t10_1,t11):uc11 × uc16 × Int × uc7 × uc12 × Int × uc15) =>
      (zae (β:=(uc11 × uc16 × Int × uc7 × uc12 × Int × uc15)) (fun ((t1_2,t2_2,t3_2,t4_2,t9_2,t10_2,t11_1,t12):uc11 × uc16 × Int × uc7 × uc12 × Int × uc15 × Int) =>
        bif (decide (t12 < (t1_2.length:Int))) then
         letJ (fun ((t1_4,t2_4,t3_4,t4_4,t9_4,t10_4,t11_3,t12_2):uc11 × uc16 × Int × uc7 × uc12 × Int × uc15 × Int) =>
           some (Sum.inl (t1_4,t2_4,t3_4,t4_4,t9_4,t10_4,t11_3,(w (t12_2+1))))) fun j__2 =>
         letJ (fun ((t1_3,t2_3,t3_3,t4_3,t9_3,t10_3,t11_2,t12_1,t70):uc11 × uc16 × Int × uc7 × uc12 × Int × uc15 × Int × Bool) =>
           bif t70 then
            bif (decide (0≤t12_1) && decide (t12_1 < (t1_3.length:Int))) then
             (d75 ((List.getD t1_3 (Int.toNat t12_1) ([],0)).2)).bind fun r_3 =>
             bif (decide (0≤t12_1) && decide (t12_1 < (t4_3.1.length:Int))) then
              (d77 r_3 (List.getD t4_3.1 (Int.toNat t12_1) [])).bind fun r_4 =>
              (d79 t11_2 r_4).bind fun r_5 =>
              j__2 (t1_3,t2_3,t3_3,t4_3,t9_3,t10_3,r_5,t12_1)
             else none
            else none
           else
            j__2 (t1_3,t2_3,t3_3,t4_3,t9_3,t10_3,t11_2,t12_1)) fun j__1 =>
         bif (decide (0≤t12) && decide (t12 < (t4_2.2.2.length:Int))) then
          bif (decide (0≤t12) && decide (t12 < (t1_2.length:Int))) then
           bif (decide ((List.getD t4_2.2.2 (Int.toNat t12) 0) < (((List.getD t1_2 (Int.toNat t12) ([],0)).1).length:Int))) then
            bif (decide (0≤t12) && decide (t12 < (t1_2.length:Int))) then
             bif (decide (0≤t12) && decide (t12 < (t4_2.2.2.length:Int))) then
              bif (decide (0≤(List.getD t4_2.2.2 (Int.toNat t12) 0)) && decide ((List.getD t4_2.2.2 (Int.toNat t12) 0) < (((List.getD t1_2 (Int.toNat t12) ([],0)).1).length:Int))) then
               bif (decide ((List.getD ((List.getD t1_2 (Int.toNat t12) ([],0)).1) (Int.toNat (List.getD t4_2.2.2 (Int.toNat t12) 0)) 0)=t10_2)) then
                bif (decide (0≤t10_2) && decide (t10_2 < (t2_2.length:Int))) then
                 j__1 (t1_2,t2_2,t3_2,t4_2,t9_2,t10_2,t11_1,t12,(decide ((List.getD t2_2 (Int.toNat t10_2) 0) < 2)))
                else none
               else
                j__1 (t1_2,t2_2,t3_2,t4_2,t9_2,t10_2,t11_1,t12,false)
              else none
             else none
            else none
           else
            j__1 (t1_2,t2_2,t3_2,t4_2,t9_2,t10_2,t11_1,t12,false)
          else none
         else none
        else
         some (Sum.inr (t1_2,t2_2,t3_2,t4_2,t9_2,t10_2,t11_1))) (t1_1,t2_1,t3_1,t4_1,t9_1,t10_1,t11,0)).bind fun ((t1_5,t2_5,t3_5,t4_5,t9_5,t10_5,t11_4):uc11 × uc16 × Int × uc7 × uc12 × Int × uc15) =>
      bif (decide ((t9_5.length:Int)+(([t11_4]:List uc15).length:Int)≤LIM)) then
       some (Sum.inl (t1_5,t2_5,t3_5,t4_5,(t9_5++[t11_4]),(w (t10_5+1))))
      else none) fun j_ =>
    bif (decide (0≤t10) && decide (t10 < (t2.length:Int))) then
     bif (decide ((List.getD t2 (Int.toNat t10) 0)=2)) then
      (d75 t3).bind fun r_1 =>
      (d77 r_1 t4.2.1).bind fun r_2 =>
      j_ (t1,t2,t3,t4,t9,t10,r_2)
     else
      j_ (t1,t2,t3,t4,t9,t10,r)
    else none
   else
    some (Sum.inr t9)) (p1,p2,p3,p0,[],0)).bind fun (t9_6:List uc15) =>
 some t9_6
def sg76:Sig:=⟨[(y105,.bw),(y25,.bw),(y26,.bw),(y2,.sh)],[(y104,(.own 49 .sh))]⟩
def plan76:Plan:=(.seq (.reg [] []) (.seq (.reg [] [{ fl:=2 }]) (.seq (.seq (.reg [] []) (.block (.loop [(1,.v y25 .bw),(2,.v y26 .bw),(3,.v y2 .sh),(4,.v (.ptr y105) (.own 0 .bw)),(9,.v y104 (.own 49 .sh)),(10,.v y2 .sh)] [(.brk 0,[(9,.v y104 (.own 49 .sh))])] (.seq (.seq (.reg [] []) (.cond .nil .nil)) (.seq (.block (.seq (.reg [] []) (.join (.seq (.reg [] []) (.cond (.reg [] []) .nil)) [(1,.v y25 .bw),(2,.v y26 .bw),(3,.v y2 .sh),(4,.v (.ptr y105) (.own 0 .bw)),(9,.v y104 (.own 49 .sh)),(10,.v y2 .sh),(11,.v y48 (.own 4 .sh))] (.seq (.seq (.reg [] []) (.block (.loop [(1,.v y25 .bw),(2,.v y26 .bw),(3,.v y2 .sh),(4,.v (.ptr y105) (.own 0 .bw)),(9,.v y104 (.own 49 .sh)),(10,.v y2 .sh),(11,.v y48 (.own 4 .sh)),(12,.v y2 .sh)] [(.brk 2,[(1,.v y25 .bw),(2,.v y26 .bw),(3,.v y2 .sh),(4,.v (.ptr y105) (.own 0 .bw)),(9,.v y104 (.own 49 .sh)),(10,.v y2 .sh),(11,.v y48 (.own 4 .sh))])] (.seq (.seq (.reg [] []) (.cond .nil .nil)) (.join (.block (.join (.reg [] []) [(1,.v y25 .bw),(2,.v y26 .bw),(3,.v y2 .sh),(4,.v (.ptr y105) (.own 0 .bw)),(9,.v y104 (.own 49 .sh)),(10,.v y2 .sh),(11,.v y48 (.own 4 .sh)),(12,.v y2 .sh),(70,.v y4 .sh)] (.cond (.reg [] []) .nil))) [(1,.v y25 .bw),(2,.v y26 .bw),(3,.v y2 .sh),(4,.v (.ptr y105) (.own 0 .bw)),(9,.v y104 (.own 49 .sh)),(10,.v y2 .sh),(11,.v y48 (.own 4 .sh)),(12,.v y2 .sh)] (.reg [] [])))))) (.reg [(11,[])] []))))) (.reg [] [])))))) (.seq (.reg [] []) .nil))))
theorem ev76 (xs:Vals (ptys sg76.ps)):evF (P:=Tryz.prog) tab [.fn E75,.fn E77,.fn E79] sg76 Tryz.f76.results.toList (code Tryz.f76) plan76 xs=d76 xs.1 xs.2.1 xs.2.2.1 xs.2.2.2.1:=by kernel_rfl
theorem sim76:Sim Tryz.prog 76 sg76 d76:=zad mixd zam Tryz.func76 (zaa rfl) Tryz.call76 (Nat.le_of_ble_eq_true (by kernel_rfl)) (by kernel_rfl) plan76 _ fun xs y h=>(ev76 xs).trans h
noncomputable def E76:FnE Tryz.prog:=⟨76,sg76,d76,sim76⟩
noncomputable def d78 (a:List Bool) (d:List Bool):Option uc10 :=
 (d75 1).bind fun r =>
 (d75 1).bind fun r_1 =>
 (d144 (false,a,r) (false,d,r_1)).bind fun r_2 =>
 (d143 r_2).bind fun r_3 =>
 some r_3
def sg78:Sig:=⟨[(y48,.bw),(y48,.bw)],[(y57,.sh)]⟩
def plan78:Plan:=(.seq (.reg [] []) (.seq (.reg [] [{},{},{ frz:=[(6,[])] },{},{},{ frz:=[(9,[])] }]) .nil))
theorem ev78 (xs:Vals (ptys sg78.ps)):evF (P:=Tryz.prog) tab [.fn E75,.fn E144,.fn E143] sg78 Tryz.f78.results.toList (code Tryz.f78) plan78 xs=d78 xs.1 xs.2.1:=by kernel_rfl
theorem sim78:Sim Tryz.prog 78 sg78 d78:=zad mixd zam Tryz.func78 (zaa rfl) Tryz.call78 (Nat.le_of_ble_eq_true (by kernel_rfl)) (by kernel_rfl) plan78 _ fun xs y h=>(ev78 xs).trans h
noncomputable def E78:FnE Tryz.prog:=⟨78,sg78,d78,sim78⟩
noncomputable def d81 (l:List Int) (c:Int):Option uc16 :=
 (zae (β:=(uc16 × Int × uc16)) (fun ((l_1,c_1,out,i):uc16 × Int × uc16 × Int) =>
   bif (decide (i < (l_1.length:Int))) then
    letJ (fun ((l_2,c_2,out_1,i_1):uc16 × Int × uc16 × Int) =>
      some (Sum.inl (l_2,c_2,out_1,(w (i_1+1))))) fun j_ =>
    bif (decide (0≤i) && decide (i < (l_1.length:Int))) then
     bif (decide ((List.getD l_1 (Int.toNat i) 0) < c_1)) then
      bif (decide (0≤i) && decide (i < (l_1.length:Int))) then
       bif (decide ((out.length:Int)+(([(List.getD l_1 (Int.toNat i) 0)]:List Int).length:Int)≤LIM)) then
        j_ (l_1,c_1,(out++[(List.getD l_1 (Int.toNat i) 0)]),i)
       else none
      else none
     else
      j_ (l_1,c_1,out,i)
    else none
   else
    some (Sum.inr (l_1,c_1,out))) (l,c,[],0)).bind fun ((l_3,c_3,out_2):uc16 × Int × uc16) =>
 bif (decide ((out_2.length:Int)+(([c_3]:List Int).length:Int)≤LIM)) then
  (zae (β:=uc16) (fun ((l_4,c_4,out_3,i_2):uc16 × Int × uc16 × Int) =>
    bif (decide (i_2 < (l_4.length:Int))) then
     letJ (fun ((l_5,c_5,out_4,i_3):uc16 × Int × uc16 × Int) =>
       some (Sum.inl (l_5,c_5,out_4,(w (i_3+1))))) fun j__1 =>
     bif (decide (0≤i_2) && decide (i_2 < (l_4.length:Int))) then
      bif (decide (c_4 < (List.getD l_4 (Int.toNat i_2) 0))) then
       bif (decide (0≤i_2) && decide (i_2 < (l_4.length:Int))) then
        bif (decide ((out_3.length:Int)+(([(List.getD l_4 (Int.toNat i_2) 0)]:List Int).length:Int)≤LIM)) then
         j__1 (l_4,c_4,(out_3++[(List.getD l_4 (Int.toNat i_2) 0)]),i_2)
        else none
       else none
      else
       j__1 (l_4,c_4,out_3,i_2)
     else none
    else
     some (Sum.inr out_3)) (l_3,c_3,(out_2++[c_3]),0)).bind fun (out_5:List Int) =>
  some out_5
 else none
def sg81:Sig:=⟨[(y26,.bw),(y2,.sh)],[(y26,(.own 3 .sh))]⟩
def plan81:Plan:=(.seq (.reg [] []) (.seq (.reg [] [{ fl:=2 }]) (.seq (.seq (.reg [] []) (.block (.loop [(0,.v y26 .bw),(1,.v y2 .sh),(5,.v y26 (.own 3 .sh)),(6,.v y2 .sh)] [(.brk 0,[(0,.v y26 .bw),(1,.v y2 .sh),(5,.v y26 (.own 3 .sh))])] (.seq (.seq (.reg [] []) (.cond .nil .nil)) (.join (.block (.seq (.reg [] []) (.cond (.reg [] []) .nil))) [(0,.v y26 .bw),(1,.v y2 .sh),(5,.v y26 (.own 3 .sh)),(6,.v y2 .sh)] (.reg [] [])))))) (.seq (.reg [] []) (.seq (.seq (.reg [] []) (.block (.loop [(0,.v y26 .bw),(1,.v y2 .sh),(5,.v y26 (.own 3 .sh)),(7,.v y2 .sh)] [(.brk 2,[(5,.v y26 (.own 3 .sh))])] (.seq (.seq (.reg [] []) (.cond .nil .nil)) (.join (.block (.seq (.reg [] []) (.cond (.reg [] []) .nil))) [(0,.v y26 .bw),(1,.v y2 .sh),(5,.v y26 (.own 3 .sh)),(7,.v y2 .sh)] (.reg [] [])))))) (.seq (.reg [] []) .nil))))))
theorem ev81 (xs:Vals (ptys sg81.ps)):evF (P:=Tryz.prog) tab [] sg81 Tryz.f81.results.toList (code Tryz.f81) plan81 xs=d81 xs.1 xs.2.1:=by kernel_rfl
theorem sim81:Sim Tryz.prog 81 sg81 d81:=zad mixd zam Tryz.func81 (zaa rfl) Tryz.call81 (Nat.le_of_ble_eq_true (by kernel_rfl)) (by kernel_rfl) plan81 _ fun xs y h=>(ev81 xs).trans h
noncomputable def E81:FnE Tryz.prog:=⟨81,sg81,d81,sim81⟩
noncomputable def d84 (state:List Int) (s:Int):Option Int :=
 (zae (β:=Int) (fun ((state_1,s_1,n,i):uc16 × Int × Int × Int) =>
   bif (decide (i < (state_1.length:Int))) then
    letJ (fun ((state_2,s_2,n_1,i_1):uc16 × Int × Int × Int) =>
      some (Sum.inl (state_2,s_2,n_1,(w (i_1+1))))) fun j_ =>
    bif (decide (0≤i) && decide (i < (state_1.length:Int))) then
     bif (decide ((List.getD state_1 (Int.toNat i) 0)=s_1)) then
      j_ (state_1,s_1,(w (n+1)),i)
     else
      j_ (state_1,s_1,n,i)
    else none
   else
    some (Sum.inr n)) (state,s,0,0)).bind fun (n_2:Int) =>
 some n_2
def sg84:Sig:=⟨[(y26,.bw),(y2,.sh)],[(y2,.sh)]⟩
def plan84:Plan:=(.seq (.reg [] []) (.seq (.reg [] []) (.seq (.seq (.reg [] []) (.block (.loop [(0,.v y26 .bw),(1,.v y2 .sh),(5,.v y2 .sh),(6,.v y2 .sh)] [(.brk 0,[(5,.v y2 .sh)])] (.seq (.seq (.reg [] []) (.cond .nil .nil)) (.join (.block (.seq (.reg [] []) (.cond (.reg [] []) .nil))) [(0,.v y26 .bw),(1,.v y2 .sh),(5,.v y2 .sh),(6,.v y2 .sh)] (.reg [] [])))))) (.seq (.reg [] []) .nil))))
theorem ev84 (xs:Vals (ptys sg84.ps)):evF (P:=Tryz.prog) tab [] sg84 Tryz.f84.results.toList (code Tryz.f84) plan84 xs=d84 xs.1 xs.2.1:=by kernel_rfl
theorem sim84:Sim Tryz.prog 84 sg84 d84:=zad mixd zam Tryz.func84 (zaa rfl) Tryz.call84 (Nat.le_of_ble_eq_true (by kernel_rfl)) (by kernel_rfl) plan84 _ fun xs y h=>(ev84 xs).trans h
noncomputable def E84:FnE Tryz.prog:=⟨84,sg84,d84,sim84⟩
noncomputable def d85 (elected:List Int) (state:List Int):Option (uc16 × uc16) :=
 (zae (β:=(uc16 × uc16)) (fun ((elected_1,state_1,i):uc16 × uc16 × Int) =>
   bif (decide (i < (state_1.length:Int))) then
    letJ (fun ((elected_2,state_2,i_1):uc16 × uc16 × Int) =>
      some (Sum.inl (elected_2,state_2,(w (i_1+1))))) fun j_ =>
    bif (decide (0≤i) && decide (i < (state_1.length:Int))) then
     bif (decide ((List.getD state_1 (Int.toNat i) 0)=0)) then
      (d81 elected_1 i).bind fun r =>
      bif (decide (0≤i) && decide (i < (state_1.length:Int))) then
       j_ (r,(List.set state_1 (Int.toNat i) 1),i)
      else none
     else
      j_ (elected_1,state_1,i)
    else none
   else
    some (Sum.inr (elected_1,state_1))) (elected,state,0)).bind fun ((elected_3,state_3):uc16 × uc16) =>
 some (elected_3,state_3)
def sg85:Sig:=⟨[(y26,.sh),(y26,(.io (.own 3 .sh)))],[(y26,.sh)]⟩
def plan85:Plan:=(.seq (.reg [] []) (.seq (.seq (.reg [] []) (.block (.loop [(0,.v y26 .sh),(1,.v y26 (.own 3 .sh)),(5,.v y2 .sh)] [(.brk 0,[(0,.v y26 .sh),(1,.v y26 (.own 3 .sh))])] (.seq (.seq (.reg [] []) (.cond .nil .nil)) (.join (.post (.block (.seq (.reg [] []) (.cond (.seq (.reg [] []) (.reg [] [])) .nil))) [(0,[])]) [(0,.v y26 .sh),(1,.v y26 (.own 3 .sh)),(5,.v y2 .sh)] (.reg [] [])))))) (.seq (.reg [] []) .nil)))
theorem ev85 (xs:Vals (ptys sg85.ps)):evF (P:=Tryz.prog) tab [.fn E81] sg85 Tryz.f85.results.toList (code Tryz.f85) plan85 xs=d85 xs.1 xs.2.1:=by kernel_rfl
theorem sim85:Sim Tryz.prog 85 sg85 d85:=zad mixd zam Tryz.func85 (zaa rfl) Tryz.call85 (Nat.le_of_ble_eq_true (by kernel_rfl)) (by kernel_rfl) plan85 _ fun xs y h=>(ev85 xs).trans h
noncomputable def E85:FnE Tryz.prog:=⟨85,sg85,d85,sim85⟩
noncomputable def d86 (t:uc2):Option uc16 :=
 (zae (β:=uc16) (fun ((t_1,out,i):uc2 × uc16 × Int) =>
   bif (decide (i < (t_1.2.2.2.2.1.length:Int))) then
    bif (decide (0≤i) && decide (i < (t_1.2.2.2.2.1.length:Int))) then
     bif (decide ((out.length:Int)+((((((((List.getD t_1.2.2.2.2.1 (Int.toNat i) ([],[],(false,[],[]),(false,[],[]),(false,[],[]),[],[],[])).2).2).2).2).2).1).length:Int)≤LIM)) then
      some (Sum.inl (t_1,(out++((((((List.getD t_1.2.2.2.2.1 (Int.toNat i) ([],[],(false,[],[]),(false,[],[]),(false,[],[]),[],[],[])).2).2).2).2).2).1),(w (i+1))))
     else none
    else none
   else
    some (Sum.inr out)) (t,[],0)).bind fun (out_1:List Int) =>
 some out_1
def sg86:Sig:=⟨[(y32,.sh)],[(y26,(.own 3 .sh))]⟩
def plan86:Plan:=(.seq (.reg [] []) (.seq (.reg [] [{ fl:=2 }]) (.seq (.seq (.reg [] []) (.block (.loop [(1,.v (.ptr y32) (.own 0 .sh)),(3,.v y26 (.own 3 .sh)),(4,.v y2 .sh)] [(.brk 0,[(3,.v y26 (.own 3 .sh))])] (.seq (.seq (.reg [] []) (.cond .nil .nil)) (.seq (.block (.reg [] [])) (.reg [] [])))))) (.seq (.reg [] []) .nil))))
theorem ev86 (xs:Vals (ptys sg86.ps)):evF (P:=Tryz.prog) tab [] sg86 Tryz.f86.results.toList (code Tryz.f86) plan86 xs=d86 xs.1:=by kernel_rfl
theorem sim86:Sim Tryz.prog 86 sg86 d86:=zad mixd zam Tryz.func86 (zaa rfl) Tryz.call86 (Nat.le_of_ble_eq_true (by kernel_rfl)) (by kernel_rfl) plan86 _ fun xs y h=>(ev86 xs).trans h
noncomputable def E86:FnE Tryz.prog:=⟨86,sg86,d86,sim86⟩
noncomputable def d87 (p0:List uc15) (p1:List Int) (p2:Int) (p3:Bool):Option uc16 :=
 (zae (β:=uc16) (fun ((t0,t1,t2,t3,t9,t10):uc12 × uc16 × Int × Bool × uc16 × Int) =>
   bif (decide (t10 < (t0.length:Int))) then
    letJ (fun ((t0_5,t1_5,t2_5,t3_5,t9_5,t10_5):uc12 × uc16 × Int × Bool × uc16 × Int) =>
      some (Sum.inl (t0_5,t1_5,t2_5,t3_5,t9_5,(w (t10_5+1))))) fun j__2 =>
    bif (decide (0≤t10) && decide (t10 < (t1.length:Int))) then
     (zae (β:=(uc12 × uc16 × Int × Bool × uc16 × Int × Bool)) (fun ((t0_1,t1_1,t2_1,t3_1,t9_1,t10_1,t11,t12):uc12 × uc16 × Int × Bool × uc16 × Int × Bool × Int) =>
       bif (decide (t12 < (t0_1.length:Int))) then
        letJ (fun ((t0_3,t1_3,t2_3,t3_3,t9_3,t10_3,t11_2,t12_2):uc12 × uc16 × Int × Bool × uc16 × Int × Bool × Int) =>
          some (Sum.inl (t0_3,t1_3,t2_3,t3_3,t9_3,t10_3,t11_2,(w (t12_2+1))))) fun j__1 =>
        bif (decide (0≤t12) && decide (t12 < (t0_1.length:Int))) then
         bif (decide (0≤t10_1) && decide (t10_1 < (t0_1.length:Int))) then
          (d80 (List.getD t0_1 (Int.toNat t12) []) (List.getD t0_1 (Int.toNat t10_1) [])).bind fun r =>
          letJ (fun ((t0_2,t1_2,t2_2,t3_2,t9_2,t10_2,t11_1,t12_1,t61):uc12 × uc16 × Int × Bool × uc16 × Int × Bool × Int × Bool) =>
            bif t61 then
             j__1 (t0_2,t1_2,t2_2,t3_2,t9_2,t10_2,false,t12_1)
            else
             j__1 (t0_2,t1_2,t2_2,t3_2,t9_2,t10_2,t11_1,t12_1)) fun j_ =>
          bif (decide (0≤t12) && decide (t12 < (t1_1.length:Int))) then
           bif (decide ((List.getD t1_1 (Int.toNat t12) 0)=t2_1)) then
            bif t3_1 then
             bif !(decide (0 < r)) then
              bif !t3_1 then
               j_ (t0_1,t1_1,t2_1,t3_1,t9_1,t10_1,t11,t12,(decide (r < 0)))
              else
               j_ (t0_1,t1_1,t2_1,t3_1,t9_1,t10_1,t11,t12,false)
             else
              j_ (t0_1,t1_1,t2_1,t3_1,t9_1,t10_1,t11,t12,true)
            else
             bif !t3_1 then
              j_ (t0_1,t1_1,t2_1,t3_1,t9_1,t10_1,t11,t12,(decide (r < 0)))
             else
              j_ (t0_1,t1_1,t2_1,t3_1,t9_1,t10_1,t11,t12,false)
           else
            j_ (t0_1,t1_1,t2_1,t3_1,t9_1,t10_1,t11,t12,false)
          else none
         else none
        else none
       else
        some (Sum.inr (t0_1,t1_1,t2_1,t3_1,t9_1,t10_1,t11))) (t0,t1,t2,t3,t9,t10,(decide ((List.getD t1 (Int.toNat t10) 0)=t2)),0)).bind fun ((t0_4,t1_4,t2_4,t3_4,t9_4,t10_4,t11_3):uc12 × uc16 × Int × Bool × uc16 × Int × Bool) =>
     bif t11_3 then
      bif (decide ((t9_4.length:Int)+(([t10_4]:List Int).length:Int)≤LIM)) then
       j__2 (t0_4,t1_4,t2_4,t3_4,(t9_4++[t10_4]),t10_4)
      else none
     else
      j__2 (t0_4,t1_4,t2_4,t3_4,t9_4,t10_4)
    else none
   else
    some (Sum.inr t9)) (p0,p1,p2,p3,[],0)).bind fun (t9_6:List Int) =>
 some t9_6
def sg87:Sig:=⟨[(y104,.bw),(y26,.bw),(y2,.sh),(y4,.sh)],[(y26,(.own 3 .sh))]⟩
def plan87:Plan:=(.seq (.reg [] []) (.seq (.reg [] [{ fl:=2 }]) (.seq (.seq (.reg [] []) (.block (.loop [(0,.v y104 .bw),(1,.v y26 .bw),(2,.v y2 .sh),(3,.v y4 .sh),(9,.v y26 (.own 3 .sh)),(10,.v y2 .sh)] [(.brk 0,[(9,.v y26 (.own 3 .sh))])] (.seq (.seq (.reg [] []) (.cond .nil .nil)) (.join (.block (.seq (.reg [] []) (.seq (.seq (.reg [] []) (.block (.loop [(0,.v y104 .bw),(1,.v y26 .bw),(2,.v y2 .sh),(3,.v y4 .sh),(9,.v y26 (.own 3 .sh)),(10,.v y2 .sh),(11,.v y4 .sh),(12,.v y2 .sh)] [(.brk 2,[(0,.v y104 .bw),(1,.v y26 .bw),(2,.v y2 .sh),(3,.v y4 .sh),(9,.v y26 (.own 3 .sh)),(10,.v y2 .sh),(11,.v y4 .sh)])] (.seq (.seq (.reg [] []) (.cond .nil .nil)) (.join (.block (.seq (.reg [] []) (.join (.reg [] []) [(0,.v y104 .bw),(1,.v y26 .bw),(2,.v y2 .sh),(3,.v y4 .sh),(9,.v y26 (.own 3 .sh)),(10,.v y2 .sh),(11,.v y4 .sh),(12,.v y2 .sh),(61,.v y4 .sh)] (.cond (.reg [] []) .nil)))) [(0,.v y104 .bw),(1,.v y26 .bw),(2,.v y2 .sh),(3,.v y4 .sh),(9,.v y26 (.own 3 .sh)),(10,.v y2 .sh),(11,.v y4 .sh),(12,.v y2 .sh)] (.reg [] [])))))) (.seq (.reg [] []) (.cond (.reg [] []) .nil))))) [(0,.v y104 .bw),(1,.v y26 .bw),(2,.v y2 .sh),(3,.v y4 .sh),(9,.v y26 (.own 3 .sh)),(10,.v y2 .sh)] (.reg [] [])))))) (.seq (.reg [] []) .nil))))
theorem ev87 (xs:Vals (ptys sg87.ps)):evF (P:=Tryz.prog) tab [.fn E80] sg87 Tryz.f87.results.toList (code Tryz.f87) plan87 xs=d87 xs.1 xs.2.1 xs.2.2.1 xs.2.2.2.1:=by kernel_rfl
theorem sim87:Sim Tryz.prog 87 sg87 d87:=zad mixd zam Tryz.func87 (zaa rfl) Tryz.call87 (Nat.le_of_ble_eq_true (by kernel_rfl)) (by kernel_rfl) plan87 _ fun xs y h=>(ev87 xs).trans h
noncomputable def E87:FnE Tryz.prog:=⟨87,sg87,d87,sim87⟩
noncomputable def d89 (rounds:List uc4):Option (uc6 × uc3) :=
 (zae (β:=(uc3 × uc6)) (fun ((rounds_1,out,i):uc3 × uc6 × Int) =>
   bif (decide (i < (rounds_1.length:Int))) then
    bif (decide (0≤i) && decide (i < (rounds_1.length:Int))) then
     bif (decide ((out.length:Int)+(([(List.getD rounds_1 (Int.toNat i) ([],[],(false,[],[]),(false,[],[]),(false,[],[]),[],[],[])).1]:List uc8).length:Int)≤LIM)) then
      some (Sum.inl (rounds_1,(out++[(List.getD rounds_1 (Int.toNat i) ([],[],(false,[],[]),(false,[],[]),(false,[],[]),[],[],[])).1]),(w (i+1))))
     else none
    else none
   else
    some (Sum.inr (rounds_1,out))) (rounds,[],0)).bind fun ((rounds_2,out_1):uc3 × uc6) =>
 some (out_1,rounds_2)
def sg89:Sig:=⟨[(y31,(.io (.own 59 .sh)))],[(y96,(.own 53 .sh))]⟩
def plan89:Plan:=(.seq (.reg [] []) (.seq (.reg [] [{ fl:=2 }]) (.seq (.seq (.reg [] []) (.block (.loop [(0,.v y31 (.own 59 .sh)),(3,.v y96 (.own 53 .sh)),(4,.v y2 .sh)] [(.brk 0,[(0,.v y31 (.own 59 .sh)),(3,.v y96 (.own 53 .sh))])] (.seq (.seq (.reg [] []) (.cond .nil .nil)) (.seq (.block (.reg [] [])) (.reg [] [])))))) (.seq (.reg [] []) .nil))))
theorem ev89 (xs:Vals (ptys sg89.ps)):evF (P:=Tryz.prog) tab [] sg89 Tryz.f89.results.toList (code Tryz.f89) plan89 xs=d89 xs.1:=by kernel_rfl
theorem sim89:Sim Tryz.prog 89 sg89 d89:=zad mixd zam Tryz.func89 (zaa rfl) Tryz.call89 (Nat.le_of_ble_eq_true (by kernel_rfl)) (by kernel_rfl) plan89 _ fun xs y h=>(ev89 xs).trans h
noncomputable def E89:FnE Tryz.prog:=⟨89,sg89,d89,sim89⟩
noncomputable def d147 (rule:Int) (tied:List Int) (lots:List Int):Option Bool :=
 letJ (fun ((tied_1,t42):uc16 × Bool) =>
   bif t42 then
    some false
   else
    (zae (β:=Unit ⊕ Bool) (fun ((tied_2,i):uc16 × Int) =>
      bif (decide (i < (tied_2.length:Int))) then
       bif (decide (0≤(w (i - 1))) && decide ((w (i - 1)) < (tied_2.length:Int))) then
        bif (decide (0≤i) && decide (i < (tied_2.length:Int))) then
         bif (decide ((List.getD tied_2 (Int.toNat i) 0)≤(List.getD tied_2 (Int.toNat (w (i - 1))) 0))) then
          some (Sum.inr (Sum.inr false))
         else
          some (Sum.inl (tied_2,(w (i+1))))
        else none
       else none
      else
       some (Sum.inr (Sum.inl ()))) (tied_1,1)).bind fun
    | Sum.inl _ =>
     some true
    | Sum.inr t6 =>
     some t6) fun j_ =>
 bif !(decide (rule < 1)) then
  bif !(decide (3 < rule)) then
   bif !(decide ((lots.length:Int) < 1)) then
    bif !(decide (7 < (lots.length:Int))) then
     (d71 (lots.length:Int) lots).bind fun r =>
     bif !(!r) then
      bif !(decide ((tied.length:Int)=0)) then
       (d32 (lots.length:Int) tied).bind fun r_1 =>
       j_ (tied,!r_1)
      else
       j_ (tied,true)
     else
      j_ (tied,true)
    else
     j_ (tied,true)
   else
    j_ (tied,true)
  else
   j_ (tied,true)
 else
  j_ (tied,true)
def sg147:Sig:=⟨[(y2,.sh),(y26,.bw),(y26,.bw)],[(y4,.sh)]⟩
def plan147:Plan:=(.seq (.reg [] []) (.seq (.join (.reg [] []) [(1,.v y26 .bw),(42,.v y4 .sh)] (.cond (.seq (.reg [] []) .nil) .nil)) (.seq (.seq (.reg [] []) (.block (.loop [(1,.v y26 .bw),(7,.v y2 .sh)] [(.brk 0,[]),(.ret,[(6,.v y4 .sh)])] (.seq (.seq (.reg [] []) (.cond .nil .nil)) (.seq (.block (.seq (.reg [] []) (.cond (.seq (.reg [] []) .nil) .nil))) (.reg [] [])))))) (.seq (.reg [] []) .nil))))
theorem ev147 (xs:Vals (ptys sg147.ps)):evF (P:=Tryz.prog) tab [.fn E71,.fn E32] sg147 Tryz.f147.results.toList (code Tryz.f147) plan147 xs=d147 xs.1 xs.2.1 xs.2.2.1:=by kernel_rfl
theorem sim147:Sim Tryz.prog 147 sg147 d147:=zad mixd zam Tryz.func147 (zaa rfl) Tryz.call147 (Nat.le_of_ble_eq_true (by kernel_rfl)) (by kernel_rfl) plan147 _ fun xs y h=>(ev147 xs).trans h
noncomputable def E147:FnE Tryz.prog:=⟨147,sg147,d147,sim147⟩
noncomputable def d183 (votes:List uc10) (c:Int):Option uc10 :=
 bif (decide (c < (votes.length:Int))) then
  bif (decide (0≤c) && decide (c < (votes.length:Int))) then
   some (List.getD votes (Int.toNat c) (false,[],[]))
  else none
 else
  (d39 0).bind fun r =>
  some r
def sg183:Sig:=⟨[(y53,.sh),(y2,.sh)],[(y57,.sh)]⟩
def plan183:Plan:=(.seq (.reg [] []) (.seq (.seq (.reg [] []) (.cond (.seq (.reg [] []) .nil) .nil)) (.seq (.reg [] []) .nil)))
theorem ev183 (xs:Vals (ptys sg183.ps)):evF (P:=Tryz.prog) tab [.fn E39] sg183 Tryz.f183.results.toList (code Tryz.f183) plan183 xs=d183 xs.1 xs.2.1:=by kernel_rfl
theorem sim183:Sim Tryz.prog 183 sg183 d183:=zad mixd zam Tryz.func183 (zaa rfl) Tryz.call183 (Nat.le_of_ble_eq_true (by kernel_rfl)) (by kernel_rfl) plan183 _ fun xs y h=>(ev183 xs).trans h
noncomputable def E183:FnE Tryz.prog:=⟨183,sg183,d183,sim183⟩
noncomputable def d211 (a:uc10):Option Bool :=
 bif !a.1 then
  bif (decide ((a.2.1.length:Int)≤1)) then
   bif (decide ((a.2.2.length:Int)=1)) then
    bif (decide (0≤0) && decide (0 < (a.2.2.length:Int))) then
     some (decide (0 < (List.getD a.2.2 0 0)))
    else none
   else
    some false
  else
   some false
 else
  some false
def sg211:Sig:=⟨[(y57,.bw)],[(y4,.sh)]⟩
def plan211:Plan:=(.seq (.reg [] []) (.seq (.reg [] []) .nil))
theorem ev211 (xs:Vals (ptys sg211.ps)):evF (P:=Tryz.prog) tab [] sg211 Tryz.f211.results.toList (code Tryz.f211) plan211 xs=d211 xs.1:=by kernel_rfl
theorem sim211:Sim Tryz.prog 211 sg211 d211:=zad mixd zam Tryz.func211 (zaa rfl) Tryz.call211 (Nat.le_of_ble_eq_true (by kernel_rfl)) (by kernel_rfl) plan211 _ fun xs y h=>(ev211 xs).trans h
noncomputable def E211:FnE Tryz.prog:=⟨211,sg211,d211,sim211⟩
noncomputable def d212 (a:uc10) (b:uc10):Option Int :=
 bif (decide ((a.2.1.length:Int)=0)) then
  some 0
 else
  bif (decide (0≤0) && decide (0 < (a.2.1.length:Int))) then
   bif (decide (0≤0) && decide (0 < (b.2.2.length:Int))) then
    some (wu64 ((wu64 (List.getD a.2.1 0 0)) * (wu64 (List.getD b.2.2 0 0))))
   else none
  else none
def sg212:Sig:=⟨[(y57,.bw),(y57,.bw)],[(y12,.sh)]⟩
def plan212:Plan:=(.seq (.reg [] []) (.seq (.seq (.reg [] []) (.cond (.seq (.reg [] []) .nil) .nil)) (.seq (.reg [] []) .nil)))
theorem ev212 (xs:Vals (ptys sg212.ps)):evF (P:=Tryz.prog) tab [] sg212 Tryz.f212.results.toList (code Tryz.f212) plan212 xs=d212 xs.1 xs.2.1:=by kernel_rfl
theorem sim212:Sim Tryz.prog 212 sg212 d212:=zad mixd zam Tryz.func212 (zaa rfl) Tryz.call212 (Nat.le_of_ble_eq_true (by kernel_rfl)) (by kernel_rfl) plan212 _ fun xs y h=>(ev212 xs).trans h
noncomputable def E212:FnE Tryz.prog:=⟨212,sg212,d212,sim212⟩
noncomputable def d182 (a:uc10) (b:uc10):Option Int :=
 letJ (fun ((a_1,b_1,t14):uc10 × uc10 × Bool) =>
   bif t14 then
    (d34 a_1).bind fun r_2 =>
    (d34 b_1).bind fun r_3 =>
    (d36 r_2 r_3).bind fun r_4 =>
    some r_4
   else
    (d212 a_1 b_1).bind fun r_5 =>
    (d212 b_1 a_1).bind fun r_6 =>
    bif (decide (r_5 < r_6)) then
     some (-1)
    else
     bif (decide (r_6 < r_5)) then
      some 1
     else
      some 0) fun j_ =>
 (d211 a).bind fun r =>
 bif !(!r) then
  (d211 b).bind fun r_1 =>
  j_ (a,b,!r_1)
 else
  j_ (a,b,true)
def sg182:Sig:=⟨[(y57,.bw),(y57,.bw)],[(y2,.sh)]⟩
def plan182:Plan:=(.seq (.reg [] []) (.seq (.join (.reg [] []) [(2,.v (.ptr y57) (.own 0 .bw)),(3,.v (.ptr y57) (.own 0 .bw)),(14,.v y4 .sh)] (.cond (.seq (.reg [] []) .nil) .nil)) (.seq (.reg [] []) (.seq (.block (.seq (.reg [] []) (.cond (.seq (.reg [] []) .nil) (.seq (.reg [] []) (.cond (.seq (.reg [] []) .nil) .nil))))) (.seq (.reg [] []) .nil)))))
theorem ev182 (xs:Vals (ptys sg182.ps)):evF (P:=Tryz.prog) tab [.fn E211,.fn E34,.fn E36,.fn E212] sg182 Tryz.f182.results.toList (code Tryz.f182) plan182 xs=d182 xs.1 xs.2.1:=by kernel_rfl
theorem sim182:Sim Tryz.prog 182 sg182 d182:=zad mixd zam Tryz.func182 (zaa rfl) Tryz.call182 (Nat.le_of_ble_eq_true (by kernel_rfl)) (by kernel_rfl) plan182 _ fun xs y h=>(ev182 xs).trans h
noncomputable def E182:FnE Tryz.prog:=⟨182,sg182,d182,sim182⟩
noncomputable def d148 (votes:List uc10) (l:List Int) (least:Bool):Option uc16 :=
 (zae (β:=uc16) (fun ((votes_1,l_1,least_1,out,i):uc8 × uc16 × Bool × uc16 × Int) =>
   bif (decide (i < (l_1.length:Int))) then
    letJ (fun ((votes_6,l_6,least_6,out_5,i_5):uc8 × uc16 × Bool × uc16 × Int) =>
      some (Sum.inl (votes_6,l_6,least_6,out_5,(w (i_5+1))))) fun j__2 =>
    (zae (β:=(uc8 × uc16 × Bool × uc16 × Int × Bool)) (fun ((votes_2,l_2,least_2,out_1,i_1,best,k):uc8 × uc16 × Bool × uc16 × Int × Bool × Int) =>
      bif (decide (k < (l_2.length:Int))) then
       letJ (fun ((votes_4,l_4,least_4,out_3,i_3,best_2,k_2):uc8 × uc16 × Bool × uc16 × Int × Bool × Int) =>
         some (Sum.inl (votes_4,l_4,least_4,out_3,i_3,best_2,(w (k_2+1))))) fun j__1 =>
       bif (decide (0≤k) && decide (k < (l_2.length:Int))) then
        (d183 votes_2 (List.getD l_2 (Int.toNat k) 0)).bind fun r =>
        bif (decide (0≤i_1) && decide (i_1 < (l_2.length:Int))) then
         (d183 votes_2 (List.getD l_2 (Int.toNat i_1) 0)).bind fun r_1 =>
         (d182 r r_1).bind fun r_2 =>
         letJ (fun ((votes_3,l_3,least_3,out_2,i_2,best_1,k_1,t49):uc8 × uc16 × Bool × uc16 × Int × Bool × Int × Bool) =>
           bif t49 then
            j__1 (votes_3,l_3,least_3,out_2,i_2,false,k_1)
           else
            j__1 (votes_3,l_3,least_3,out_2,i_2,best_1,k_1)) fun j_ =>
         bif least_2 then
          bif !(decide (r_2 < 0)) then
           bif !least_2 then
            j_ (votes_2,l_2,least_2,out_1,i_1,best,k,(decide (0 < r_2)))
           else
            j_ (votes_2,l_2,least_2,out_1,i_1,best,k,false)
          else
           j_ (votes_2,l_2,least_2,out_1,i_1,best,k,true)
         else
          bif !least_2 then
           j_ (votes_2,l_2,least_2,out_1,i_1,best,k,(decide (0 < r_2)))
          else
           j_ (votes_2,l_2,least_2,out_1,i_1,best,k,false)
        else none
       else none
      else
       some (Sum.inr (votes_2,l_2,least_2,out_1,i_1,best))) (votes_1,l_1,least_1,out,i,true,0)).bind fun ((votes_5,l_5,least_5,out_4,i_4,best_3):uc8 × uc16 × Bool × uc16 × Int × Bool) =>
    bif best_3 then
     bif (decide (0≤i_4) && decide (i_4 < (l_5.length:Int))) then
      bif (decide ((out_4.length:Int)+(([(List.getD l_5 (Int.toNat i_4) 0)]:List Int).length:Int)≤LIM)) then
       j__2 (votes_5,l_5,least_5,(out_4++[(List.getD l_5 (Int.toNat i_4) 0)]),i_4)
      else none
     else none
    else
     j__2 (votes_5,l_5,least_5,out_4,i_4)
   else
    some (Sum.inr out)) (votes,l,least,[],0)).bind fun (out_6:List Int) =>
 some out_6
def sg148:Sig:=⟨[(y53,.sh),(y26,.bw),(y4,.sh)],[(y26,(.own 3 .sh))]⟩
def plan148:Plan:=(.seq (.reg [] []) (.seq (.reg [] [{ fl:=2 }]) (.seq (.seq (.reg [] []) (.block (.loop [(0,.v y53 .sh),(1,.v y26 .bw),(2,.v y4 .sh),(7,.v y26 (.own 3 .sh)),(8,.v y2 .sh)] [(.brk 0,[(7,.v y26 (.own 3 .sh))])] (.seq (.seq (.reg [] []) (.cond .nil .nil)) (.join (.block (.seq (.reg [] []) (.seq (.seq (.reg [] []) (.block (.loop [(0,.v y53 .sh),(1,.v y26 .bw),(2,.v y4 .sh),(7,.v y26 (.own 3 .sh)),(8,.v y2 .sh),(9,.v y4 .sh),(10,.v y2 .sh)] [(.brk 2,[(0,.v y53 .sh),(1,.v y26 .bw),(2,.v y4 .sh),(7,.v y26 (.own 3 .sh)),(8,.v y2 .sh),(9,.v y4 .sh)])] (.seq (.seq (.reg [] []) (.cond .nil .nil)) (.join (.block (.seq (.reg [] []) (.join (.reg [] []) [(0,.v y53 .sh),(1,.v y26 .bw),(2,.v y4 .sh),(7,.v y26 (.own 3 .sh)),(8,.v y2 .sh),(9,.v y4 .sh),(10,.v y2 .sh),(49,.v y4 .sh)] (.cond (.reg [] []) .nil)))) [(0,.v y53 .sh),(1,.v y26 .bw),(2,.v y4 .sh),(7,.v y26 (.own 3 .sh)),(8,.v y2 .sh),(9,.v y4 .sh),(10,.v y2 .sh)] (.reg [] [])))))) (.seq (.reg [] []) (.cond (.reg [] []) .nil))))) [(0,.v y53 .sh),(1,.v y26 .bw),(2,.v y4 .sh),(7,.v y26 (.own 3 .sh)),(8,.v y2 .sh)] (.reg [] [])))))) (.seq (.reg [] []) .nil))))
theorem ev148 (xs:Vals (ptys sg148.ps)):evF (P:=Tryz.prog) tab [.fn E183,.fn E182] sg148 Tryz.f148.results.toList (code Tryz.f148) plan148 xs=d148 xs.1 xs.2.1 xs.2.2.1:=by kernel_rfl
theorem sim148:Sim Tryz.prog 148 sg148 d148:=zad mixd zam Tryz.func148 (zaa rfl) Tryz.call148 (Nat.le_of_ble_eq_true (by kernel_rfl)) (by kernel_rfl) plan148 _ fun xs y h=>(ev148 xs).trans h
noncomputable def E148:FnE Tryz.prog:=⟨148,sg148,d148,sim148⟩
noncomputable def d149 (p:List Int) (x:Int):Option Int :=
 (zae (β:=uc16 ⊕ Int) (fun ((p_1,x_1,i):uc16 × Int × Int) =>
   bif (decide (i < (p_1.length:Int))) then
    bif (decide (0≤i) && decide (i < (p_1.length:Int))) then
     bif (decide ((List.getD p_1 (Int.toNat i) 0)=x_1)) then
      some (Sum.inr (Sum.inr i))
     else
      some (Sum.inl (p_1,x_1,(w (i+1))))
    else none
   else
    some (Sum.inr (Sum.inl p_1))) (p,x,0)).bind fun
 | Sum.inl p_2 =>
  some (p_2.length:Int)
 | Sum.inr t4 =>
  some t4
def sg149:Sig:=⟨[(y26,.bw),(y2,.sh)],[(y2,.sh)]⟩
def plan149:Plan:=(.seq (.reg [] []) (.seq (.seq (.reg [] []) (.block (.loop [(0,.v y26 .bw),(1,.v y2 .sh),(5,.v y2 .sh)] [(.brk 0,[(0,.v y26 .bw)]),(.ret,[(4,.v y2 .sh)])] (.seq (.seq (.reg [] []) (.cond .nil .nil)) (.seq (.block (.seq (.reg [] []) (.cond (.seq (.reg [] []) .nil) .nil))) (.reg [] [])))))) (.seq (.reg [] []) .nil)))
theorem ev149 (xs:Vals (ptys sg149.ps)):evF (P:=Tryz.prog) tab [] sg149 Tryz.f149.results.toList (code Tryz.f149) plan149 xs=d149 xs.1 xs.2.1:=by kernel_rfl
theorem sim149:Sim Tryz.prog 149 sg149 d149:=zad mixd zam Tryz.func149 (zaa rfl) Tryz.call149 (Nat.le_of_ble_eq_true (by kernel_rfl)) (by kernel_rfl) plan149 _ fun xs y h=>(ev149 xs).trans h
noncomputable def E149:FnE Tryz.prog:=⟨149,sg149,d149,sim149⟩
noncomputable def d88 (p0:Int) (p1:List uc8) (p2:List Int) (p3:List Int) (p4:Bool):Option (Int × Bool) :=
 (d147 p0 p2 p3).bind fun r =>
 bif !r then
  some ((-1),false)
 else
  (zae (β:=(uc16 × Bool × uc16)) (fun ((t0,t1,t3,t4,t12,t13):Int × uc6 × uc16 × Bool × uc16 × Int) =>
    letJ (fun ((t0_1,t1_1,t3_1,t4_1,t12_1,t13_1,t30):Int × uc6 × uc16 × Bool × uc16 × Int × Bool) =>
      bif t30 then
       letJ (fun ((t0_3,t1_3,t3_3,t4_3,t12_3,t13_3):Int × uc6 × uc16 × Bool × uc16 × Int) =>
         some (Sum.inl (t0_3,t1_3,t3_3,t4_3,t12_3,(w (t13_3+1))))) fun j__2 =>
       letJ (fun ((t0_2,t1_2,t3_2,t4_2,t12_2,t13_2,t14):Int × uc6 × uc16 × Bool × uc16 × Int × Int) =>
         bif (decide (1 < (t12_2.length:Int))) then
          bif (decide (0≤t14) && decide (t14 < (t1_2.length:Int))) then
           (d148 (List.getD t1_2 (Int.toNat t14) []) t12_2 t4_2).bind fun r_1 =>
           j__2 (t0_2,t1_2,t3_2,t4_2,r_1,t13_2)
          else none
         else
          j__2 (t0_2,t1_2,t3_2,t4_2,t12_2,t13_2)) fun j__1 =>
       bif (decide (t0_1=1)) then
        j__1 (t0_1,t1_1,t3_1,t4_1,t12_1,t13_1,(w ((w ((t1_1.length:Int) - 1)) - t13_1)))
       else
        j__1 (t0_1,t1_1,t3_1,t4_1,t12_1,t13_1,t13_1)
      else
       some (Sum.inr (t3_1,t4_1,t12_1))) fun j_ =>
    bif (decide (t13 < (t1.length:Int))) then
     j_ (t0,t1,t3,t4,t12,t13,!(decide (t0=3)))
    else
     j_ (t0,t1,t3,t4,t12,t13,false)) (p0,p1,p3,p4,p2,0)).bind fun ((t3_4,t4_4,t12_4):uc16 × Bool × uc16) =>
  bif (decide ((t12_4.length:Int)=1)) then
   bif (decide (0≤0) && decide (0 < (t12_4.length:Int))) then
    some ((List.getD t12_4 0 0),false)
   else none
  else
   bif (decide (0≤0) && decide (0 < (t12_4.length:Int))) then
    (zae (β:=Int) (fun ((t3_5,t4_5,t12_5,t15,t16):uc16 × Bool × uc16 × Int × Int) =>
      bif (decide (t16 < (t12_5.length:Int))) then
       letJ (fun ((t3_6,t4_6,t12_6,t15_1,t16_1):uc16 × Bool × uc16 × Int × Int) =>
         some (Sum.inl (t3_6,t4_6,t12_6,t15_1,(w (t16_1+1))))) fun j__3 =>
       bif (decide (0≤t16) && decide (t16 < (t12_5.length:Int))) then
        (d149 t3_5 (List.getD t12_5 (Int.toNat t16) 0)).bind fun r_2 =>
        (d149 t3_5 t15).bind fun r_3 =>
        bif ((decide (r_3 < r_2)) == t4_5) then
         bif (decide (0≤t16) && decide (t16 < (t12_5.length:Int))) then
          j__3 (t3_5,t4_5,t12_5,(List.getD t12_5 (Int.toNat t16) 0),t16)
         else none
        else
         j__3 (t3_5,t4_5,t12_5,t15,t16)
       else none
      else
       some (Sum.inr t15)) (t3_4,t4_4,t12_4,(List.getD t12_4 0 0),1)).bind fun (t15_2:Int) =>
    some (t15_2,true)
   else none
def sg88:Sig:=⟨[(y2,.sh),(y96,.sh),(y26,.sh),(y26,.bw),(y4,.sh)],[(y2,.sh),(y4,.sh)]⟩
def plan88:Plan:=(.seq (.reg [] []) (.seq (.seq (.reg [] []) (.cond (.seq (.reg [] []) .nil) .nil)) (.seq (.reg [] []) (.seq (.seq (.reg [] []) (.block (.loop [(0,.v y2 .sh),(1,.v y96 .sh),(3,.v y26 .bw),(4,.v y4 .sh),(12,.v y26 .sh),(13,.v y2 .sh)] [(.brk 0,[(3,.v y26 .bw),(4,.v y4 .sh),(12,.v y26 .sh)])] (.seq (.join (.reg [] []) [(0,.v y2 .sh),(1,.v y96 .sh),(3,.v y26 .bw),(4,.v y4 .sh),(12,.v y26 .sh),(13,.v y2 .sh),(30,.v y4 .sh)] (.cond .nil .nil)) (.join (.post (.block (.seq (.reg [] []) (.join (.seq (.reg [] []) (.cond (.reg [] []) .nil)) [(0,.v y2 .sh),(1,.v y96 .sh),(3,.v y26 .bw),(4,.v y4 .sh),(12,.v y26 .sh),(13,.v y2 .sh),(14,.v y2 .sh)] (.seq (.reg [] []) (.cond (.reg [] []) .nil))))) [(12,[])]) [(0,.v y2 .sh),(1,.v y96 .sh),(3,.v y26 .bw),(4,.v y4 .sh),(12,.v y26 .sh),(13,.v y2 .sh)] (.reg [] [])))))) (.seq (.seq (.reg [] []) (.cond (.seq (.reg [] []) .nil) .nil)) (.seq (.reg [] []) (.seq (.seq (.reg [] []) (.block (.loop [(3,.v y26 .bw),(4,.v y4 .sh),(12,.v y26 .sh),(15,.v y2 .sh),(16,.v y2 .sh)] [(.brk 2,[(15,.v y2 .sh)])] (.seq (.seq (.reg [] []) (.cond .nil .nil)) (.join (.block (.seq (.reg [] []) (.cond (.reg [] []) .nil))) [(3,.v y26 .bw),(4,.v y4 .sh),(12,.v y26 .sh),(15,.v y2 .sh),(16,.v y2 .sh)] (.reg [] [])))))) (.seq (.reg [] []) .nil))))))))
theorem ev88 (xs:Vals (ptys sg88.ps)):evF (P:=Tryz.prog) tab [.fn E147,.fn E148,.fn E149] sg88 Tryz.f88.results.toList (code Tryz.f88) plan88 xs=d88 xs.1 xs.2.1 xs.2.2.1 xs.2.2.2.1 xs.2.2.2.2.1:=by kernel_rfl
theorem sim88:Sim Tryz.prog 88 sg88 d88:=zad mixd zam Tryz.func88 (zaa rfl) Tryz.call88 (Nat.le_of_ble_eq_true (by kernel_rfl)) (by kernel_rfl) plan88 _ fun xs y h=>(ev88 xs).trans h
noncomputable def E88:FnE Tryz.prog:=⟨88,sg88,d88,sim88⟩
noncomputable def d150 (p:List Int) (state:List Int) (k:Int):Option Int :=
 (zae (β:=Int) (fun ((p_1,state_1,k_1):uc16 × uc16 × Int) =>
   letJ (fun ((p_2,state_2,k_2,t20):uc16 × uc16 × Int × Bool) =>
     bif t20 then
      some (Sum.inl (p_2,state_2,(w (k_2+1))))
     else
      some (Sum.inr k_2)) fun j_ =>
   bif (decide (k_1 < (p_1.length:Int))) then
    bif (decide (0≤k_1) && decide (k_1 < (p_1.length:Int))) then
     bif (decide (0≤(List.getD p_1 (Int.toNat k_1) 0)) && decide ((List.getD p_1 (Int.toNat k_1) 0) < (state_1.length:Int))) then
      j_ (p_1,state_1,k_1,!(decide ((List.getD state_1 (Int.toNat (List.getD p_1 (Int.toNat k_1) 0)) 0)=0)))
     else none
    else none
   else
    j_ (p_1,state_1,k_1,false)) (p,state,k)).bind fun (k_3:Int) =>
 some k_3
def sg150:Sig:=⟨[(y26,.bw),(y26,.bw),(y2,.sh)],[(y2,.sh)]⟩
def plan150:Plan:=(.seq (.reg [] []) (.seq (.block (.loop [(0,.v y26 .bw),(1,.v y26 .bw),(2,.v y2 .sh)] [(.brk 0,[(2,.v y2 .sh)])] (.seq (.join (.reg [] []) [(0,.v y26 .bw),(1,.v y26 .bw),(2,.v y2 .sh),(20,.v y4 .sh)] (.cond .nil .nil)) (.block (.reg [] []))))) (.seq (.reg [] []) .nil)))
theorem ev150 (xs:Vals (ptys sg150.ps)):evF (P:=Tryz.prog) tab [] sg150 Tryz.f150.results.toList (code Tryz.f150) plan150 xs=d150 xs.1 xs.2.1 xs.2.2.1:=by kernel_rfl
theorem sim150:Sim Tryz.prog 150 sg150 d150:=zad mixd zam Tryz.func150 (zaa rfl) Tryz.call150 (Nat.le_of_ble_eq_true (by kernel_rfl)) (by kernel_rfl) plan150 _ fun xs y h=>(ev150 xs).trans h
noncomputable def E150:FnE Tryz.prog:=⟨150,sg150,d150,sim150⟩
noncomputable def d90 (p0:uc7) (p1:List uc14) (p2:List Int) (p3:Int) (p4:List Bool) (p5:List Bool):Option uc7 :=
 (d77 p0.2.1 p5).bind fun r =>
 (zae (β:=(uc7 × uc7)) (fun ((t1,t2,t3,t4,t5,t6,t12,t13,t14):uc11 × uc16 × Int × uc15 × uc15 × uc7 × uc7 × uc7 × Int) =>
   bif (decide (t14 < (t1.length:Int))) then
    letJ (fun ((t1_2,t2_2,t3_2,t4_2,t5_2,t6_2,t12_2,t13_2,t14_2):uc11 × uc16 × Int × uc15 × uc15 × uc7 × uc7 × uc7 × Int) =>
      some (Sum.inl (t1_2,t2_2,t3_2,t4_2,t5_2,t6_2,t12_2,t13_2,(w (t14_2+1))))) fun j__1 =>
    bif (decide (0≤t14) && decide (t14 < (t1.length:Int))) then
     letJ (fun ((t1_1,t2_1,t3_1,t4_1,t5_1,t6_1,t12_1,t13_1,t14_1,t15,t51):uc11 × uc16 × Int × uc15 × uc15 × uc7 × uc7 × uc7 × Int × uc16 × Bool) =>
       bif t51 then
        bif (decide (0≤t14_1) && decide (t14_1 < (t6_1.1.length:Int))) then
         (d77 (List.getD t6_1.1 (Int.toNat t14_1) []) t4_1).bind fun r_1 =>
         bif (decide ((t13_1.1.length:Int)+(([r_1]:List uc15).length:Int)≤LIM)) then
          bif (decide (0≤t14_1) && decide (t14_1 < (t6_1.2.2.length:Int))) then
           (d150 t15 t2_1 (w ((List.getD t6_1.2.2 (Int.toNat t14_1) 0)+1))).bind fun r_2 =>
           bif (decide ((t13_1.2.2.length:Int)+(([r_2]:List Int).length:Int)≤LIM)) then
            j__1 (t1_1,t2_1,t3_1,t4_1,t5_1,t6_1,t12_1,((t13_1.1++[r_1]),t13_1.2.1,(t13_1.2.2++[r_2])),t14_1)
           else none
          else none
         else none
        else none
       else
        bif (decide (0≤t14_1) && decide (t14_1 < (t6_1.1.length:Int))) then
         (d77 (List.getD t6_1.1 (Int.toNat t14_1) []) t5_1).bind fun r_3 =>
         bif (decide ((t13_1.1.length:Int)+(([r_3]:List uc15).length:Int)≤LIM)) then
          bif (decide (0≤t14_1) && decide (t14_1 < (t6_1.2.2.length:Int))) then
           bif (decide ((t13_1.2.2.length:Int)+(([(List.getD t6_1.2.2 (Int.toNat t14_1) 0)]:List Int).length:Int)≤LIM)) then
            j__1 (t1_1,t2_1,t3_1,t4_1,t5_1,t6_1,t12_1,((t13_1.1++[r_3]),t13_1.2.1,(t13_1.2.2++[(List.getD t6_1.2.2 (Int.toNat t14_1) 0)])),t14_1)
           else none
          else none
         else none
        else none) fun j_ =>
     bif (decide (0≤t14) && decide (t14 < (t6.2.2.length:Int))) then
      bif (decide ((List.getD t6.2.2 (Int.toNat t14) 0) < (((List.getD t1 (Int.toNat t14) ([],0)).1).length:Int))) then
       bif (decide (0≤t14) && decide (t14 < (t6.2.2.length:Int))) then
        bif (decide (0≤(List.getD t6.2.2 (Int.toNat t14) 0)) && decide ((List.getD t6.2.2 (Int.toNat t14) 0) < (((List.getD t1 (Int.toNat t14) ([],0)).1).length:Int))) then
         j_ (t1,t2,t3,t4,t5,t6,t12,t13,t14,(List.getD t1 (Int.toNat t14) ([],0)).1,(decide ((List.getD ((List.getD t1 (Int.toNat t14) ([],0)).1) (Int.toNat (List.getD t6.2.2 (Int.toNat t14) 0)) 0)=t3)))
        else none
       else none
      else
       j_ (t1,t2,t3,t4,t5,t6,t12,t13,t14,(List.getD t1 (Int.toNat t14) ([],0)).1,false)
     else none
    else none
   else
    some (Sum.inr (t12,t13))) (p1,p2,p3,p4,p5,p0,([],[],[]),([],r,[]),0)).bind fun ((t12_3,t13_3):uc7 × uc7) =>
 some t13_3
def sg90:Sig:=⟨[(y105,.bw),(y25,.bw),(y26,.bw),(y2,.sh),(y48,.bw),(y48,.bw)],[(y105,.sh)]⟩
def plan90:Plan:=(.seq (.reg [] []) (.seq (.reg [] [{},{},{},{},{ frz:=[(19,[])],fl:=1200300049 }]) (.seq (.seq (.reg [] []) (.block (.loop [(1,.v y25 .bw),(2,.v y26 .bw),(3,.v y2 .sh),(4,.v y48 .bw),(5,.v y48 .bw),(6,.v (.ptr y105) (.own 0 .bw)),(12,.v (.ptr y105) (.own 0 .sh)),(13,.v (.ptr y105) (.own 0 (.pr (.own 49 .sh) (.pr .sh (.own 3 .sh))))),(14,.v y2 .sh)] [(.brk 0,[(12,.v (.ptr y105) (.own 0 .sh)),(13,.v (.ptr y105) (.own 0 (.pr (.own 49 .sh) (.pr .sh (.own 3 .sh)))))])] (.seq (.seq (.reg [] []) (.cond .nil .nil)) (.join (.block (.seq (.reg [] []) (.seq (.join (.reg [] []) [(1,.v y25 .bw),(2,.v y26 .bw),(3,.v y2 .sh),(4,.v y48 .bw),(5,.v y48 .bw),(6,.v (.ptr y105) (.own 0 .bw)),(12,.v (.ptr y105) (.own 0 .sh)),(13,.v (.ptr y105) (.own 0 (.pr (.own 49 .sh) (.pr .sh (.own 3 .sh))))),(14,.v y2 .sh),(15,.v y26 .bw),(51,.v y4 .sh)] (.cond (.seq (.reg [] [{},{},{},{},{},{},{},{},{},{ frz:=[(60,[])] }]) (.seq (.reg [] []) .nil)) .nil)) (.seq (.reg [] [{},{},{},{},{},{},{},{},{},{ frz:=[(86,[])] }]) (.reg [] []))))) [(1,.v y25 .bw),(2,.v y26 .bw),(3,.v y2 .sh),(4,.v y48 .bw),(5,.v y48 .bw),(6,.v (.ptr y105) (.own 0 .bw)),(12,.v (.ptr y105) (.own 0 .sh)),(13,.v (.ptr y105) (.own 0 (.pr (.own 49 .sh) (.pr .sh (.own 3 .sh))))),(14,.v y2 .sh)] (.reg [] [])))))) (.seq (.reg [(13,[0,0]),(13,[0,1,1])] []) .nil))))
theorem ev90 (xs:Vals (ptys sg90.ps)):evF (P:=Tryz.prog) tab [.fn E77,.fn E150] sg90 Tryz.f90.results.toList (code Tryz.f90) plan90 xs=d90 xs.1 xs.2.1 xs.2.2.1 xs.2.2.2.1 xs.2.2.2.2.1 xs.2.2.2.2.2.1:=by kernel_rfl
theorem sim90:Sim Tryz.prog 90 sg90 d90:=zad mixd zam Tryz.func90 (zaa rfl) Tryz.call90 (Nat.le_of_ble_eq_true (by kernel_rfl)) (by kernel_rfl) plan90 _ fun xs y h=>(ev90 xs).trans h
noncomputable def E90:FnE Tryz.prog:=⟨90,sg90,d90,sim90⟩
noncomputable def d28 (p0:uc5) (p1:List uc14) (p2:List Int):Option uc1 :=
 (d23 3 p0 p1 p2).bind fun r =>
 bif !(decide (r=0)) then
  some ((0,0,0,0,[],[]),r)
 else
  (d74 p1).bind fun r_1 =>
  (d73 r_1 p0.2.2.2.1).bind fun r_2 =>
  bif (decide ((p0.2.1.length:Int)=(p0.2.1.length:Int)) && (decide (0≤(p0.2.1.length:Int)) && decide ((p0.2.1.length:Int)≤LIM))) then
   (d75 1).bind fun r_3 =>
   (zae (β:=uc0) (fun ((t1,t2,t3,t6,t9,t10,t11,t12,t13,t14,t15):uc11 × uc16 × uc5 × uc2 × Int × Int × uc2 × uc16 × uc7 × uc8 × Int) =>
     bif (decide (t15 < t9)) then
      (d39 1).bind fun r_4 =>
      bif (decide ((t14.length:Int)+(([r_4]:List uc10).length:Int)≤LIM)) then
       some (Sum.inl (t1,t2,t3,t6,t9,t10,t11,t12,t13,(t14++[r_4]),(w (t15+1))))
      else none
     else
      some (Sum.inr (t1,t2,t3,t6,t9,t10,t11,t12,t13,t14))) (p1,p2,p0,(0,0,0,0,[],[]),(p0.2.1.length:Int),r_2,(3,p0.2.2.2.1,0,(p0.2.1.length:Int),[],[]),(List.replicate (Int.toNat (p0.2.1.length:Int)) 0),([],r_3,[]),[],0)).bind fun ((t1_1,t2_1,t3_1,t6_1,t9_1,t10_1,t11_1,t12_1,t13_1,t14_1):uc19) =>
   (zae (β:=uc0) (fun ((t1_2,t2_2,t3_2,t6_2,t9_2,t10_2,t11_2,t12_2,t13_2,t14_2,t16):uc11 × uc16 × uc5 × uc2 × Int × Int × uc2 × uc16 × uc7 × uc8 × Int) =>
     bif (decide (t16 < (t1_2.length:Int))) then
      (d75 1).bind fun r_5 =>
      bif (decide ((t13_2.1.length:Int)+(([r_5]:List uc15).length:Int)≤LIM)) then
       bif (decide ((t13_2.2.2.length:Int)+(([0]:List Int).length:Int)≤LIM)) then
        some (Sum.inl (t1_2,t2_2,t3_2,t6_2,t9_2,t10_2,t11_2,t12_2,((t13_2.1++[r_5]),t13_2.2.1,(t13_2.2.2++[0])),t14_2,(w (t16+1))))
       else none
      else none
     else
      some (Sum.inr (t1_2,t2_2,t3_2,t6_2,t9_2,t10_2,t11_2,t12_2,t13_2,t14_2))) (t1_1,t2_1,t3_1,t6_1,t9_1,t10_1,t11_1,t12_1,t13_1,t14_1,0)).bind fun ((t1_3,t2_3,t3_3,t6_3,t9_3,t10_3,t11_3,t12_3,t13_3,t14_3):uc19) =>
   (zae (β:=uc1) (fun ((t1_4,t2_4,t3_4,t6_4,t9_4,t10_4,t11_4,t12_4,t13_4,t14_4):uc19) =>
     (d76 t13_4 t1_4 t12_4 t10_4).bind fun r_6 =>
     (d75 t10_4).bind fun r_7 =>
     (d77 r_7 t13_4.2.1).bind fun r_8 =>
     (d39 t10_4).bind fun r_9 =>
     bif (decide ((([]:List uc10).length:Int)+(t14_4.length:Int)≤LIM)) then
      (d75 0).bind fun r_10 =>
      (d75 0).bind fun r_11 =>
      (zae (β:=(uc11 × uc16 × uc5 × uc2 × Int × Int × uc2 × uc16 × uc7 × uc8 × uc12 × uc15 × uc4 × uc15 × uc15)) (fun ((t1_5,t2_5,t3_5,t6_5,t9_5,t10_5,t11_5,t12_5,t13_5,t14_5,t17,t18,t19,t20,t21,t22):uc17) =>
        bif (decide (t22 < t9_5)) then
         letJ (fun ((t1_8,t2_8,t3_8,t6_8,t9_8,t10_8,t11_8,t12_8,t13_8,t14_8,t17_3,t18_3,t19_3,t20_3,t21_3,t22_3):uc17) =>
           some (Sum.inl (t1_8,t2_8,t3_8,t6_8,t9_8,t10_8,t11_8,t12_8,t13_8,t14_8,t17_3,t18_3,t19_3,t20_3,t21_3,(w (t22_3+1))))) fun j__2 =>
         bif (decide (0≤t22) && decide (t22 < (t17.length:Int))) then
          (d78 (List.getD t17 (Int.toNat t22) []) t13_5.2.1).bind fun r_12 =>
          bif (decide ((t19.1.length:Int)+(([r_12]:List uc10).length:Int)≤LIM)) then
           bif (decide (0≤t22) && decide (t22 < (t17.length:Int))) then
            (d79 t20 (List.getD t17 (Int.toNat t22) [])).bind fun r_13 =>
            letJ (fun ((t1_7,t2_7,t3_7,t6_7,t9_7,t10_7,t11_7,t12_7,t13_7,t14_7,t17_2,t18_2,t19_2,t20_2,t21_2,t22_2):uc17) =>
              bif (decide (0≤t22_2) && decide (t22_2 < (t12_7.length:Int))) then
               bif (decide ((List.getD t12_7 (Int.toNat t22_2) 0)=1)) then
                bif (decide (0≤t22_2) && decide (t22_2 < (t17_2.length:Int))) then
                 (d82 (List.getD t17_2 (Int.toNat t22_2) []) t18_2).bind fun r_16 =>
                 (d79 t21_2 r_16).bind fun r_17 =>
                 j__2 (t1_7,t2_7,t3_7,t6_7,t9_7,t10_7,t11_7,t12_7,t13_7,t14_7,t17_2,t18_2,t19_2,t20_2,r_17,t22_2)
                else none
               else
                j__2 (t1_7,t2_7,t3_7,t6_7,t9_7,t10_7,t11_7,t12_7,t13_7,t14_7,t17_2,t18_2,t19_2,t20_2,t21_2,t22_2)
              else none) fun j__1 =>
            letJ (fun ((t1_6,t2_6,t3_6,t6_6,t9_6,t10_6,t11_6,t12_6,t13_6,t14_6,t17_1,t18_1,t19_1,t20_1,t21_1,t22_1,t132):uc11 × uc16 × uc5 × uc2 × Int × Int × uc2 × uc16 × uc7 × uc8 × uc12 × uc15 × uc4 × uc15 × uc15 × Int × Bool) =>
              bif t132 then
               bif (decide (0≤t22_1) && decide (t22_1 < (t12_6.length:Int))) then
                (d81 t19_1.2.2.2.2.2.1 t22_1).bind fun r_15 =>
                j__1 (t1_6,t2_6,t3_6,t6_6,t9_6,t10_6,t11_6,(List.set t12_6 (Int.toNat t22_1) 1),t13_6,t14_6,t17_1,t18_1,(t19_1.1,t19_1.2.1,t19_1.2.2.1,t19_1.2.2.2.1,t19_1.2.2.2.2.1,r_15,t19_1.2.2.2.2.2.2),t20_1,t21_1,t22_1)
               else none
              else
               j__1 (t1_6,t2_6,t3_6,t6_6,t9_6,t10_6,t11_6,t12_6,t13_6,t14_6,t17_1,t18_1,t19_1,t20_1,t21_1,t22_1)) fun j_ =>
            bif (decide (0≤t22) && decide (t22 < (t12_5.length:Int))) then
             bif (decide ((List.getD t12_5 (Int.toNat t22) 0)=0)) then
              bif (decide (0≤t22) && decide (t22 < (t17.length:Int))) then
               (d80 (List.getD t17 (Int.toNat t22) []) t18).bind fun r_14 =>
               j_ (t1_5,t2_5,t3_5,t6_5,t9_5,t10_5,t11_5,t12_5,t13_5,t14_5,t17,t18,((t19.1++[r_12]),t19.2),r_13,t21,t22,(decide (0≤r_14)))
              else none
             else
              j_ (t1_5,t2_5,t3_5,t6_5,t9_5,t10_5,t11_5,t12_5,t13_5,t14_5,t17,t18,((t19.1++[r_12]),t19.2),r_13,t21,t22,false)
            else none
           else none
          else none
         else none
        else
         some (Sum.inr (t1_5,t2_5,t3_5,t6_5,t9_5,t10_5,t11_5,t12_5,t13_5,t14_5,t17,t18,t19,t20,t21))) (t1_4,t2_4,t3_4,t6_4,t9_4,t10_4,t11_4,t12_4,t13_4,t14_4,r_6,r_8,([],t14_4,r_9,(false,[],[]),(false,[],[]),[],[],[]),r_10,r_11,0)).bind fun ((t1_9,t2_9,t3_9,t6_9,t9_9,t10_9,t11_9,t12_9,t13_9,t14_9,t17_4,t18_4,t19_4,t20_4,t21_4):uc11 × uc16 × uc5 × uc2 × Int × Int × uc2 × uc16 × uc7 × uc8 × uc12 × uc15 × uc4 × uc15 × uc15) =>
      (d83 t1_9).bind fun r_18 =>
      (d75 r_18).bind fun r_19 =>
      (d77 r_19 t13_9.2.1).bind fun r_20 =>
      (d82 r_20 t20_4).bind fun r_21 =>
      (d78 r_21 t13_9.2.1).bind fun r_22 =>
      (d78 t21_4 t13_9.2.1).bind fun r_23 =>
      (d84 t12_9 1).bind fun r_24 =>
      (d84 t12_9 2).bind fun r_25 =>
      letJ (fun ((t1_10,t2_10,t3_10,t6_10,t9_10,t10_10,t11_10,t12_10,t13_10,t14_10,t17_5,t18_5,t19_5,t23,t188):uc18) =>
        bif t188 then
         letJ (fun ((t6_11,t11_11,t19_6):uc2 × uc2 × uc4) =>
           bif (decide ((t11_11.2.2.2.2.1.length:Int)+(([t19_6]:List uc4).length:Int)≤LIM)) then
            (d86 (t11_11.1,t11_11.2.1,t11_11.2.2.1,t11_11.2.2.2.1,(t11_11.2.2.2.2.1++[t19_6]),t11_11.2.2.2.2.2)).bind fun r_28 =>
            some (Sum.inr ((t11_11.1,t11_11.2.1,t11_11.2.2.1,t11_11.2.2.2.1,(t11_11.2.2.2.2.1++[t19_6]),r_28),0))
           else none) fun j__4 =>
         bif (decide (t23 < t3_10.2.2.2.1)) then
          (d85 t19_5.2.2.2.2.2.1 t12_10).bind fun r_27 =>
          j__4 (t6_10,t11_10,(t19_5.1,t19_5.2.1,t19_5.2.2.1,t19_5.2.2.2.1,t19_5.2.2.2.2.1,r_27.1,t19_5.2.2.2.2.2.2))
         else
          j__4 (t6_10,t11_10,t19_5)
        else
         letJ (fun ((t1_11,t2_11,t3_11,t6_12,t9_11,t10_11,t11_12,t12_11,t13_11,t14_11,t17_6,t18_6,t19_7,t24,t25):uc18) =>
           (d87 t17_6 t12_11 t24 t25).bind fun r_30 =>
           bif (decide (0≤0) && decide (0 < (r_30.length:Int))) then
            letJ (fun ((t1_12,t2_12,t3_12,t6_13,t9_12,t10_12,t11_13,t12_12,t13_12,t14_12,t17_7,t18_7,t19_8,t25_1,t27):uc11 × uc16 × uc5 × uc2 × Int × Int × uc2 × uc16 × uc7 × uc8 × uc12 × uc15 × uc4 × Bool × Int) =>
              letJ (fun ((t1_13,t2_13,t3_13,t6_14,t9_13,t10_13,t11_14,t12_13,t13_13,t14_13,t19_9):uc11 × uc16 × uc5 × uc2 × Int × Int × uc2 × uc16 × uc7 × uc8 × uc4) =>
                bif (decide ((t11_14.2.2.2.2.1.length:Int)+(([t19_9]:List uc4).length:Int)≤LIM)) then
                 some (Sum.inl (t1_13,t2_13,t3_13,t6_14,t9_13,t10_13,(t11_14.1,t11_14.2.1,t11_14.2.2.1,t11_14.2.2.2.1,(t11_14.2.2.2.2.1++[t19_9]),t11_14.2.2.2.2.2),t12_13,t13_13,t14_13))
                else none) fun j__7 =>
              bif t25_1 then
               bif (decide (0≤t27) && decide (t27 < (t17_7.length:Int))) then
                (d82 (List.getD t17_7 (Int.toNat t27) []) t18_7).bind fun r_33 =>
                bif (decide (0≤t27) && decide (t27 < (t17_7.length:Int))) then
                 (d78 r_33 (List.getD t17_7 (Int.toNat t27) [])).bind fun r_34 =>
                 bif (decide (0≤t27) && decide (t27 < (t12_12.length:Int))) then
                  bif (decide (0≤t27) && decide (t27 < (t14_12.length:Int))) then
                   bif (decide (0≤t27) && decide (t27 < (t17_7.length:Int))) then
                    (d90 t13_12 t1_12 (List.set t12_12 (Int.toNat t27) 2) t27 r_33 (List.getD t17_7 (Int.toNat t27) [])).bind fun r_35 =>
                    j__7 (t1_12,t2_12,t3_12,t6_13,t9_12,t10_12,t11_13,(List.set t12_12 (Int.toNat t27) 2),r_35,(List.set t14_12 (Int.toNat t27) r_34),t19_8)
                   else none
                  else none
                 else none
                else none
               else none
              else
               (d39 0).bind fun r_36 =>
               bif (decide (0≤t27) && decide (t27 < (t12_12.length:Int))) then
                bif (decide (0≤t27) && decide (t27 < (t14_12.length:Int))) then
                 (d75 1).bind fun r_37 =>
                 (d75 1).bind fun r_38 =>
                 (d90 t13_12 t1_12 (List.set t12_12 (Int.toNat t27) 3) t27 r_37 r_38).bind fun r_39 =>
                 j__7 (t1_12,t2_12,t3_12,t6_13,t9_12,t10_12,t11_13,(List.set t12_12 (Int.toNat t27) 3),r_39,(List.set t14_12 (Int.toNat t27) r_36),(t19_8.1,t19_8.2.1,t19_8.2.2.1,t19_8.2.2.2.1,t19_8.2.2.2.2.1,t19_8.2.2.2.2.2.1,[t27],t19_8.2.2.2.2.2.2.2))
                else none
               else none) fun j__6 =>
            bif (decide (1 < (r_30.length:Int))) then
             (d89 t11_12.2.2.2.2.1).bind fun r_31 =>
             (d88 t3_11.2.2.2.2.2.2.1 r_31.1 r_30 t2_11 (!t25)).bind fun r_32 =>
             j__6 (t1_11,t2_11,t3_11,t6_12,t9_11,t10_11,(t11_12.1,t11_12.2.1,t11_12.2.2.1,t11_12.2.2.2.1,r_31.2,t11_12.2.2.2.2.2),t12_11,t13_11,t14_11,t17_6,t18_6,(t19_7.1,t19_7.2.1,t19_7.2.2.1,t19_7.2.2.2.1,t19_7.2.2.2.2.1,t19_7.2.2.2.2.2.1,t19_7.2.2.2.2.2.2.1,r_30),t25,r_32.1)
            else
             j__6 (t1_11,t2_11,t3_11,t6_12,t9_11,t10_11,t11_12,t12_11,t13_11,t14_11,t17_6,t18_6,t19_7,t25,(List.getD r_30 0 0))
           else none) fun j__5 =>
         (d84 t12_10 1).bind fun r_29 =>
         bif (decide (0 < r_29)) then
          j__5 (t1_10,t2_10,t3_10,t6_10,t9_10,t10_10,t11_10,t12_10,t13_10,t14_10,t17_5,t18_5,t19_5,1,true)
         else
          j__5 (t1_10,t2_10,t3_10,t6_10,t9_10,t10_10,t11_10,t12_10,t13_10,t14_10,t17_5,t18_5,t19_5,0,false)) fun j__3 =>
      bif !(decide ((w (r_24+r_25))=t3_9.2.2.2.1)) then
       (d84 t12_9 0).bind fun r_26 =>
       j__3 (t1_9,t2_9,t3_9,t6_9,t9_9,t10_9,t11_9,t12_9,t13_9,t14_9,t17_4,t18_4,(t19_4.1,t19_4.2.1,t19_4.2.2.1,r_22,r_23,t19_4.2.2.2.2.2),(w (r_24+r_25)),(decide ((w ((w (r_24+r_25))+r_26))≤t3_9.2.2.2.1)))
      else
       j__3 (t1_9,t2_9,t3_9,t6_9,t9_9,t10_9,t11_9,t12_9,t13_9,t14_9,t17_4,t18_4,(t19_4.1,t19_4.2.1,t19_4.2.2.1,r_22,r_23,t19_4.2.2.2.2.2),(w (r_24+r_25)),true)
     else none) (t1_3,t2_3,t3_3,t6_3,t9_3,t10_3,t11_3,t12_3,t13_3,t14_3)).bind fun ((t6_15,t7):uc2 × Int) =>
   some (t6_15,t7)
  else none
def sg28:Sig:=⟨[(y23,.bw),(y25,.bw),(y26,.bw)],[(y32,.sh),(y2,.sh)]⟩
def plan28:Plan:=(.post (.seq (.reg [] []) (.seq (.seq (.reg [] []) (.seq (.reg [] []) (.cond (.seq (.reg [] [{ fl:=1405905003 }]) .nil) .nil))) (.seq (.reg [] []) (.seq (.reg [] []) (.seq (.reg [] [{},{},{},{ fl:=1405905003 }]) (.seq (.reg [] []) (.seq (.reg [] [{},{ frz:=[(51,[])],fl:=1200300049 }]) (.seq (.reg [] [{ fl:=2 }]) (.seq (.seq (.reg [] []) (.block (.loop [(1,.v y25 .bw),(2,.v y26 .bw),(3,.v (.ptr y23) (.own 0 .bw)),(6,.v (.ptr y32) (.own 0 .sh)),(9,.v y2 .sh),(10,.v y2 .sh),(11,.v (.ptr y32) (.own 0 (.pr .sh (.pr .sh (.pr .sh (.pr .sh (.pr (.own 59 .sh) (.own 3 .sh)))))))),(12,.v y26 (.own 3 .sh)),(13,.v (.ptr y105) (.own 0 (.pr (.own 49 .sh) (.pr .sh (.own 3 .sh))))),(14,.v y53 (.own 57 .sh)),(15,.v y2 .sh)] [(.brk 0,[(1,.v y25 .bw),(2,.v y26 .bw),(3,.v (.ptr y23) (.own 0 .bw)),(6,.v (.ptr y32) (.own 0 .sh)),(9,.v y2 .sh),(10,.v y2 .sh),(11,.v (.ptr y32) (.own 0 (.pr .sh (.pr .sh (.pr .sh (.pr .sh (.pr (.own 59 .sh) (.own 3 .sh)))))))),(12,.v y26 (.own 3 .sh)),(13,.v (.ptr y105) (.own 0 (.pr (.own 49 .sh) (.pr .sh (.own 3 .sh))))),(14,.v y53 (.own 57 .sh))])] (.seq (.seq (.reg [] []) (.cond .nil .nil)) (.seq (.block (.reg [] [])) (.reg [] [])))))) (.seq (.seq (.reg [] []) (.block (.loop [(1,.v y25 .bw),(2,.v y26 .bw),(3,.v (.ptr y23) (.own 0 .bw)),(6,.v (.ptr y32) (.own 0 .sh)),(9,.v y2 .sh),(10,.v y2 .sh),(11,.v (.ptr y32) (.own 0 (.pr .sh (.pr .sh (.pr .sh (.pr .sh (.pr (.own 59 .sh) (.own 3 .sh)))))))),(12,.v y26 (.own 3 .sh)),(13,.v (.ptr y105) (.own 0 (.pr (.own 49 .sh) (.pr .sh (.own 3 .sh))))),(14,.v y53 (.own 57 .sh)),(16,.v y2 .sh)] [(.brk 2,[(1,.v y25 .bw),(2,.v y26 .bw),(3,.v (.ptr y23) (.own 0 .bw)),(6,.v (.ptr y32) (.own 0 .sh)),(9,.v y2 .sh),(10,.v y2 .sh),(11,.v (.ptr y32) (.own 0 (.pr .sh (.pr .sh (.pr .sh (.pr .sh (.pr (.own 59 .sh) (.own 3 .sh)))))))),(12,.v y26 (.own 3 .sh)),(13,.v (.ptr y105) (.own 0 (.pr (.own 49 .sh) (.pr .sh (.own 3 .sh))))),(14,.v y53 (.own 57 .sh))])] (.seq (.seq (.reg [] []) (.cond .nil .nil)) (.seq (.block (.reg [] [{},{},{},{ frz:=[(70,[])] }])) (.reg [] [])))))) (.block (.frz [(13,[0,0]),(13,[0,1,1])] (.loop [(1,.v y25 .bw),(2,.v y26 .bw),(3,.v (.ptr y23) (.own 0 .bw)),(6,.v (.ptr y32) (.own 0 .sh)),(9,.v y2 .sh),(10,.v y2 .sh),(11,.v (.ptr y32) (.own 0 (.pr .sh (.pr .sh (.pr .sh (.pr .sh (.pr (.own 59 .sh) (.own 3 .sh)))))))),(12,.v y26 (.own 3 .sh)),(13,.v (.ptr y105) (.own 0 (.pr .sh (.pr .sh .sh)))),(14,.v y53 (.own 57 .sh))] [(.ret,[(6,.v (.ptr y32) (.own 0 (.pr .sh (.pr .sh (.pr .sh (.pr .sh (.pr .sh .sh))))))),(7,.v y2 .sh)])] (.block (.seq (.reg [(13,[0,0]),(13,[0,1,1])] []) (.seq (.reg [] []) (.seq (.reg [] [{},{},{},{},{ frz:=[(92,[])],fl:=61 }]) (.seq (.reg [] []) (.seq (.seq (.reg [] []) (.block (.loop [(1,.v y25 .bw),(2,.v y26 .bw),(3,.v (.ptr y23) (.own 0 .bw)),(6,.v (.ptr y32) (.own 0 .sh)),(9,.v y2 .sh),(10,.v y2 .sh),(11,.v (.ptr y32) (.own 0 (.pr .sh (.pr .sh (.pr .sh (.pr .sh (.pr (.own 59 .sh) (.own 3 .sh)))))))),(12,.v y26 (.own 3 .sh)),(13,.v (.ptr y105) (.own 0 (.pr .sh (.pr .sh .sh)))),(14,.v y53 (.own 57 .sh)),(17,.v y104 (.own 49 .sh)),(18,.v y48 (.own 4 .sh)),(19,.v y154 (.own 0 (.pr (.own 57 .sh) (.pr .sh (.pr .sh .sh))))),(20,.v y48 (.own 4 .sh)),(21,.v y48 (.own 4 .sh)),(22,.v y2 .sh)] [(.brk 6,[(1,.v y25 .bw),(2,.v y26 .bw),(3,.v (.ptr y23) (.own 0 .bw)),(6,.v (.ptr y32) (.own 0 .sh)),(9,.v y2 .sh),(10,.v y2 .sh),(11,.v (.ptr y32) (.own 0 (.pr .sh (.pr .sh (.pr .sh (.pr .sh (.pr (.own 59 .sh) (.own 3 .sh)))))))),(12,.v y26 (.own 3 .sh)),(13,.v (.ptr y105) (.own 0 (.pr .sh (.pr .sh .sh)))),(14,.v y53 (.own 57 .sh)),(17,.v y104 (.own 49 .sh)),(18,.v y48 (.own 4 .sh)),(19,.v y154 (.own 0 (.pr (.own 57 .sh) (.pr .sh (.pr .sh .sh))))),(20,.v y48 (.own 4 .sh)),(21,.v y48 (.own 4 .sh))])] (.seq (.seq (.reg [] []) (.cond .nil .nil)) (.join (.block (.seq (.reg [] []) (.seq (.reg [] []) (.join (.post (.join (.reg [] []) [(1,.v y25 .bw),(2,.v y26 .bw),(3,.v (.ptr y23) (.own 0 .bw)),(6,.v (.ptr y32) (.own 0 .sh)),(9,.v y2 .sh),(10,.v y2 .sh),(11,.v (.ptr y32) (.own 0 (.pr .sh (.pr .sh (.pr .sh (.pr .sh (.pr (.own 59 .sh) (.own 3 .sh)))))))),(12,.v y26 (.own 3 .sh)),(13,.v (.ptr y105) (.own 0 (.pr .sh (.pr .sh .sh)))),(14,.v y53 (.own 57 .sh)),(17,.v y104 (.own 49 .sh)),(18,.v y48 (.own 4 .sh)),(19,.v y154 (.own 0 (.pr (.own 57 .sh) (.pr .sh (.pr .sh .sh))))),(20,.v y48 (.own 4 .sh)),(21,.v y48 (.own 4 .sh)),(22,.v y2 .sh),(132,.v y4 .sh)] (.cond (.seq (.reg [] []) (.reg [] [])) .nil)) [(19,[0,1,1,1,1,1,0])]) [(1,.v y25 .bw),(2,.v y26 .bw),(3,.v (.ptr y23) (.own 0 .bw)),(6,.v (.ptr y32) (.own 0 .sh)),(9,.v y2 .sh),(10,.v y2 .sh),(11,.v (.ptr y32) (.own 0 (.pr .sh (.pr .sh (.pr .sh (.pr .sh (.pr (.own 59 .sh) (.own 3 .sh)))))))),(12,.v y26 (.own 3 .sh)),(13,.v (.ptr y105) (.own 0 (.pr .sh (.pr .sh .sh)))),(14,.v y53 (.own 57 .sh)),(17,.v y104 (.own 49 .sh)),(18,.v y48 (.own 4 .sh)),(19,.v y154 (.own 0 (.pr (.own 57 .sh) (.pr .sh (.pr .sh (.pr .sh (.pr .sh (.pr .sh .sh)))))))),(20,.v y48 (.own 4 .sh)),(21,.v y48 (.own 4 .sh)),(22,.v y2 .sh)] (.seq (.reg [] []) (.cond (.reg [] []) .nil)))))) [(1,.v y25 .bw),(2,.v y26 .bw),(3,.v (.ptr y23) (.own 0 .bw)),(6,.v (.ptr y32) (.own 0 .sh)),(9,.v y2 .sh),(10,.v y2 .sh),(11,.v (.ptr y32) (.own 0 (.pr .sh (.pr .sh (.pr .sh (.pr .sh (.pr (.own 59 .sh) (.own 3 .sh)))))))),(12,.v y26 (.own 3 .sh)),(13,.v (.ptr y105) (.own 0 (.pr .sh (.pr .sh .sh)))),(14,.v y53 (.own 57 .sh)),(17,.v y104 (.own 49 .sh)),(18,.v y48 (.own 4 .sh)),(19,.v y154 (.own 0 (.pr (.own 57 .sh) (.pr .sh (.pr .sh (.pr .sh (.pr .sh (.pr .sh .sh)))))))),(20,.v y48 (.own 4 .sh)),(21,.v y48 (.own 4 .sh)),(22,.v y2 .sh)] (.reg [] [])))))) (.seq (.reg [] []) (.seq (.reg [] []) (.seq (.reg [] []) (.seq (.join (.reg [] []) [(1,.v y25 .bw),(2,.v y26 .bw),(3,.v (.ptr y23) (.own 0 .bw)),(6,.v (.ptr y32) (.own 0 .sh)),(9,.v y2 .sh),(10,.v y2 .sh),(11,.v (.ptr y32) (.own 0 (.pr .sh (.pr .sh (.pr .sh (.pr .sh (.pr (.own 59 .sh) (.own 3 .sh)))))))),(12,.v y26 (.own 3 .sh)),(13,.v (.ptr y105) (.own 0 (.pr .sh (.pr .sh .sh)))),(14,.v y53 (.own 57 .sh)),(17,.v y104 (.own 49 .sh)),(18,.v y48 (.own 4 .sh)),(19,.v y154 (.own 0 (.pr (.own 57 .sh) (.pr .sh (.pr .sh (.pr .sh (.pr .sh .sh))))))),(23,.v y2 .sh),(188,.v y4 .sh)] (.cond (.join (.seq (.reg [] []) (.cond (.reg [] []) .nil)) [(6,.v (.ptr y32) (.own 0 .sh)),(11,.v (.ptr y32) (.own 0 (.pr .sh (.pr .sh (.pr .sh (.pr .sh (.pr (.own 59 .sh) (.own 3 .sh)))))))),(19,.v y154 (.own 0 (.pr (.own 57 .sh) (.pr .sh (.pr .sh (.pr .sh (.pr .sh .sh)))))))] (.seq (.reg [(19,[0,0])] []) (.seq (.reg [(11,[0,1,1,1,1,0]),(11,[0,1,1,1,1,1])] []) (.seq (.reg [(11,[0,1,1,1,1,1])] []) .nil)))) .nil)) (.seq (.reg [] []) (.join (.seq (.reg [] []) (.cond (.reg [] []) .nil)) [(1,.v y25 .bw),(2,.v y26 .bw),(3,.v (.ptr y23) (.own 0 .bw)),(6,.v (.ptr y32) (.own 0 .sh)),(9,.v y2 .sh),(10,.v y2 .sh),(11,.v (.ptr y32) (.own 0 (.pr .sh (.pr .sh (.pr .sh (.pr .sh (.pr (.own 59 .sh) (.own 3 .sh)))))))),(12,.v y26 (.own 3 .sh)),(13,.v (.ptr y105) (.own 0 (.pr .sh (.pr .sh .sh)))),(14,.v y53 (.own 57 .sh)),(17,.v y104 (.own 49 .sh)),(18,.v y48 (.own 4 .sh)),(19,.v y154 (.own 0 (.pr (.own 57 .sh) (.pr .sh (.pr .sh (.pr .sh (.pr .sh .sh))))))),(24,.v y2 .sh),(25,.v y4 .sh)] (.seq (.reg [] []) (.seq (.reg [] []) (.join (.seq (.reg [] []) (.cond (.seq (.reg [(26,[])] []) (.reg [] [{},{},{},{},{},{},{},{},{},{ frz:=[(229,[])] },{ fl:=1 }])) .nil)) [(1,.v y25 .bw),(2,.v y26 .bw),(3,.v (.ptr y23) (.own 0 .bw)),(6,.v (.ptr y32) (.own 0 .sh)),(9,.v y2 .sh),(10,.v y2 .sh),(11,.v (.ptr y32) (.own 0 (.pr .sh (.pr .sh (.pr .sh (.pr .sh (.pr (.own 59 .sh) (.own 3 .sh)))))))),(12,.v y26 (.own 3 .sh)),(13,.v (.ptr y105) (.own 0 (.pr .sh (.pr .sh .sh)))),(14,.v y53 (.own 57 .sh)),(17,.v y104 (.own 49 .sh)),(18,.v y48 (.own 4 .sh)),(19,.v y154 (.own 0 (.pr (.own 57 .sh) (.pr .sh (.pr .sh (.pr .sh (.pr .sh .sh))))))),(25,.v y4 .sh),(27,.v y2 .sh)] (.join (.post (.seq (.reg [] []) (.cond (.seq (.reg [] []) (.seq (.reg [] []) (.reg [] []))) (.seq (.reg [] []) (.seq (.reg [] []) (.reg [] []))))) [(19,[0,1,1,1,1,1,1,0])]) [(1,.v y25 .bw),(2,.v y26 .bw),(3,.v (.ptr y23) (.own 0 .bw)),(6,.v (.ptr y32) (.own 0 .sh)),(9,.v y2 .sh),(10,.v y2 .sh),(11,.v (.ptr y32) (.own 0 (.pr .sh (.pr .sh (.pr .sh (.pr .sh (.pr (.own 59 .sh) (.own 3 .sh)))))))),(12,.v y26 (.own 3 .sh)),(13,.v (.ptr y105) (.own 0 .sh)),(14,.v y53 (.own 57 .sh)),(19,.v y154 (.own 0 (.pr (.own 57 .sh) (.pr .sh (.pr .sh (.pr .sh (.pr .sh (.pr .sh (.pr .sh .sh)))))))))] (.reg [(19,[0,0])] [])))))))))))))))))))))))))))))) [(6,[0])])
theorem ev28 (xs:Vals (ptys sg28.ps)):evF (P:=Tryz.prog) tab [.fn E23,.fn E74,.fn E73,.fn E75,.fn E39,.fn E76,.fn E77,.fn E78,.fn E79,.fn E80,.fn E81,.fn E82,.fn E83,.fn E84,.fn E85,.fn E86,.fn E87,.fn E89,.fn E88,.fn E90] sg28 Tryz.f28.results.toList (code Tryz.f28) plan28 xs=d28 xs.1 xs.2.1 xs.2.2.1:=by kernel_rfl
theorem sim28:Sim Tryz.prog 28 sg28 d28:=zad mixd zam Tryz.func28 (zaa rfl) Tryz.call28 (Nat.le_of_ble_eq_true (by kernel_rfl)) (by kernel_rfl) plan28 _ fun xs y h=>(ev28 xs).trans h
noncomputable def E28:FnE Tryz.prog:=⟨28,sg28,d28,sim28⟩
noncomputable def d184 (a:List uc10) (b:List uc10):Option Bool :=
 bif !(decide ((a.length:Int)=(b.length:Int))) then
  some false
 else
  (zae (β:=Unit ⊕ Bool) (fun ((a_1,b_1,i):uc8 × uc8 × Int) =>
    bif (decide (i < (a_1.length:Int))) then
     bif (decide (0≤i) && decide (i < (a_1.length:Int))) then
      bif (decide (0≤i) && decide (i < (b_1.length:Int))) then
       (d37 (List.getD a_1 (Int.toNat i) (false,[],[])) (List.getD b_1 (Int.toNat i) (false,[],[]))).bind fun r =>
       bif !r then
        some (Sum.inr (Sum.inr false))
       else
        some (Sum.inl (a_1,b_1,(w (i+1))))
      else none
     else none
    else
     some (Sum.inr (Sum.inl ()))) (a,b,0)).bind fun
  | Sum.inl _ =>
   some true
  | Sum.inr t4 =>
   some t4
def sg184:Sig:=⟨[(y53,.bw),(y53,.bw)],[(y4,.sh)]⟩
def plan184:Plan:=(.seq (.reg [] []) (.seq (.seq (.reg [] []) (.cond (.seq (.reg [] []) .nil) .nil)) (.seq (.seq (.reg [] []) (.block (.loop [(0,.v y53 .bw),(1,.v y53 .bw),(5,.v y2 .sh)] [(.brk 0,[]),(.ret,[(4,.v y4 .sh)])] (.seq (.seq (.reg [] []) (.cond .nil .nil)) (.seq (.block (.seq (.reg [] []) (.cond (.seq (.reg [] []) .nil) .nil))) (.reg [] [])))))) (.seq (.reg [] []) .nil))))
theorem ev184 (xs:Vals (ptys sg184.ps)):evF (P:=Tryz.prog) tab [.fn E37] sg184 Tryz.f184.results.toList (code Tryz.f184) plan184 xs=d184 xs.1 xs.2.1:=by kernel_rfl
theorem sim184:Sim Tryz.prog 184 sg184 d184:=zad mixd zam Tryz.func184 (zaa rfl) Tryz.call184 (Nat.le_of_ble_eq_true (by kernel_rfl)) (by kernel_rfl) plan184 _ fun xs y h=>(ev184 xs).trans h
noncomputable def E184:FnE Tryz.prog:=⟨184,sg184,d184,sim184⟩
noncomputable def d151 (a:uc4) (b:uc4):Option Bool :=
 (d184 a.1 b.1).bind fun r =>
 bif r then
  (d184 a.2.1 b.2.1).bind fun r_1 =>
  bif r_1 then
   (d37 a.2.2.1 b.2.2.1).bind fun r_2 =>
   bif r_2 then
    (d37 a.2.2.2.1 b.2.2.2.1).bind fun r_3 =>
    bif r_3 then
     (d37 a.2.2.2.2.1 b.2.2.2.2.1).bind fun r_4 =>
     bif r_4 then
      (d38 a.2.2.2.2.2.1 b.2.2.2.2.2.1).bind fun r_5 =>
      bif r_5 then
       (d38 a.2.2.2.2.2.2.1 b.2.2.2.2.2.2.1).bind fun r_6 =>
       bif r_6 then
        (d38 a.2.2.2.2.2.2.2 b.2.2.2.2.2.2.2).bind fun r_7 =>
        some r_7
       else
        some false
      else
       some false
     else
      some false
    else
     some false
   else
    some false
  else
   some false
 else
  some false
def sg151:Sig:=⟨[(y59,.bw),(y59,.bw)],[(y4,.sh)]⟩
def plan151:Plan:=(.seq (.reg [] []) (.seq (.reg [] []) .nil))
theorem ev151 (xs:Vals (ptys sg151.ps)):evF (P:=Tryz.prog) tab [.fn E184,.fn E37,.fn E38] sg151 Tryz.f151.results.toList (code Tryz.f151) plan151 xs=d151 xs.1 xs.2.1:=by kernel_rfl
theorem sim151:Sim Tryz.prog 151 sg151 d151:=zad mixd zam Tryz.func151 (zaa rfl) Tryz.call151 (Nat.le_of_ble_eq_true (by kernel_rfl)) (by kernel_rfl) plan151 _ fun xs y h=>(ev151 xs).trans h
noncomputable def E151:FnE Tryz.prog:=⟨151,sg151,d151,sim151⟩
noncomputable def d91 (p0:uc2) (p1:uc2):Option Bool :=
 letJ (fun ((t2,t3,t48):uc2 × uc2 × Bool) =>
   bif t48 then
    some false
   else
    (zae (β:=Unit ⊕ Bool) (fun ((t2_1,t3_1,t5):uc2 × uc2 × Int) =>
      bif (decide (t5 < (t2_1.2.2.2.2.1.length:Int))) then
       bif (decide (0≤t5) && decide (t5 < (t2_1.2.2.2.2.1.length:Int))) then
        bif (decide (0≤t5) && decide (t5 < (t3_1.2.2.2.2.1.length:Int))) then
         (d151 (List.getD t2_1.2.2.2.2.1 (Int.toNat t5) ([],[],(false,[],[]),(false,[],[]),(false,[],[]),[],[],[])) (List.getD t3_1.2.2.2.2.1 (Int.toNat t5) ([],[],(false,[],[]),(false,[],[]),(false,[],[]),[],[],[]))).bind fun r_1 =>
         bif !r_1 then
          some (Sum.inr (Sum.inr false))
         else
          some (Sum.inl (t2_1,t3_1,(w (t5+1))))
        else none
       else none
      else
       some (Sum.inr (Sum.inl ()))) (t2,t3,0)).bind fun
    | Sum.inl _ =>
     some true
    | Sum.inr t4 =>
     some t4) fun j_ =>
 bif !(!(decide (p0.1=p1.1))) then
  bif !(!(decide (p0.2.1=p1.2.1))) then
   bif !(!(decide (p0.2.2.1=p1.2.2.1))) then
    bif !(!(decide (p0.2.2.2.1=p1.2.2.2.1))) then
     (d38 p0.2.2.2.2.2 p1.2.2.2.2.2).bind fun r =>
     bif !(!r) then
      j_ (p0,p1,!(decide ((p0.2.2.2.2.1.length:Int)=(p1.2.2.2.2.1.length:Int))))
     else
      j_ (p0,p1,true)
    else
     j_ (p0,p1,true)
   else
    j_ (p0,p1,true)
  else
   j_ (p0,p1,true)
 else
  j_ (p0,p1,true)
def sg91:Sig:=⟨[(y32,.bw),(y32,.bw)],[(y4,.sh)]⟩
def plan91:Plan:=(.seq (.reg [] []) (.seq (.join (.reg [] []) [(2,.v (.ptr y32) (.own 0 .bw)),(3,.v (.ptr y32) (.own 0 .bw)),(48,.v y4 .sh)] (.cond (.seq (.reg [] []) .nil) .nil)) (.seq (.seq (.reg [] []) (.block (.loop [(2,.v (.ptr y32) (.own 0 .bw)),(3,.v (.ptr y32) (.own 0 .bw)),(5,.v y2 .sh)] [(.brk 0,[]),(.ret,[(4,.v y4 .sh)])] (.seq (.seq (.reg [] []) (.cond .nil .nil)) (.seq (.block (.seq (.reg [] []) (.cond (.seq (.reg [] []) .nil) .nil))) (.reg [] [])))))) (.seq (.reg [] []) .nil))))
theorem ev91 (xs:Vals (ptys sg91.ps)):evF (P:=Tryz.prog) tab [.fn E38,.fn E151] sg91 Tryz.f91.results.toList (code Tryz.f91) plan91 xs=d91 xs.1 xs.2.1:=by kernel_rfl
theorem sim91:Sim Tryz.prog 91 sg91 d91:=zad mixd zam Tryz.func91 (zaa rfl) Tryz.call91 (Nat.le_of_ble_eq_true (by kernel_rfl)) (by kernel_rfl) plan91 _ fun xs y h=>(ev91 xs).trans h
noncomputable def E91:FnE Tryz.prog:=⟨91,sg91,d91,sim91⟩
noncomputable def d29 (a:uc2) (b:uc2):Option Bool :=
 (d91 a b).bind fun r =>
 some r
def sg29:Sig:=⟨[(y32,.bw),(y32,.bw)],[(y4,.sh)]⟩
def plan29:Plan:=(.seq (.reg [] []) (.seq (.reg [] []) .nil))
theorem ev29 (xs:Vals (ptys sg29.ps)):evF (P:=Tryz.prog) tab [.fn E91] sg29 Tryz.f29.results.toList (code Tryz.f29) plan29 xs=d29 xs.1 xs.2.1:=by kernel_rfl
theorem sim29:Sim Tryz.prog 29 sg29 d29:=zad mixd zam Tryz.func29 (zaa rfl) Tryz.call29 (Nat.le_of_ble_eq_true (by kernel_rfl)) (by kernel_rfl) plan29 _ fun xs y h=>(ev29 xs).trans h
noncomputable def E29:FnE Tryz.prog:=⟨29,sg29,d29,sim29⟩
noncomputable def d3 (p0:uc5) (p1:List uc14) (p2:List Int) (p3:Bool) (p4:Int) (p5:Int) (p6:List uc16):Option Bool :=
 letJ (fun ((t1,t2,t3,t4,t5,t6,t7,t39):uc11 × uc16 × Bool × Int × Int × uc13 × uc5 × Bool) =>
   bif t39 then
    (d21).bind fun r_2 =>
    some r_2
   else
    bif t3 then
     (d22 t7 t1 t2).bind fun r_3 =>
     (d21).bind fun r_4 =>
     bif r_4 then
      (d23 3 t7 t1 t2).bind fun r_5 =>
      some (decide (r_3.2=r_5))
     else
      some false
    else
     (d24 t4 7).bind fun r_6 =>
     (d25 2 (w (1+r_6)) t7.2.2.2.1 0 t7.2.2.2.2.2.2.1).bind fun r_7 =>
     (d26 (w (1+r_6)) t6 16).bind fun r_8 =>
     (d27 (w (1+r_6)) t5).bind fun r_9 =>
     (d22 r_7 r_8 r_9).bind fun r_10 =>
     (d28 r_7 r_8 r_9).bind fun r_11 =>
     (d21).bind fun r_12 =>
     bif r_12 then
      bif (decide (r_10.2=r_11.2)) then
       (d29 r_10.1 r_11.1).bind fun r_13 =>
       some r_13
      else
       some false
     else
      some false) fun j_ =>
 (d19 p1).bind fun r =>
 bif !(!r) then
  (d20 p6).bind fun r_1 =>
  bif !(!r_1) then
   bif !(decide (12 < (p2.length:Int))) then
    j_ (p1,p2,p3,p4,p5,p6,p0,(decide (12 < (p0.2.1.length:Int))))
   else
    j_ (p1,p2,p3,p4,p5,p6,p0,true)
  else
   j_ (p1,p2,p3,p4,p5,p6,p0,true)
 else
  j_ (p1,p2,p3,p4,p5,p6,p0,true)
def sg3:Sig:=⟨[(y23,.sh),(y25,.sh),(y26,.sh),(y4,.sh),(y2,.sh),(y2,.sh),(y27,.bw)],[(y4,.sh)]⟩
def plan3:Plan:=(.seq (.reg [] []) (.seq (.join (.reg [] []) [(1,.v y25 .sh),(2,.v y26 .sh),(3,.v y4 .sh),(4,.v y2 .sh),(5,.v y2 .sh),(6,.v y27 .bw),(7,.v (.ptr y23) (.own 0 .sh)),(39,.v y4 .sh)] (.cond (.seq (.reg [] []) .nil) .nil)) (.seq (.seq (.reg [] []) (.cond (.seq (.reg [] [{},{},{},{},{ fl:=1 }]) (.seq (.reg [] []) .nil)) .nil)) (.seq (.reg [] []) (.seq (.reg [] []) (.seq (.reg [] []) (.seq (.reg [(2,[])] [{},{},{},{},{ fl:=1 }]) (.seq (.reg [] [{},{},{},{},{ fl:=1 }]) (.seq (.reg [] []) .nil)))))))))
theorem ev3 (xs:Vals (ptys sg3.ps)):evF (P:=Tryz.prog) tab [.fn E19,.fn E20,.fn E21,.fn E22,.fn E23,.fn E24,.fn E25,.fn E26,.fn E27,.fn E28,.fn E29] sg3 Tryz.f3.results.toList (code Tryz.f3) plan3 xs=d3 xs.1 xs.2.1 xs.2.2.1 xs.2.2.2.1 xs.2.2.2.2.1 xs.2.2.2.2.2.1 xs.2.2.2.2.2.2.1:=by kernel_rfl
theorem sim3:Sim Tryz.prog 3 sg3 d3:=zad mixd zam Tryz.func3 (zaa rfl) Tryz.call3 (Nat.le_of_ble_eq_true (by kernel_rfl)) (by kernel_rfl) plan3 _ fun xs y h=>(ev3 xs).trans h
noncomputable def d4 (ballots:Int) (seats:Int):Option Bool :=
 (d30 ballots seats).bind fun r =>
 letJ (fun ((ballots_1,seats_1,q,t22):Int × Int × Int × Bool) =>
   bif t22 then
    (d21).bind fun r_1 =>
    bif r_1 then
     some (decide (q=0))
    else
     some false
   else
    (d21).bind fun r_2 =>
    bif r_2 then
     bif (decide (1≤q)) then
      bif (decide (q≤100001)) then
       bif (decide (ballots_1 < (w (q * (w (seats_1+1)))))) then
        some (decide ((w ((w (q - 1)) * (w (seats_1+1))))≤ballots_1))
       else
        some false
      else
       some false
     else
      some false
    else
     some false) fun j_ =>
 bif !(decide (ballots < 0)) then
  bif !(decide (100000 < ballots)) then
   bif !(decide (seats < 1)) then
    j_ (ballots,seats,r,(decide (5 < seats)))
   else
    j_ (ballots,seats,r,true)
  else
   j_ (ballots,seats,r,true)
 else
  j_ (ballots,seats,r,true)
def sg4:Sig:=⟨[(y2,.sh),(y2,.sh)],[(y4,.sh)]⟩
def plan4:Plan:=(.seq (.reg [] []) (.seq (.reg [] []) (.seq (.join (.reg [] []) [(0,.v y2 .sh),(1,.v y2 .sh),(5,.v y2 .sh),(22,.v y4 .sh)] (.cond (.seq (.reg [] []) .nil) .nil)) (.seq (.reg [] []) .nil))))
theorem ev4 (xs:Vals (ptys sg4.ps)):evF (P:=Tryz.prog) tab [.fn E30,.fn E21] sg4 Tryz.f4.results.toList (code Tryz.f4) plan4 xs=d4 xs.1 xs.2.1:=by kernel_rfl
theorem sim4:Sim Tryz.prog 4 sg4 d4:=zad mixd zam Tryz.func4 (zaa rfl) Tryz.call4 (Nat.le_of_ble_eq_true (by kernel_rfl)) (by kernel_rfl) plan4 _ fun xs y h=>(ev4 xs).trans h
noncomputable def d31 (n:Int) (seats:Int) (ties:Int) (code_:Int) (ballots:List uc16):Option (uc5 × uc11 × uc2 × Int) :=
 (d25 2 n seats 0 ties).bind fun r =>
 (d26 n ballots 16).bind fun r_1 =>
 (d27 n code_).bind fun r_2 =>
 (d22 r r_1 r_2).bind fun r_3 =>
 some (r,r_1,r_3.1,r_3.2)
noncomputable def d5 (p0:Int) (p1:Int) (p2:Int) (p3:Int) (p4:List uc16):Option Bool :=
 (d20 p4).bind fun r =>
 bif !r then
  (d21).bind fun r_1 =>
  some r_1
 else
  (d24 p0 7).bind fun r_2 =>
  (d31 (w (1+r_2)) p1 p2 p3 p4).bind fun r_3 =>
  letJ (fun ((t0,t4,t13,t63):Int × uc13 × uc2 × Bool) =>
    bif t63 then
     some false
    else
     (d33 0).bind fun r_5 =>
     (zae (β:=Unit ⊕ Bool) (fun ((t0_1,t4_1,t13_1,t15,t16):Int × uc13 × uc2 × uc9 × Int) =>
       bif (decide (t16 < (t13_1.2.2.2.2.1.length:Int))) then
        bif (decide (0≤t16) && decide (t16 < (t13_1.2.2.2.2.1.length:Int))) then
         (d34 (((((List.getD t13_1.2.2.2.2.1 (Int.toNat t16) ([],[],(false,[],[]),(false,[],[]),(false,[],[]),[],[],[])).2).2).2).1)).bind fun r_6 =>
         (zae (β:=(Int × uc13 × uc2 × uc9 × Int × uc4 × uc9 × uc9)) (fun ((t0_2,t4_2,t13_2,t15_1,t16_1,t17,t18,t19,t20):Int × uc13 × uc2 × uc9 × Int × uc4 × uc9 × uc9 × Int) =>
           bif (decide (t20 < (t17.1.length:Int))) then
            bif (decide (0≤t20) && decide (t20 < (t17.1.length:Int))) then
             (d34 (List.getD t17.1 (Int.toNat t20) (false,[],[]))).bind fun r_7 =>
             (d35 t19 r_7).bind fun r_8 =>
             some (Sum.inl (t0_2,t4_2,t13_2,t15_1,t16_1,t17,t18,r_8,(w (t20+1))))
            else none
           else
            some (Sum.inr (t0_2,t4_2,t13_2,t15_1,t16_1,t17,t18,t19))) (t0_1,t4_1,t13_1,t15,t16,(List.getD t13_1.2.2.2.2.1 (Int.toNat t16) ([],[],(false,[],[]),(false,[],[]),(false,[],[]),[],[],[])),r_6,r_6,0)).bind fun ((t0_3,t4_3,t13_3,t15_2,t16_2,t17_1,t18_1,t19_1):Int × uc13 × uc2 × uc9 × Int × uc4 × uc9 × uc9) =>
         letJ (fun ((t0_4,t4_4,t13_4,t15_3,t16_3,t18_2,t114):Int × uc13 × uc2 × uc9 × Int × uc9 × Bool) =>
           bif t114 then
            some (Sum.inr (Sum.inr false))
           else
            some (Sum.inl (t0_4,t4_4,t13_4,t18_2,(w (t16_3+1))))) fun j__1 =>
         bif !(!(decide ((t17_1.1.length:Int)=t0_3))) then
          (d33 (t4_3.length:Int)).bind fun r_9 =>
          (d36 t19_1 r_9).bind fun r_10 =>
          bif !(!(decide (r_10=0))) then
           (d36 t18_1 t15_2).bind fun r_11 =>
           j__1 (t0_3,t4_3,t13_3,t15_2,t16_2,t18_1,(decide (r_11 < 0)))
          else
           j__1 (t0_3,t4_3,t13_3,t15_2,t16_2,t18_1,true)
         else
          j__1 (t0_3,t4_3,t13_3,t15_2,t16_2,t18_1,true)
        else none
       else
        some (Sum.inr (Sum.inl ()))) (t0,t4,t13,r_5,0)).bind fun
     | Sum.inl _ =>
      (d21).bind fun r_12 =>
      some r_12
     | Sum.inr t10 =>
      some t10) fun j_ =>
  bif !(!(decide (r_3.2.2.2=0))) then
   bif !(decide ((r_3.2.2.1.2.2.2.2.1.length:Int) < 1)) then
    bif !(!(decide ((r_3.2.2.1.2.2.2.2.2.length:Int)=(bif (decide ((w (1+r_2)) < r_3.1.2.2.2.1)) then (w (1+r_2)) else r_3.1.2.2.2.1)))) then
     (d32 (w (1+r_2)) r_3.2.2.1.2.2.2.2.2).bind fun r_4 =>
     j_ ((w (1+r_2)),p4,r_3.2.2.1,!r_4)
    else
     j_ ((w (1+r_2)),p4,r_3.2.2.1,true)
   else
    j_ ((w (1+r_2)),p4,r_3.2.2.1,true)
  else
   j_ ((w (1+r_2)),p4,r_3.2.2.1,true)
noncomputable def d6 (p0:Int) (p1:Int) (p2:Int) (p3:Int) (p4:List uc16):Option Bool :=
 (d20 p4).bind fun r =>
 bif !r then
  (d21).bind fun r_1 =>
  some r_1
 else
  (d24 p0 7).bind fun r_2 =>
  (d31 (w (1+r_2)) p1 p2 p3 p4).bind fun r_3 =>
  letJ (fun ((t0,t13,t47):Int × uc2 × Bool) =>
    bif t47 then
     some false
    else
     (d33 1).bind fun r_4 =>
     (zae (β:=Unit ⊕ Bool) (fun ((t0_1,t13_1,t15,t16):Int × uc2 × uc9 × Int) =>
       bif (decide ((w (t16+1)) < (t13_1.2.2.2.2.1.length:Int))) then
        bif (decide (0≤t16) && decide (t16 < (t13_1.2.2.2.2.1.length:Int))) then
         bif (decide (0≤(w (t16+1))) && decide ((w (t16+1)) < (t13_1.2.2.2.2.1.length:Int))) then
          letJ (fun ((t0_2,t13_2,t15_1,t16_1,t17,t18,t101):Int × uc2 × uc9 × Int × uc4 × uc4 × Bool) =>
            bif t101 then
             some (Sum.inr (Sum.inr false))
            else
             (zae (β:=(Int × uc2 × uc9 × Int × Int) ⊕ Bool) (fun ((t0_3,t13_3,t15_2,t16_2,t17_1,t18_1,t19,t20):Int × uc2 × uc9 × Int × uc4 × uc4 × Int × Int) =>
               bif (decide (t20 < t0_3)) then
                letJ (fun ((t0_5,t13_5,t15_4,t16_4,t17_3,t18_3,t19_2,t20_2):Int × uc2 × uc9 × Int × uc4 × uc4 × Int × Int) =>
                  some (Sum.inl (t0_5,t13_5,t15_4,t16_4,t17_3,t18_3,t19_2,(w (t20_2+1))))) fun j__3 =>
                bif (decide (0≤t20) && decide (t20 < (t17_1.2.1.length:Int))) then
                 bif (decide (0≤t20) && decide (t20 < (t18_1.2.1.length:Int))) then
                  (d37 (List.getD t17_1.2.1 (Int.toNat t20) (false,[],[])) (List.getD t18_1.2.1 (Int.toNat t20) (false,[],[]))).bind fun r_6 =>
                  bif r_6 then
                   j__3 (t0_3,t13_3,t15_2,t16_2,t17_1,t18_1,t19,t20)
                  else
                   (d38 t17_1.2.2.2.2.2.2.1 [t20]).bind fun r_7 =>
                   bif r_7 then
                    bif (decide (0≤t20) && decide (t20 < (t18_1.2.1.length:Int))) then
                     (d39 0).bind fun r_8 =>
                     (d37 (List.getD t18_1.2.1 (Int.toNat t20) (false,[],[])) r_8).bind fun r_9 =>
                     bif !r_9 then
                      some (Sum.inr (Sum.inr false))
                     else
                      j__3 (t0_3,t13_3,t15_2,t16_2,t17_1,t18_1,(w (t19+1)),t20)
                    else none
                   else
                    bif (decide (0≤t20) && decide (t20 < (t17_1.1.length:Int))) then
                     (d34 (List.getD t17_1.1 (Int.toNat t20) (false,[],[]))).bind fun r_10 =>
                     bif (decide (0≤t20) && decide (t20 < (t18_1.2.1.length:Int))) then
                      (d34 (List.getD t18_1.2.1 (Int.toNat t20) (false,[],[]))).bind fun r_11 =>
                      (d41 r_11).bind fun r_12 =>
                      (d35 t15_2 r_12).bind fun r_13 =>
                      (d40 r_10 r_13).bind fun r_14 =>
                      letJ (fun ((t0_4,t13_4,t15_3,t16_3,t17_2,t18_2,t19_1,t20_1,t171):Int × uc2 × uc9 × Int × uc4 × uc4 × Int × Int × Bool) =>
                        bif t171 then
                         some (Sum.inr (Sum.inr false))
                        else
                         j__3 (t0_4,t13_4,t15_3,t16_3,t17_2,t18_2,t19_1,t20_1)) fun j__2 =>
                      bif !(!(decide ((t17_1.2.2.2.2.2.2.1.length:Int)=0))) then
                       (d34 t17_1.2.2.1).bind fun r_15 =>
                       (d36 r_14 r_15).bind fun r_16 =>
                       bif !(!(decide (r_16=0))) then
                        bif (decide (0≤t20) && decide (t20 < (t18_1.1.length:Int))) then
                         (d37 (List.getD t18_1.1 (Int.toNat t20) (false,[],[])) t17_1.2.2.1).bind fun r_17 =>
                         j__2 (t0_3,t13_3,t15_2,t16_2,t17_1,t18_1,(w (t19+1)),t20,!r_17)
                        else none
                       else
                        j__2 (t0_3,t13_3,t15_2,t16_2,t17_1,t18_1,(w (t19+1)),t20,true)
                      else
                       j__2 (t0_3,t13_3,t15_2,t16_2,t17_1,t18_1,(w (t19+1)),t20,true)
                     else none
                    else none
                 else none
                else none
               else
                some (Sum.inr (Sum.inl (t0_3,t13_3,t15_2,t16_2,t19)))) (t0_2,t13_2,t15_1,t16_1,t17,t18,0,0)).bind fun
             | Sum.inl (t0_6,t13_6,t15_5,t16_5,t19_3) =>
              bif !(decide (t19_3=1)) then
               some (Sum.inr (Sum.inr false))
              else
               some (Sum.inl (t0_6,t13_6,t15_5,(w (t16_5+1))))
             | Sum.inr t10 =>
              some (Sum.inr (Sum.inr t10))) fun j__1 =>
          bif !(!(decide (((((List.getD t13_1.2.2.2.2.1 (Int.toNat t16) ([],[],(false,[],[]),(false,[],[]),(false,[],[]),[],[],[])).2).1).length:Int)=t0_1))) then
           bif !(!(decide (((((List.getD t13_1.2.2.2.2.1 (Int.toNat (w (t16+1))) ([],[],(false,[],[]),(false,[],[]),(false,[],[]),[],[],[])).2).1).length:Int)=t0_1))) then
            bif !(!(decide ((((List.getD t13_1.2.2.2.2.1 (Int.toNat t16) ([],[],(false,[],[]),(false,[],[]),(false,[],[]),[],[],[])).1).length:Int)=t0_1))) then
             bif !(!(decide ((((List.getD t13_1.2.2.2.2.1 (Int.toNat (w (t16+1))) ([],[],(false,[],[]),(false,[],[]),(false,[],[]),[],[],[])).1).length:Int)=t0_1))) then
              (d37 ((((List.getD t13_1.2.2.2.2.1 (Int.toNat t16) ([],[],(false,[],[]),(false,[],[]),(false,[],[]),[],[],[])).2).2).1) ((((List.getD t13_1.2.2.2.2.1 (Int.toNat (w (t16+1))) ([],[],(false,[],[]),(false,[],[]),(false,[],[]),[],[],[])).2).2).1)).bind fun r_5 =>
              j__1 (t0_1,t13_1,t15,t16,(List.getD t13_1.2.2.2.2.1 (Int.toNat t16) ([],[],(false,[],[]),(false,[],[]),(false,[],[]),[],[],[])),(List.getD t13_1.2.2.2.2.1 (Int.toNat (w (t16+1))) ([],[],(false,[],[]),(false,[],[]),(false,[],[]),[],[],[])),!r_5)
             else
              j__1 (t0_1,t13_1,t15,t16,(List.getD t13_1.2.2.2.2.1 (Int.toNat t16) ([],[],(false,[],[]),(false,[],[]),(false,[],[]),[],[],[])),(List.getD t13_1.2.2.2.2.1 (Int.toNat (w (t16+1))) ([],[],(false,[],[]),(false,[],[]),(false,[],[]),[],[],[])),true)
            else
             j__1 (t0_1,t13_1,t15,t16,(List.getD t13_1.2.2.2.2.1 (Int.toNat t16) ([],[],(false,[],[]),(false,[],[]),(false,[],[]),[],[],[])),(List.getD t13_1.2.2.2.2.1 (Int.toNat (w (t16+1))) ([],[],(false,[],[]),(false,[],[]),(false,[],[]),[],[],[])),true)
           else
            j__1 (t0_1,t13_1,t15,t16,(List.getD t13_1.2.2.2.2.1 (Int.toNat t16) ([],[],(false,[],[]),(false,[],[]),(false,[],[]),[],[],[])),(List.getD t13_1.2.2.2.2.1 (Int.toNat (w (t16+1))) ([],[],(false,[],[]),(false,[],[]),(false,[],[]),[],[],[])),true)
          else
           j__1 (t0_1,t13_1,t15,t16,(List.getD t13_1.2.2.2.2.1 (Int.toNat t16) ([],[],(false,[],[]),(false,[],[]),(false,[],[]),[],[],[])),(List.getD t13_1.2.2.2.2.1 (Int.toNat (w (t16+1))) ([],[],(false,[],[]),(false,[],[]),(false,[],[]),[],[],[])),true)
         else none
        else none
       else
        some (Sum.inr (Sum.inl ()))) (t0,t13,r_4,0)).bind fun
     | Sum.inl _ =>
      (d21).bind fun r_18 =>
      some r_18
     | Sum.inr t10_1 =>
      some t10_1) fun j_ =>
  bif !(!(decide (r_3.2.2.2=0))) then
   j_ ((w (1+r_2)),r_3.2.2.1,(decide ((r_3.2.2.1.2.2.2.2.1.length:Int) < 1)))
  else
   j_ ((w (1+r_2)),r_3.2.2.1,true)
noncomputable def d43 (l:List Int) (to:List Int):Option uc16 :=
 (zae (β:=uc16) (fun ((l_1,to_1,out,i):uc16 × uc16 × uc16 × Int) =>
   bif (decide (i < (l_1.length:Int))) then
    bif (decide (0≤i) && decide (i < (l_1.length:Int))) then
     bif (decide (0≤(List.getD l_1 (Int.toNat i) 0)) && decide ((List.getD l_1 (Int.toNat i) 0) < (to_1.length:Int))) then
      bif (decide ((out.length:Int)+(([(List.getD to_1 (Int.toNat (List.getD l_1 (Int.toNat i) 0)) 0)]:List Int).length:Int)≤LIM)) then
       some (Sum.inl (l_1,to_1,(out++[(List.getD to_1 (Int.toNat (List.getD l_1 (Int.toNat i) 0)) 0)]),(w (i+1))))
      else none
     else none
    else none
   else
    some (Sum.inr out)) (l,to,[],0)).bind fun (out_1:List Int) =>
 some out_1
noncomputable def d42 (gs:List uc14) (to:List Int):Option uc11 :=
 (zae (β:=uc11) (fun ((gs_1,to_1,out,i):uc11 × uc16 × uc11 × Int) =>
   bif (decide (i < (gs_1.length:Int))) then
    bif (decide (0≤i) && decide (i < (gs_1.length:Int))) then
     (d43 ((List.getD gs_1 (Int.toNat i) ([],0)).1) to_1).bind fun r =>
     bif (decide (0≤i) && decide (i < (gs_1.length:Int))) then
      (d98 out r ((List.getD gs_1 (Int.toNat i) ([],0)).2)).bind fun r_1 =>
      some (Sum.inl (gs_1,to_1,r_1,(w (i+1))))
     else none
    else none
   else
    some (Sum.inr out)) (gs,to,[],0)).bind fun (out_1:List uc14) =>
 some out_1
noncomputable def d44 (l:List Int):Option uc16 :=
 (zae (β:=uc16) (fun ((l_1,out,x):uc16 × uc16 × Int) =>
   bif (decide (x < 12)) then
    letJ (fun ((l_2,out_1,x_1):uc16 × uc16 × Int) =>
      some (Sum.inl (l_2,out_1,(w (x_1+1))))) fun j_ =>
    (d49 l_1 x).bind fun r =>
    bif r then
     bif (decide ((out.length:Int)+(([x]:List Int).length:Int)≤LIM)) then
      j_ (l_1,(out++[x]),x)
     else none
    else
     j_ (l_1,out,x)
   else
    some (Sum.inr out)) (l,[],0)).bind fun (out_2:List Int) =>
 some out_2
noncomputable def d7 (p0:Int) (p1:Int) (p2:Int) (p3:Int) (p4:Int) (p5:List uc16):Option Bool :=
 (d20 p5).bind fun r =>
 bif !r then
  (d21).bind fun r_1 =>
  some r_1
 else
  (d24 p0 7).bind fun r_2 =>
  (d31 (w (1+r_2)) p1 p2 p3 p5).bind fun r_3 =>
  (d27 (w (1+r_2)) p4).bind fun r_4 =>
  (d42 r_3.2.1 r_4).bind fun r_5 =>
  (d27 (w (1+r_2)) p3).bind fun r_6 =>
  (d43 r_6 r_4).bind fun r_7 =>
  (d22 r_3.1 r_5 r_7).bind fun r_8 =>
  letJ (fun ((t15,t17,t18,t81):uc2 × uc16 × uc2 × Bool) =>
    bif t81 then
     some false
    else
     (d21).bind fun r_10 =>
     bif r_10 then
      (d44 t18.2.2.2.2.2).bind fun r_11 =>
      (d43 t15.2.2.2.2.2 t17).bind fun r_12 =>
      (d44 r_12).bind fun r_13 =>
      (d38 r_11 r_13).bind fun r_14 =>
      some r_14
     else
      some false) fun j_ =>
  bif !(!(decide (r_3.2.2.2=0))) then
   bif !(!(decide (r_8.2=0))) then
    (d32 (w (1+r_2)) r_3.2.2.1.2.2.2.2.2).bind fun r_9 =>
    bif !(!r_9) then
     bif !(!(decide ((r_3.2.2.1.2.2.2.2.1.length:Int)=(r_8.1.2.2.2.2.1.length:Int)))) then
      j_ (r_3.2.2.1,r_4,r_8.1,(decide ((r_3.2.2.1.2.2.2.2.1.length:Int)=0)))
     else
      j_ (r_3.2.2.1,r_4,r_8.1,true)
    else
     j_ (r_3.2.2.1,r_4,r_8.1,true)
   else
    j_ (r_3.2.2.1,r_4,r_8.1,true)
  else
   j_ (r_3.2.2.1,r_4,r_8.1,true)
noncomputable def d45 (n:Int) (bits:Int):Option uc16 :=
 (zae (β:=uc16) (fun ((n_1,bits_1,out,i):Int × Int × uc16 × Int) =>
   bif (decide (i < n_1)) then
    letJ (fun ((n_2,bits_2,out_1,i_1):Int × Int × uc16 × Int) =>
      some (Sum.inl (n_2,bits_2,out_1,(w (i_1+1))))) fun j_ =>
    (d24 bits_1 128).bind fun r =>
    bif (decide (0≤(wu64 i))) then
     bif (decide ((w ((BitVec.ofInt 64 (w (Int.fdiv r (2 ^ (min (Int.toNat (wu64 i)) 64)))) &&& BitVec.ofInt 64 1).toNat:Int))=1)) then
      bif (decide ((out.length:Int)+(([i]:List Int).length:Int)≤LIM)) then
       j_ (n_1,bits_1,(out++[i]),i)
      else none
     else
      j_ (n_1,bits_1,out,i)
    else none
   else
    some (Sum.inr out)) (n,bits,[],0)).bind fun (out_2:List Int) =>
 bif (decide ((out_2.length:Int)=0)) then
  some [0]
 else
  some out_2
noncomputable def d47 (n:Int) (set_:List Int) (ballots:List uc16):Option uc13 :=
 (zae (β:=uc13) (fun ((n_1,set__1,ballots_1,out,i):Int × uc16 × uc13 × uc13 × Int) =>
   bif (decide (i < (ballots_1.length:Int))) then
    (zae (β:=(Int × uc16 × uc13 × uc13 × Int × uc16)) (fun ((n_2,set__2,ballots_2,out_1,i_1,p,k):Int × uc16 × uc13 × uc13 × Int × uc16 × Int) =>
      bif (decide (0≤i_1) && decide (i_1 < (ballots_2.length:Int))) then
       bif (decide (k < ((List.getD ballots_2 (Int.toNat i_1) []).length:Int))) then
        letJ (fun ((n_3,set__3,ballots_3,out_2,i_2,p_1,k_1):Int × uc16 × uc13 × uc13 × Int × uc16 × Int) =>
          some (Sum.inl (n_3,set__3,ballots_3,out_2,i_2,p_1,(w (k_1+1))))) fun j_ =>
        bif (decide (0≤i_1) && decide (i_1 < (ballots_2.length:Int))) then
         bif (decide (0≤k) && decide (k < ((List.getD ballots_2 (Int.toNat i_1) []).length:Int))) then
          (d49 set__2 (List.getD (List.getD ballots_2 (Int.toNat i_1) []) (Int.toNat k) 0)).bind fun r =>
          bif r then
           bif (decide (0≤i_1) && decide (i_1 < (ballots_2.length:Int))) then
            bif (decide (0≤k) && decide (k < ((List.getD ballots_2 (Int.toNat i_1) []).length:Int))) then
             bif (decide ((p.length:Int)+(([(List.getD (List.getD ballots_2 (Int.toNat i_1) []) (Int.toNat k) 0)]:List Int).length:Int)≤LIM)) then
              j_ (n_2,set__2,ballots_2,out_1,i_1,(p++[(List.getD (List.getD ballots_2 (Int.toNat i_1) []) (Int.toNat k) 0)]),k)
             else none
            else none
           else none
          else
           j_ (n_2,set__2,ballots_2,out_1,i_1,p,k)
         else none
        else none
       else
        some (Sum.inr (n_2,set__2,ballots_2,out_1,i_1,p))
      else none) (n_1,set__1,ballots_1,out,i,[],0)).bind fun ((n_4,set__4,ballots_4,out_3,i_3,p_2):Int × uc16 × uc13 × uc13 × Int × uc16) =>
    bif (decide ((p_2.length:Int)+(set__4.length:Int)≤LIM)) then
     bif (decide (0≤i_3) && decide (i_3 < (ballots_4.length:Int))) then
      bif (decide (((p_2++set__4).length:Int)+((List.getD ballots_4 (Int.toNat i_3) []).length:Int)≤LIM)) then
       (d99 n_4 ((p_2++set__4)++(List.getD ballots_4 (Int.toNat i_3) []))).bind fun r_1 =>
       bif (decide ((out_3.length:Int)+(([r_1]:List uc16).length:Int)≤LIM)) then
        some (Sum.inl (n_4,set__4,ballots_4,(out_3++[r_1]),(w (i_3+1))))
       else none
      else none
     else none
    else none
   else
    some (Sum.inr out)) (n,set_,ballots,[],0)).bind fun (out_4:List uc16) =>
 some out_4
end Go.Proofs.YtmipjomnjkmdbaaGreat
open Go Go.Proofs Go.X
namespace Go.Proofs.YtmipjomnjkmdbaaGreat
set_option linter.unusedVariables false
set_option maxRecDepth 100000
abbrev ud3:=(List (Bool × (List Int × List Int)) × (List (Bool × (List Int × List Int)) × ((Bool × (List Int × List Int)) × ((Bool × (List Int × List Int)) × ((Bool × (List Int × List Int)) × (List Int × (List Int × List Int)))))))
abbrev ud1:=(Int × (Int × (Int × (Int × (List ud3 × List Int)))))
abbrev ud0:=(ud1 × Int)
abbrev ud2:=(ud3 × Int)
abbrev ud6:=(List (Bool × (List Int × List Int)))
abbrev ud7:=(List (List Int × Int))
abbrev ud9:=(List Bool)
abbrev ud10:=(List Int)
abbrev ud5:=(List Int × (List ud10 × (Int × (Int × (Int × (Int × (Int × (Int × Int))))))))
abbrev ud4:=(ud5 × (List (List Int × Int) × (List Int × (List Bool × List ud6))))
abbrev ud8:=(List ud10)
abbrev ud11:=Int × Int × ud5 × ud10 × ud8 × Int × Int × Int
noncomputable def d8 (p0:Int) (p1:Int) (p2:Int) (p3:Int) (p4:List ud10) (p5:List ud10) (p6:Int):Option Bool :=
 letJ (fun ((t0,t1,t2,t3,t4,t5,t6,t35):Int × Int × Int × Int × ud8 × ud8 × Int × Bool) =>
   bif t35 then
    (d21).bind fun r_2 =>
    some r_2
   else
    (d24 t0 7).bind fun r_3 =>
    (d25 2 (w (1+r_3)) t1 0 t2).bind fun r_4 =>
    (d45 (w (1+r_3)) t6).bind fun r_5 =>
    (d46 (w (1+r_3)) t4 8).bind fun r_6 =>
    (d46 (w (1+r_3)) t5 8).bind fun r_7 =>
    (d47 (w (1+r_3)) r_5 r_7).bind fun r_8 =>
    bif (decide ((r_6.length:Int)+(r_8.length:Int)≤LIM)) then
     (zae (β:=(Int × Int × ud5 × ud10 × ud8 × Int × Int)) (fun ((t0_1,t3_1,t15,t16,t17,t18,t19,t20):ud11) =>
       bif (decide (t20 < (t17.length:Int))) then
        letJ (fun ((t0_4,t3_4,t15_3,t16_3,t17_3,t18_3,t19_3,t20_3):ud11) =>
          some (Sum.inl (t0_4,t3_4,t15_3,t16_3,t17_3,t18_3,t19_3,(w (t20_3+1))))) fun j__3 =>
        letJ (fun ((t0_2,t3_2,t15_1,t16_1,t17_1,t18_1,t19_1,t20_1):ud11) =>
          letJ (fun ((t0_3,t3_3,t15_2,t16_2,t17_2,t18_2,t19_2,t20_2,t91):Int × Int × ud5 × ud10 × ud8 × Int × Int × Int × Bool) =>
            bif t91 then
             j__3 (t0_3,t3_3,t15_2,t16_2,t17_2,(w (t18_2+1)),t19_2,t20_2)
            else
             j__3 (t0_3,t3_3,t15_2,t16_2,t17_2,t18_2,t19_2,t20_2)) fun j__2 =>
          bif (decide (0≤t20_1) && decide (t20_1 < (t17_1.length:Int))) then
           bif (decide ((t16_1.length:Int)≤((List.getD t17_1 (Int.toNat t20_1) []).length:Int))) then
            bif (decide (0≤t20_1) && decide (t20_1 < (t17_1.length:Int))) then
             bif (zdg 0 (t16_1.length:Int) (List.getD t17_1 (Int.toNat t20_1) []).length) then
              (d44 (List.drop 0 (List.take (Int.toNat (t16_1.length:Int)) (List.getD t17_1 (Int.toNat t20_1) [])))).bind fun r_9 =>
              (d38 r_9 t16_1).bind fun r_10 =>
              j__2 (t0_2,t3_2,t15_1,t16_1,t17_1,t18_1,t19_1,t20_1,r_10)
             else none
            else none
           else
            j__2 (t0_2,t3_2,t15_1,t16_1,t17_1,t18_1,t19_1,t20_1,false)
          else none) fun j__1 =>
        bif (decide (0≤t20) && decide (t20 < (t17.length:Int))) then
         bif (decide (0 < ((List.getD t17 (Int.toNat t20) []).length:Int))) then
          j__1 (t0_1,t3_1,t15,t16,t17,t18,(w (t19+1)),t20)
         else
          j__1 (t0_1,t3_1,t15,t16,t17,t18,t19,t20)
        else none
       else
        some (Sum.inr (t0_1,t3_1,t15,t16,t17,t18,t19))) ((w (1+r_3)),t3,r_4,r_5,(r_6++r_8),0,0,0)).bind fun ((t0_5,t3_5,t15_4,t16_4,t17_4,t18_4,t19_4):Int × Int × ud5 × ud10 × ud8 × Int × Int) =>
     (d48 t0_5 t17_4).bind fun r_11 =>
     (d27 t0_5 t3_5).bind fun r_12 =>
     (d22 t15_4 r_11.1 r_12).bind fun r_13 =>
     letJ (fun ((t0_6,t15_5,t16_5,t18_5,t19_5,t23,t117):Int × ud5 × ud10 × Int × Int × ud1 × Bool) =>
       bif t117 then
        some false
       else
        (zae (β:=(Int × ud5 × ud10 × Int × Int × ud1 × Int)) (fun ((t0_7,t15_6,t16_6,t18_6,t19_6,t23_1,t25,t26):Int × ud5 × ud10 × Int × Int × ud1 × Int × Int) =>
          bif (decide (t26 < (t23_1.2.2.2.2.2.length:Int))) then
           letJ (fun ((t0_8,t15_7,t16_7,t18_7,t19_7,t23_2,t25_1,t26_1):Int × ud5 × ud10 × Int × Int × ud1 × Int × Int) =>
             some (Sum.inl (t0_8,t15_7,t16_7,t18_7,t19_7,t23_2,t25_1,(w (t26_1+1))))) fun j__5 =>
           bif (decide (0≤t26) && decide (t26 < (t23_1.2.2.2.2.2.length:Int))) then
            (d49 t16_6 (List.getD t23_1.2.2.2.2.2 (Int.toNat t26) 0)).bind fun r_15 =>
            bif r_15 then
             j__5 (t0_7,t15_6,t16_6,t18_6,t19_6,t23_1,(w (t25+1)),t26)
            else
             j__5 (t0_7,t15_6,t16_6,t18_6,t19_6,t23_1,t25,t26)
           else none
          else
           some (Sum.inr (t0_7,t15_6,t16_6,t18_6,t19_6,t23_1,t25))) (t0_6,t15_5,t16_5,t18_5,t19_5,t23,0,0)).bind fun ((t0_9,t15_8,t16_8,t18_8,t19_8,t23_3,t25_2):Int × ud5 × ud10 × Int × Int × ud1 × Int) =>
        bif (!decide ((w (t15_8.2.2.2.1+1))=0)) then
         (d21).bind fun r_16 =>
         bif r_16 then
          bif (decide ((t23_3.2.2.2.2.2.length:Int)=(bif (decide (t0_9 < t15_8.2.2.2.1)) then t0_9 else t15_8.2.2.2.1))) then
           bif (!decide ((w ((w (Int.tdiv t19_8 (w (t15_8.2.2.2.1+1))))+1))=0)) then
            some (decide ((bif (decide ((t16_8.length:Int) < (w (Int.tdiv t18_8 (w ((w (Int.tdiv t19_8 (w (t15_8.2.2.2.1+1))))+1)))))) then (t16_8.length:Int) else (w (Int.tdiv t18_8 (w ((w (Int.tdiv t19_8 (w (t15_8.2.2.2.1+1))))+1)))))≤t25_2))
           else none
          else
           some false
         else
          some false
        else none) fun j__4 =>
     bif !(!(decide (r_13.2=0))) then
      (d32 t0_5 r_13.1.2.2.2.2.2).bind fun r_14 =>
      j__4 (t0_5,t15_4,t16_4,t18_4,t19_4,r_13.1,!r_14)
     else
      j__4 (t0_5,t15_4,t16_4,t18_4,t19_4,r_13.1,true)
    else none) fun j_ =>
 (d20 p4).bind fun r =>
 bif !(!r) then
  (d20 p5).bind fun r_1 =>
  j_ (p0,p1,p2,p3,p4,p5,p6,!r_1)
 else
  j_ (p0,p1,p2,p3,p4,p5,p6,true)
noncomputable def d51 (n:Int):Option ud9 :=
 bif (decide (n=n) && (decide (0≤n) && decide (n≤LIM))) then
  (zae (β:=ud9) (fun ((n_1,out,i):Int × ud9 × Int) =>
    bif (decide (i < n_1)) then
     bif (decide (0≤i) && decide (i < (out.length:Int))) then
      some (Sum.inl (n_1,(List.set out (Int.toNat i) true),(w (i+1))))
     else none
    else
     some (Sum.inr out)) (n,(List.replicate (Int.toNat n) false),0)).bind fun (out_1:List Bool) =>
  some out_1
 else none
noncomputable def d103 (remain:List Bool) (i:Int):Option Bool :=
 bif (decide (i < (remain.length:Int))) then
  bif (decide (0≤i) && decide (i < (remain.length:Int))) then
   some (List.getD remain (Int.toNat i) false)
  else none
 else
  some false
noncomputable def d102 (p:Int) (p1:List Bool):Option Bool :=
 (d103 p1 p).bind fun r =>
 some r
noncomputable def d50 (gs:List (List Int × Int)) (remain:List Bool):Option (ud10 × Int) :=
 letJ (fun ((gs_1,remain_1,exhausted,t16):ud7 × ud9 × Int × Bool) =>
   bif t16 then
    some ([],0)
   else
    bif (decide ((remain_1.length:Int)=(remain_1.length:Int)) && (decide (0≤(remain_1.length:Int)) && decide ((remain_1.length:Int)≤LIM))) then
     (zae (β:=(ud10 × Int)) (fun ((remain_2,votes,exhausted_1,t20,t21,t22):ud9 × ud10 × Int × ud7 × Int × Int) =>
       bif (decide (t22 < t21)) then
        letJ (fun ((remain_3,votes_1,exhausted_2,t20_1,t21_1,t22_1):ud9 × ud10 × Int × ud7 × Int × Int) =>
          some (Sum.inl (remain_3,votes_1,exhausted_2,t20_1,t21_1,(w (t22_1+1))))) fun j__1 =>
        bif (decide (0≤t22) && decide (t22 < (t20.length:Int))) then
         (d101 ((List.getD t20 (Int.toNat t22) ([],0)).1) (fun a=>d102 a remain_2)).bind fun r_1 =>
         bif (decide (r_1 < 0)) then
          j__1 (remain_2,votes,(w (exhausted_1+((List.getD t20 (Int.toNat t22) ([],0)).2))),t20,t21,t22)
         else
          bif (decide (0≤r_1) && decide (r_1 < (((List.getD t20 (Int.toNat t22) ([],0)).1).length:Int))) then
           bif (decide (0≤(List.getD ((List.getD t20 (Int.toNat t22) ([],0)).1) (Int.toNat r_1) 0)) && decide ((List.getD ((List.getD t20 (Int.toNat t22) ([],0)).1) (Int.toNat r_1) 0) < (votes.length:Int))) then
            bif (decide (0≤(List.getD ((List.getD t20 (Int.toNat t22) ([],0)).1) (Int.toNat r_1) 0)) && decide ((List.getD ((List.getD t20 (Int.toNat t22) ([],0)).1) (Int.toNat r_1) 0) < (votes.length:Int))) then
             j__1 (remain_2,(List.set votes (Int.toNat (List.getD ((List.getD t20 (Int.toNat t22) ([],0)).1) (Int.toNat r_1) 0)) (w ((List.getD votes (Int.toNat (List.getD ((List.getD t20 (Int.toNat t22) ([],0)).1) (Int.toNat r_1) 0)) 0)+((List.getD t20 (Int.toNat t22) ([],0)).2)))),exhausted_1,t20,t21,t22)
            else none
           else none
          else none
        else none
       else
        some (Sum.inr (votes,exhausted_1))) (remain_1,(List.replicate (Int.toNat (remain_1.length:Int)) 0),exhausted,gs_1,(gs_1.length:Int),0)).bind fun ((votes_2,exhausted_3):ud10 × Int) =>
     some (votes_2,exhausted_3)
    else none) fun j_ =>
 (d100 gs).bind fun r =>
 bif !(!r) then
  j_ (gs,remain,0,(decide (7 < (remain.length:Int))))
 else
  j_ (gs,remain,0,true)
noncomputable def d9 (p0:Int) (p1:Int) (p2:Int) (p3:Int) (p4:List ud10):Option Bool :=
 (d20 p4).bind fun r =>
 bif !r then
  (d21).bind fun r_1 =>
  some r_1
 else
  (d24 p0 7).bind fun r_2 =>
  (d31 (w (1+r_2)) p1 p2 p3 p4).bind fun r_3 =>
  (d51 (w (1+r_2))).bind fun r_4 =>
  (d50 r_3.2.1 r_4).bind fun r_5 =>
  letJ (fun ((t0,t11,t12,t13,t15,t56):Int × ud5 × ud7 × ud1 × ud10 × Bool) =>
    bif t56 then
     some false
    else
     (zae (β:=Unit ⊕ Bool) (fun ((t0_1,t11_1,t12_1,t13_1,t15_1,t17):Int × ud5 × ud7 × ud1 × ud10 × Int) =>
       bif (decide (t17 < t0_1)) then
        letJ (fun ((t0_2,t11_2,t12_2,t13_2,t15_2,t17_1,t82):Int × ud5 × ud7 × ud1 × ud10 × Int × Bool) =>
          bif t82 then
           some (Sum.inr (Sum.inr false))
          else
           some (Sum.inl (t0_2,t11_2,t12_2,t13_2,t15_2,(w (t17_1+1))))) fun j__1 =>
        bif (decide (0≤t17) && decide (t17 < (t15_1.length:Int))) then
         (d52 t12_1).bind fun r_6 =>
         bif (decide (r_6 < (w ((w (t11_1.2.2.2.1+1)) * (List.getD t15_1 (Int.toNat t17) 0))))) then
          bif (decide (0≤0) && decide (0 < (t13_1.2.2.2.2.1.length:Int))) then
           (d49 (((((((List.getD t13_1.2.2.2.2.1 0 ([],[],(false,[],[]),(false,[],[]),(false,[],[]),[],[],[])).2).2).2).2).2).1) t17).bind fun r_7 =>
           j__1 (t0_1,t11_1,t12_1,t13_1,t15_1,t17,!r_7)
          else none
         else
          j__1 (t0_1,t11_1,t12_1,t13_1,t15_1,t17,false)
        else none
       else
        some (Sum.inr (Sum.inl ()))) (t0,t11,t12,t13,t15,0)).bind fun
     | Sum.inl _ =>
      (d21).bind fun r_8 =>
      some r_8
     | Sum.inr t10 =>
      some t10) fun j_ =>
  bif !(!(decide (r_3.2.2.2=0))) then
   bif !(decide ((r_3.2.2.1.2.2.2.2.1.length:Int) < 1)) then
    j_ ((w (1+r_2)),r_3.1,r_3.2.1,r_3.2.2.1,r_5.1,!(decide ((r_5.1.length:Int)=(w (1+r_2)))))
   else
    j_ ((w (1+r_2)),r_3.1,r_3.2.1,r_3.2.2.1,r_5.1,true)
  else
   j_ ((w (1+r_2)),r_3.1,r_3.2.1,r_3.2.2.1,r_5.1,true)
noncomputable def d106 (c:ud5) (gs:List (List Int × Int)) (lots:List Int):Option ud4 :=
 bif (decide ((c.2.1.length:Int)=(c.2.1.length:Int)) && (decide (0≤(c.2.1.length:Int)) && decide ((c.2.1.length:Int)≤LIM))) then
  (zae (β:=(ud7 × ud10 × ud5 × ud9)) (fun ((gs_1,lots_1,c_1,remain,t14,t15):ud7 × ud10 × ud5 × ud9 × Int × Int) =>
    bif (decide (t15 < t14)) then
     bif (decide (0≤t15) && decide (t15 < (remain.length:Int))) then
      some (Sum.inl (gs_1,lots_1,c_1,(List.set remain (Int.toNat t15) true),t14,(w (t15+1))))
     else none
    else
     some (Sum.inr (gs_1,lots_1,c_1,remain))) (gs,lots,c,(List.replicate (Int.toNat (c.2.1.length:Int)) false),((List.replicate (Int.toNat (c.2.1.length:Int)) false).length:Int),0)).bind fun ((gs_2,lots_2,c_2,remain_1):ud7 × ud10 × ud5 × ud9) =>
  some (c_2,gs_2,lots_2,remain_1,[])
 else none
noncomputable def d154 (l:List Int):Option ud6 :=
 (zae (β:=ud6) (fun ((out,t6,t7,t8):ud6 × ud10 × Int × Int) =>
   bif (decide (t8 < t7)) then
    bif (decide (0≤t8) && decide (t8 < (t6.length:Int))) then
     (d68 (List.getD t6 (Int.toNat t8) 0)).bind fun r =>
     bif (decide ((out.length:Int)+(([r]:List (Bool × (List Int × List Int))).length:Int)≤LIM)) then
      some (Sum.inl ((out++[r]),t6,t7,(w (t8+1))))
     else none
    else none
   else
    some (Sum.inr out)) ([],l,(l.length:Int),0)).bind fun (out_1:List (Bool × (List Int × List Int))) =>
 some out_1
noncomputable def d107 (k:ud4) (votes:List Int) (exhausted:Int):Option ud2 :=
 (zae (β:=(ud4 × ud10 × Int × ud3 × Int)) (fun ((k_1,votes_1,exhausted_1,r,sum,t14,t15,t16):ud4 × ud10 × Int × ud3 × Int × ud10 × Int × Int) =>
   bif (decide (t16 < t15)) then
    bif (decide (0≤t16) && decide (t16 < (t14.length:Int))) then
     some (Sum.inl (k_1,votes_1,exhausted_1,r,(w (sum+(List.getD t14 (Int.toNat t16) 0))),t14,t15,(w (t16+1))))
    else none
   else
    some (Sum.inr (k_1,votes_1,exhausted_1,r,sum))) (k,votes,exhausted,([],[],(false,[],[]),(false,[],[]),(false,[],[]),[],[],[]),0,votes,(votes.length:Int),0)).bind fun ((k_2,votes_2,exhausted_2,r_1,sum_1):ud4 × ud10 × Int × ud3 × Int) =>
 (d154 votes_2).bind fun r_2 =>
 (d68 (w ((w (Int.tdiv sum_1 2))+1))).bind fun r_3 =>
 (d68 exhausted_2).bind fun r_4 =>
 (d68 0).bind fun r_5 =>
 (zae (β:=ud2) (fun ((r_6,quota,t38,t39,t40):ud3 × Int × ud9 × Int × Int) =>
   bif (decide (t40 < t39)) then
    bif (decide (0≤t40) && decide (t40 < (t38.length:Int))) then
     letJ (fun ((r_7,quota_1,keep,t38_1,t39_1,t40_1):ud3 × Int × Int × ud9 × Int × Int) =>
       (d68 keep).bind fun r_8 =>
       bif (decide ((r_7.2.1.length:Int)+(([r_8]:List (Bool × (List Int × List Int))).length:Int)≤LIM)) then
        some (Sum.inl ((r_7.1,(r_7.2.1++[r_8]),r_7.2.2),quota_1,t38_1,t39_1,(w (t40_1+1))))
       else none) fun j_ =>
     bif (List.getD t38 (Int.toNat t40) false) then
      j_ (r_6,quota,1,t38,t39,t40)
     else
      j_ (r_6,quota,0,t38,t39,t40)
    else none
   else
    some (Sum.inr (r_6,quota))) ((r_2,[],r_3,r_4,r_5,[],[],[]),(w ((w (Int.tdiv sum_1 2))+1)),k_2.2.2.2.1,(k_2.2.2.2.1.length:Int),0)).bind fun ((r_9,quota_2):ud3 × Int) =>
 some (r_9,quota_2)
noncomputable def d108 (k:ud4):Option ud10 :=
 (zae (β:=ud10) (fun ((out,t9,t10,t11):ud10 × ud9 × Int × Int) =>
   bif (decide (t11 < t10)) then
    letJ (fun ((out_1,t9_1,t10_1,t11_1):ud10 × ud9 × Int × Int) =>
      some (Sum.inl (out_1,t9_1,t10_1,(w (t11_1+1))))) fun j_ =>
    bif (decide (0≤t11) && decide (t11 < (t9.length:Int))) then
     bif (List.getD t9 (Int.toNat t11) false) then
      bif (decide ((out.length:Int)+(([t11]:List Int).length:Int)≤LIM)) then
       j_ ((out++[t11]),t9,t10,t11)
      else none
     else
      j_ (out,t9,t10,t11)
    else none
   else
    some (Sum.inr out)) ([],k.2.2.2.1,(k.2.2.2.1.length:Int),0)).bind fun (out_2:List Int) =>
 some out_2
noncomputable def d109 (c:Int) (p1:List Int) (p2:Int):Option Bool :=
 bif (decide (0≤c) && decide (c < (p1.length:Int))) then
  some (decide (p2≤(List.getD p1 (Int.toNat c) 0)))
 else none
noncomputable def d110 (p0:ud4) (p1:List Int):Option (Int × ud10 × ud4) :=
 (d108 p0).bind fun r =>
 (zae (β:=(ud4 × ud10 × ud10)) (fun ((t0,t1,t5,t9,t10,t11):ud4 × ud10 × ud10 × ud10 × Int × Int) =>
   bif (decide (t11 < t10)) then
    letJ (fun ((t0_2,t1_2,t5_2,t9_2,t10_2,t11_2):ud4 × ud10 × ud10 × ud10 × Int × Int) =>
      some (Sum.inl (t0_2,t1_2,t5_2,t9_2,t10_2,(w (t11_2+1))))) fun j__1 =>
    bif (decide (0≤t11) && decide (t11 < (t9.length:Int))) then
     letJ (fun ((t0_1,t1_1,t5_1,t7,t9_1,t10_1,t11_1,t15):ud4 × ud10 × ud10 × Int × ud10 × Int × Int × Bool) =>
       bif t15 then
        j__1 (t0_1,t1_1,[t7],t9_1,t10_1,t11_1)
       else
        bif (decide (0≤t7) && decide (t7 < (t1_1.length:Int))) then
         bif (decide (0≤0) && decide (0 < (t5_1.length:Int))) then
          bif (decide (0≤(List.getD t5_1 0 0)) && decide ((List.getD t5_1 0 0) < (t1_1.length:Int))) then
           bif (decide ((List.getD t1_1 (Int.toNat t7) 0)=(List.getD t1_1 (Int.toNat (List.getD t5_1 0 0)) 0))) then
            bif (decide ((t5_1.length:Int)+(([t7]:List Int).length:Int)≤LIM)) then
             j__1 (t0_1,t1_1,(t5_1++[t7]),t9_1,t10_1,t11_1)
            else none
           else
            j__1 (t0_1,t1_1,t5_1,t9_1,t10_1,t11_1)
          else none
         else none
        else none) fun j_ =>
     bif !(decide ((t5.length:Int)=0)) then
      bif (decide (0≤(List.getD t9 (Int.toNat t11) 0)) && decide ((List.getD t9 (Int.toNat t11) 0) < (t1.length:Int))) then
       bif (decide (0≤0) && decide (0 < (t5.length:Int))) then
        bif (decide (0≤(List.getD t5 0 0)) && decide ((List.getD t5 0 0) < (t1.length:Int))) then
         j_ (t0,t1,t5,(List.getD t9 (Int.toNat t11) 0),t9,t10,t11,(decide ((List.getD t1 (Int.toNat (List.getD t9 (Int.toNat t11) 0)) 0) < (List.getD t1 (Int.toNat (List.getD t5 0 0)) 0))))
        else none
       else none
      else none
     else
      j_ (t0,t1,t5,(List.getD t9 (Int.toNat t11) 0),t9,t10,t11,true)
    else none
   else
    some (Sum.inr (t0,t1,t5))) (p0,p1,[],r,(r.length:Int),0)).bind fun ((t0_3,t1_3,t5_3):ud4 × ud10 × ud10) =>
 bif (decide (0≤0) && decide (0 < (t5_3.length:Int))) then
  letJ (fun ((t0_4,t1_4,t4,t5_4):ud4 × ud10 × Int × ud10) =>
    bif (decide (0≤t4) && decide (t4 < (t0_4.2.2.2.1.length:Int))) then
     (d154 t1_4).bind fun r_2 =>
     bif (decide ((t0_4.2.2.2.2.length:Int)+(([r_2]:List ud6).length:Int)≤LIM)) then
      some (t4,t5_4,(t0_4.1,t0_4.2.1,t0_4.2.2.1,(List.set t0_4.2.2.2.1 (Int.toNat t4) false),(t0_4.2.2.2.2++[r_2])))
     else none
    else none) fun j__2 =>
  bif (decide (1 < (t5_3.length:Int))) then
   (d155 t0_3.1.2.2.2.2.2.2.1 t0_3.2.2.2.2 t5_3 t0_3.2.2.1 true).bind fun r_1 =>
   j__2 ((t0_3.1,t0_3.2.1,t0_3.2.2.1,t0_3.2.2.2.1,r_1.2.2),t1_3,r_1.1,t5_3)
  else
   j__2 (t0_3,t1_3,(List.getD t5_3 0 0),[])
 else none
noncomputable def d53 (p0:ud5) (p1:List (List Int × Int)) (p2:List Int):Option ud0 :=
 (d66 1 p0 p1 p2).bind fun r =>
 bif !(decide (r=0)) then
  some ((0,0,0,0,[],[]),r)
 else
  (d106 p0 p1 p2).bind fun r_1 =>
  (zae (β:=ud0) (fun ((t1,t6,t9,t10):ud7 × ud1 × ud4 × ud1) =>
    (d50 t1 t9.2.2.2.1).bind fun r_2 =>
    (d107 t9 r_2.1 r_2.2).bind fun r_3 =>
    (d108 t9).bind fun r_4 =>
    (d101 r_4 (fun a=>d109 a r_2.1 r_3.2)).bind fun r_5 =>
    letJ (fun ((t1_1,t6_1,t9_1,t10_1,t11,t13,t15,t16):ud7 × ud1 × ud4 × ud1 × ud10 × ud3 × ud10 × Int) =>
      bif (decide (0≤t16)) then
       bif (decide (0≤t16) && decide (t16 < (t15.length:Int))) then
        bif (decide ((t10_1.2.2.2.2.1.length:Int)+(([(t13.1,t13.2.1,t13.2.2.1,t13.2.2.2.1,t13.2.2.2.2.1,[(List.getD t15 (Int.toNat t16) 0)],t13.2.2.2.2.2.2)]:List ud3).length:Int)≤LIM)) then
         bif (decide (0≤t16) && decide (t16 < (t15.length:Int))) then
          some (Sum.inr ((t10_1.1,t10_1.2.1,t10_1.2.2.1,t10_1.2.2.2.1,(t10_1.2.2.2.2.1++[(t13.1,t13.2.1,t13.2.2.1,t13.2.2.2.1,t13.2.2.2.2.1,[(List.getD t15 (Int.toNat t16) 0)],t13.2.2.2.2.2.2)]),[(List.getD t15 (Int.toNat t16) 0)]),0))
         else none
        else none
       else none
      else
       (d110 t9_1 t11).bind fun r_6 =>
       bif (decide ((t10_1.2.2.2.2.1.length:Int)+(([(t13.1,t13.2.1,t13.2.2.1,t13.2.2.2.1,t13.2.2.2.2.1,t13.2.2.2.2.2.1,[r_6.1],r_6.2.1)]:List ud3).length:Int)≤LIM)) then
        some (Sum.inl (t1_1,t6_1,r_6.2.2,(t10_1.1,t10_1.2.1,t10_1.2.2.1,t10_1.2.2.2.1,(t10_1.2.2.2.2.1++[(t13.1,t13.2.1,t13.2.2.1,t13.2.2.2.1,t13.2.2.2.2.1,t13.2.2.2.2.2.1,[r_6.1],r_6.2.1)]),t10_1.2.2.2.2.2)))
       else none) fun j_ =>
    bif (decide ((r_4.length:Int)=1)) then
     j_ (t1,t6,t9,t10,r_2.1,r_3.1,r_4,0)
    else
     j_ (t1,t6,t9,t10,r_2.1,r_3.1,r_4,r_5)) (p1,(0,0,0,0,[],[]),r_1,(1,1,0,(p0.2.1.length:Int),[],[]))).bind fun ((t6_2,t7):ud1 × Int) =>
  some (t6_2,t7)
noncomputable def d10 (p0:Int) (p1:Int) (p2:Int) (p3:List ud10):Option Bool :=
 (d20 p3).bind fun r =>
 bif !r then
  (d21).bind fun r_1 =>
  some r_1
 else
  (d24 p0 7).bind fun r_2 =>
  (d31 (w (1+r_2)) 0 p1 p2 p3).bind fun r_3 =>
  (d25 0 (w (1+r_2)) 0 0 p1).bind fun r_4 =>
  (d27 (w (1+r_2)) p2).bind fun r_5 =>
  (d53 r_4 r_3.2.1 r_5).bind fun r_6 =>
  (d21).bind fun r_7 =>
  bif r_7 then
   bif (decide (r_3.2.2.2=0)) then
    bif (decide (r_6.2=0)) then
     bif (decide ((r_3.2.2.1.2.2.2.2.2.length:Int)=1)) then
      (d38 r_3.2.2.1.2.2.2.2.2 r_6.1.2.2.2.2.2).bind fun r_8 =>
      some r_8
     else
      some false
    else
     some false
   else
    some false
  else
   some false
end Go.Proofs.YtmipjomnjkmdbaaGreat
set_option linter.unusedSimpArgs false
set_option linter.unusedVariables false
open Go Go.Proofs Go.X
namespace Go.Proofs.YtmipjomnjkmdbaaGreat
theorem w_id {n:Int} (h0:-9223372036854775808≤n) (h1:n≤9223372036854775807):w n=n:=IntWalk.i64_in n ⟨h0,h1⟩
theorem wt_int {n:Int} (h:WT (.int .i64) n):-9223372036854775808≤n∧n≤9223372036854775807:=by
  have h':IntKind.i64.wrap n=n:=h
  rw [IntKind.wrap_i64] at h'
  omega
theorem wt_len {l:List Int} (h:WT (.slice (.int .i64)) l):l.length≤281474976710656:=h.1
theorem while_up {α β:Type} {f:α→Option (α ⊕ β)} (st:Nat→α) {b:β}:∀ (n:Nat),(∀ i,i < n→f (st i)=some (.inl (st (i+1))))→f (st n)=some (.inr b)→zae f (st 0)=some b:=by
  intro n hs he
  have key:∀ k,k≤n→zae f (st (n - k))=some b:=by
    intro k
    induction k with
    | zero=>intro _; exact zdz he
    | succ k ih =>
      intro hk
      have h1:=hs (n - (k+1)) (by omega)
      rw [show n - (k+1)+1=n - k by omega] at h1
      exact zhx h1 (ih (by omega))
  have:=key n (Nat.le_refl n)
  rwa [Nat.sub_self] at this
theorem zac {α β γ:Type} {f:α→Option (α ⊕ β)} {k:β→Option γ} {a0:α} {b:β} {r:Option γ} (st:Nat→α) (n:Nat) (h0:st 0=a0) (hs:∀ i,i < n→f (st i)=some (.inl (st (i+1)))) (he:f (st n)=some (.inr b)) (hk:k b=r):(zae f a0).bind k=r:=by
  rw [← h0,while_up st n hs he]
  exact hk
def zas (p:Int→Bool):List Int→Nat
  | []=>0
  | x::l=>if p x then 0 else zas p l+1
theorem zey (p:Int→Bool):∀ l,zas p l≤l.length
  | []=>Nat.le_refl 0
  | x::l=>by
    unfold zas
    split
    · exact Nat.zero_le _
    · have:=zey p l; simp; omega
theorem zcq (p:Int→Bool):∀ l (i:Nat),i < zas p l→p (l.getD i 0)=false
  | [],i,h=>by simp [zas] at h
  | x::l,i,h=>by
    unfold zas at h
    split at h
    · omega
    · rename_i hx
      cases i with
      | zero=>simpa using hx
      | succ i =>
        have:=zcq p l i (by omega)
        simpa using this
theorem zez (p:Int→Bool):∀ l,zas p l < l.length→p (l.getD (zas p l) 0)=true
  | [],h=>by simp at h
  | x::l,h=>by
    unfold zas at h ⊢
    split at h
    · rename_i hx; rw [if_pos hx]; simpa using hx
    · rename_i hx
      rw [if_neg hx]
      have:=zez p l (by simp at h; omega)
      simpa using this
theorem ziu (p:Int→Bool):∀ l,zas p l < l.length↔∃ x∈l,p x=true
  | []=>by simp [zas]
  | x::l=>by
    unfold zas
    by_cases hx:p x=true
    · rw [if_pos hx]; simp [hx]
    · rw [if_neg hx]
      have:=ziu p l
      simp [hx] at this ⊢
      exact this
theorem znn {x n:Int} (hx:WT (.int .i64) x) (hn:0 < n) (hn':n≤4611686018427387904):d24 x n=some (x % n):=by
  have hx':=wt_int hx
  unfold d24
  have h0:n ≠ 0:=by omega
  have h1:-n < Int.tmod x n:=Int.lt_tmod_of_pos x hn
  have h2:Int.tmod x n < n:=Int.tmod_lt_of_pos x hn
  have h3:w (Int.tmod x n)=Int.tmod x n:=w_id (by omega) (by omega)
  have h4:w (Int.tmod x n+n)=Int.tmod x n+n:=w_id (by omega) (by omega)
  have h5:Int.tmod (Int.tmod x n+n) n=x % n:=by
    have h6:0≤Int.tmod x n+n:=by omega
    rw [Int.tmod_eq_emod_of_nonneg h6,Int.add_emod_right]
    rw [Int.tmod_eq_emod]
    split
    · simp
    · have:((n.natAbs:Int))=n:=Int.natAbs_of_nonneg (by omega)
      rw [this,Int.sub_emod_right]
      exact Int.emod_emod_of_dvd x (Int.dvd_refl n)
  have h7:w (x % n)=x % n:=w_id (by have:=Int.emod_nonneg x h0; omega) (by have:=Int.emod_lt_of_pos x hn; omega)
  simp [h0,h3,h4,h5,h7]
theorem zkq (x:Int) {n:Int} (hn:0 < n):0≤x % n∧x % n < n:=⟨Int.emod_nonneg x (by omega),Int.emod_lt_of_pos x hn⟩
theorem d189_eq {s:List Int} (v:Int) (hs:s.length≤281474976710656):d189 s v=some (if zas (fun x=>decide (v=x)) s < s.length then (zas (fun x=>decide (v=x)) s:Int) else -1):=by
  unfold d189
  have hle:=zey (fun x=>decide (v=x)) s
  have hstep:∀ i,i < zas (fun x=>decide (v=x)) s→w ((i:Int)+1)=((i+1:Nat):Int):=fun i hi=>by rw [w_id (by omega) (by omega)]; omega
  by_cases h:zas (fun x=>decide (v=x)) s < s.length
  · have hat:=zez _ s h
    refine zac (b:=.inr (zas (fun x=>decide (v=x)) s:Int)) (fun i=>(s,v,(s.length:Int),(i:Int))) (zas (fun x=>decide (v=x)) s) rfl ?_ ?_ (by simp [h])
    · intro i hi
      have h1:=zcq _ s i hi
      have h2:(i:Int) < (s.length:Int):=by omega
      have h3:(0:Int)≤(i:Int):=by omega
      simp only [decide_eq_false_iff_not,List.getD_eq_getElem?_getD] at h1
      simp [h2,h3,h1,hstep i hi]
    · have h2:(zas (fun x=>decide (v=x)) s:Int) < (s.length:Int):=by omega
      have h3:(0:Int)≤(zas (fun x=>decide (v=x)) s:Int):=by omega
      simp only [decide_eq_true_eq,List.getD_eq_getElem?_getD] at hat
      simp [h2,h3,← hat]
  · refine zac (b:=.inl ()) (fun i=>(s,v,(s.length:Int),(i:Int))) s.length rfl ?_ ?_ (by simp [h])
    · intro i hi
      have h1:=zcq (fun x=>decide (v=x)) s i (by omega)
      have h2:(i:Int) < (s.length:Int):=by omega
      have h3:(0:Int)≤(i:Int):=by omega
      simp only [decide_eq_false_iff_not,List.getD_eq_getElem?_getD] at h1
      simp [h2,h3,h1,hstep i (by omega)]
    · simp
theorem d49_eq {l:List Int} (x:Int) (hs:l.length≤281474976710656):d49 l x=some (decide (x∈l)):=by
  unfold d49
  have hle:=zey (fun y=>decide (y=x)) l
  have hm:=ziu (fun y=>decide (y=x)) l
  have hstep:∀ i,i < zas (fun y=>decide (y=x)) l→w ((i:Int)+1)=((i+1:Nat):Int):=fun i hi=>by rw [w_id (by omega) (by omega)]; omega
  by_cases h:zas (fun y=>decide (y=x)) l < l.length
  · have hat:=zez _ l h
    have hx:x∈l:=by obtain ⟨z,h1,h2⟩:=hm.1 h; have:=of_decide_eq_true h2; rw [← this]; exact h1
    refine zac (b:=.inr true) (fun i=>(l,x,(i:Int))) (zas (fun y=>decide (y=x)) l) rfl ?_ ?_ (by simp [hx])
    · intro i hi
      have h1:=zcq _ l i hi
      have h2:(i:Int) < (l.length:Int):=by omega
      have h3:(0:Int)≤(i:Int):=by omega
      simp only [decide_eq_false_iff_not,List.getD_eq_getElem?_getD] at h1
      simp [h2,h3,h1,hstep i hi]
    · have h2:(zas (fun y=>decide (y=x)) l:Int) < (l.length:Int):=by omega
      have h3:(0:Int)≤(zas (fun y=>decide (y=x)) l:Int):=by omega
      simp only [decide_eq_true_eq,List.getD_eq_getElem?_getD] at hat
      simp [h2,h3,hat]
  · have hx:x ∉ l:=fun hv=>h (hm.2 ⟨x,hv,by simp⟩)
    refine zac (b:=.inl ()) (fun i=>(l,x,(i:Int))) l.length rfl ?_ ?_ (by simp [hx])
    · intro i hi
      have h1:=zcq (fun y=>decide (y=x)) l i (by omega)
      have h2:(i:Int) < (l.length:Int):=by omega
      have h3:(0:Int)≤(i:Int):=by omega
      simp only [decide_eq_false_iff_not,List.getD_eq_getElem?_getD] at h1
      simp [h2,h3,h1,hstep i (by omega)]
    · simp
end Go.Proofs.YtmipjomnjkmdbaaGreat
